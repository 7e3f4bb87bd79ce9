import Derived.Test.YtmbkpfkkohpnkaaUa
set_option linter.unusedVariables false
set_option linter.unusedSimpArgs false
namespace Go.Proofs.Ytmbkpfkkohpnkaa
open Go Go.Proofs Go.RowKit

set_option maxRecDepth 100000 in
set_option maxHeartbeats 1000000 in
theorem read2_any (t : Tar) (a b c v : Value) (x : Tp) (cs : List Int) (TB CB : Nat) (w : World) (hT : w.heap[TB]? = some (.cells #[.int .i64 t.zones, a, b, c, .int .i64 t.window] 32 (0, 0))) (hC : w.heap[CB]? = some (.cells #[v] 22 (0, 0)))
    (hv : NumsAt .i64 w v cs) (h4 : cs.length = 4) (hc : ∀ y ∈ cs, 0 ≤ y ∧ y ≤ 50) :
    Calls Try.prog 83 #[.agg #[.int .i64 x.machine, .int .i64 x.number, .int .i64 x.card, .int .i64 x.ride.day, .int .i64 x.ride.minute, .int .i64 x.ride.low, .int .i64 x.ride.high], .pointer (some ⟨TB, 0, none⟩), .pointer (some ⟨CB, 0, none⟩)] w (Gives w (.bool (tapB t cs x))) := by
  obtain ⟨A0, k0, rfl, _, _⟩ := hv.form
  have qa := box_cells hT
  have qc := box_cells hC 0
  have HT := Lib.hid hT
  have HC := Lib.hid hC
  have Hv := Lib.hid hv
  have H4 := Lib.hid h4
  clear qa qc hT hC hv h4
  go_enter Try.func83, Try.ntmps83
  go_upto_region 1 with (fail)
  refine wp_name (fun W => Below w.heap.size w W ∧ W.heap[w.heap.size]? = some (.cells #[.int .i64 x.machine, .int .i64 x.number, .int .i64 x.card, .int .i64 x.ride.day, .int .i64 x.ride.minute, .int .i64 x.ride.low, .int .i64 x.ride.high] 91 (0, 0))) ⟨(Below.refl _ _).alloc (Nat.le_refl _) _, heap_alloc_new w _⟩ (fun W hW => ?_)
  obtain ⟨hb, hP⟩ := hW
  have qa := box_cells ((hb.block _ (Array.getElem?_eq_some_iff.1 HT.out).1).trans HT.out)
  have a5 := box_cells ((hb.block _ (Array.getElem?_eq_some_iff.1 HC.out).1).trans HC.out) 0
  have qp := box_cells hP
  have a0 := qa 0
  have a1 := qa 1
  have a2 := qa 2
  have a3 := qa 3
  have a4 := qa 4
  have b0 := qp 0
  have b1 := qp 1
  have b2 := qp 2
  have b3 := qp 3
  have b4 := qp 4
  have b5 := qp 5
  have b6 := qp 6
  simp only [List.getElem?_toArray, List.getElem?_cons_zero, List.getElem?_cons_succ] at a0 a1 a2 a3 a4 a5 b0 b1 b2 b3 b4 b5 b6
  clear qa qp hP
  go_wp2_with fail
  refine (tap_any t a b c _ x cs W (Hv.out.below hb) H4.out hc).mono ?_
  rintro e w2 ⟨rfl, hb2⟩
  clear a0 a1 a2 a3 a4 a5 b0 b1 b2 b3 b4 b5 b6
  go_wp2
  go_ret
  exact ⟨rfl, hb.trans (hb2.mono hb.size)⟩
theorem read2_val (t : Tar) (a b c v : Value) (x : Tp) (cs : List Int) (TB CB : Nat) (w : World) (hT : w.heap[TB]? = some (.cells #[.int .i64 t.zones, a, b, c, .int .i64 t.window] 32 (0, 0))) (hC : w.heap[CB]? = some (.cells #[v] 22 (0, 0)))
    (hv : NumsAt .i64 w v cs) (h4 : cs.length = 4) (hc : ∀ y ∈ cs, 0 ≤ y ∧ y ≤ 50) :
    CallsVal Try.prog (.func (.func 83) #[] #[.pointer (some ⟨TB, 0, none⟩), .pointer (some ⟨CB, 0, none⟩)]) #[.agg #[.int .i64 x.machine, .int .i64 x.number, .int .i64 x.card, .int .i64 x.ride.day, .int .i64 x.ride.minute, .int .i64 x.ride.low, .int .i64 x.ride.high]] w (Gives w (.bool (tapB t cs x))) :=
  ⟨83, _, by kernel_rfl, read2_any t a b c v x cs TB CB w hT hC hv h4 hc⟩
end Go.Proofs.Ytmbkpfkkohpnkaa
