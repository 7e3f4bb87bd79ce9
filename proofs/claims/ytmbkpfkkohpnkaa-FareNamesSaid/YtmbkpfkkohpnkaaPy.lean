import Derived.Test.YtmbkpfkkohpnkaaPu
set_option linter.unusedVariables false
set_option linter.unusedSimpArgs false
namespace Go.Proofs.Ytmbkpfkkohpnkaa
open Go Go.Proofs Go.RowKit

set_option maxRecDepth 100000 in
set_option maxHeartbeats 8000000 in
theorem pay_any (W0 : World) (t : Tar) (a b c rv : Value) (l : List Rd) (Lb Cb Vb Pb C K : Nat) (hr : Rode t l) (hT : TarAt W0 a b c t) (hR : RdsAt W0 rv l) :
    ∀ (m : Nat) (now : List Bool) (w : World) (n : Nat) (F : Value → Option Value), now.length = 12 → openN l now < m → PaySt W0 t a b c rv l Lb Cb Vb Pb C K w n F →
      Calls Try.prog 78 #[nowV now, .pointer (some ⟨Lb, 0, none⟩), .pointer (some ⟨Cb, 0, none⟩), .pointer (some ⟨Vb, 0, none⟩), .pointer (some ⟨Pb, 0, none⟩)] w (GivesPay W0 t a b c rv l Lb Cb Vb Pb C K now w F) := by
  intro m
  induction m with
  | zero => exact fun _ _ _ _ _ h _ => absurd h (by omega)
  | succ m ih =>
    intro now w n F hnow hop hst
    have Ih := Lib.hid ih
    clear ih
    obtain ⟨Ar, cr, rfl, hcr, hmr⟩ := hR.form
    have hlen := hr.len
    obtain ⟨b0, b1, b2, b3, b4, b5, b6, b7, b8, b9, b10, b11, hnow12⟩ := twelve hnow
    have hval : nowV now = .agg #[.bool b0, .bool b1, .bool b2, .bool b3, .bool b4, .bool b5, .bool b6, .bool b7, .bool b8, .bool b9, .bool b10, .bool b11] := by rw [hnow12]; rfl
    rw [hval]
    have hcell : ∀ (w : World) (B i : Nat), i < 12 → w.heap[B]? = some (.cells #[.bool b0, .bool b1, .bool b2, .bool b3, .bool b4, .bool b5, .bool b6, .bool b7, .bool b8, .bool b9, .bool b10, .bool b11] 130 (0, 0)) → w.cell? ⟨B, i, none⟩ = some (.bool (isC now i)) := fun w B i hi hB => by
      rw [box_cells hB, hnow12]
      have h1 : ([b0, b1, b2, b3, b4, b5, b6, b7, b8, b9, b10, b11].map Value.bool)[i]? = some (.bool (isC [b0, b1, b2, b3, b4, b5, b6, b7, b8, b9, b10, b11] i)) := by
        rw [List.getElem?_map, isC]
        have : i < [b0, b1, b2, b3, b4, b5, b6, b7, b8, b9, b10, b11].length := hi
        rw [List.getElem?_eq_getElem this]
        rfl
      simpa using h1
    have Hr := Lib.hid hr
    have HT := Lib.hid hT
    have HR := Lib.hid hR
    have Hnow := Lib.hid hnow
    have Hop := Lib.hid hop
    have Hst := Lib.hid hst
    have Hval := Lib.hid hval
    have Hcell := Lib.hid hcell
    clear hr hT hR hnow hop hst hval hcell hnow12
    go_enter Try.func78, Try.ntmps78
    go_upto_region 1 with (fail)
    refine wp_name (fun W => Below w.heap.size w W ∧ w.heap.size + 1 < W.heap.size ∧ W.heap[w.heap.size]? = some (.cells #[.bool b0, .bool b1, .bool b2, .bool b3, .bool b4, .bool b5, .bool b6, .bool b7, .bool b8, .bool b9, .bool b10, .bool b11] 130 (0, 0)) ∧ W.heap[w.heap.size + 1]? = some (.cells #[.slice none 0 0, .int .i64 0] 99 (0, 0))) ⟨two_below w _ _, by simp, (Below.heap_alloc _ _ _ (by simp)).trans (heap_alloc_new w _), heap_alloc2_new w _ _⟩ (fun W hW => ?_)
    obtain ⟨hb1, hs1, hN0, hR0⟩ := hW
    have hst1 := Hst.out.below hb1
    have HN0 := Lib.hid hN0
    have HR0 := Lib.hid hR0
    have Hst1 := Lib.hid hst1
    have Hb1 := Lib.hid hb1
    have g0 := box_cells hst1.lb 0
    simp only [List.getElem?_toArray, List.getElem?_cons_zero] at g0
    have hcl := fun i hi => Hcell.out W w.heap.size i hi hN0
    have HC := Lib.hid hcl
    clear hN0 hR0 hst1 hb1 hcl
    go_wp2
    go_loop [7] (fun s => ∃ k : Nat, k ≤ l.length ∧ s = .int .i64 k ∧ ∀ i, i < k → isC now i = true) (fun s => l.length - (intOf s).toNat)
    case atStart => exact ⟨0, by omega, rfl, by omega⟩
    case round =>
      obtain ⟨k, hk, rfl, hall⟩ := hrel
      have Hall := Lib.hid hall
      clear hall
      by_cases hlt : k < l.length
      · have cN := HC.out k (by omega)
        have i0 : (k : Int) < (l.length : Int) := by omega
        have i1 : (k : Int) < 12 := by omega
        cases hn : isC now k with
        | true =>
          rw [hn] at cN
          have Hn := Lib.hid hn
          clear hn
          go_wp2
          go_round
          case rel =>
            refine ⟨k + 1, by omega, by go_num, fun i hi => ?_⟩
            by_cases e : i = k
            · subst e; exact Hn.out
            · exact Hall.out i (by omega)
          case measure => simp [intOf]; omega
        | false =>
          rw [hn] at cN
          have hfi : first l now = k := first_is (by omega) Hall.out (fun _ => hn)
          have Hfi := Lib.hid hfi
          have i2 : ((k : Int) == (l.length : Int)) = false := by simp; omega
          clear hn hfi
          have e2 := Hst1.out
          have qcb := box_cells e2.cb 0
          have qch := box_cells e2.ch 6
          have qn := box_cells HN0.out
          simp only [List.getElem?_toArray, List.getElem?_cons_zero, List.getElem?_cons_succ] at qcb qch
          obtain ⟨ky, hky⟩ := now_key Hnow.out
          have hlk := fun (x : Meets (fun w' => Below W.heap.size W w')) => ((e2.known.below x.property).look cov_law Try.underlying125 (bill_zero x.val) hky).2
          rw [Hval.out] at hlk
          have hd : Below W.heap.size W W.drew := (Below.refl _ _).drew
          have Hlk := Lib.hid hlk
          clear e2 hlk hky
          cases hF : F (nowV now) with
          | some v =>
            obtain ⟨A1, k1, rfl, hown⟩ := Hst1.out.val now v Hnow.out hF
            have hlk := Hlk.out
            rw [← Hval.out, hF] at hlk
            rw [Hval.out] at hlk
            simp only [Option.getD_some, Option.isSome_some] at hlk
            have Hown := Lib.hid hown
            obtain ⟨q, hq⟩ : ∃ q, pay t l now = q := ⟨_, rfl⟩
            rw [hq] at Hown hlk
            have Hq := Lib.hid hq
            clear hown hF hq
            go_wp2_with fail
            refine wp_region_noPanic ?_
            refine wp_region_pick [0, 1, 2, 3, 4, 5, 6, 7, 8] [9, 10, 11] (fun _ => true) (fun w' => Below W.heap.size W w') (by kernel_rfl) (by kernel_rfl) (fun _ _ _ _ _ h => h) hd (fun hne => ?_)
            have m0 := fun x : Meets (fun w' => Below W.heap.size W w') => cell_below x.property qcb
            have m1 := fun x : Meets (fun w' => Below W.heap.size W w') => cell_below x.property qch
            have n0 := fun x : Meets (fun w' => Below W.heap.size W w') => cell_below x.property (qn 0)
            have n1 := fun x : Meets (fun w' => Below W.heap.size W w') => cell_below x.property (qn 1)
            have n2 := fun x : Meets (fun w' => Below W.heap.size W w') => cell_below x.property (qn 2)
            have n3 := fun x : Meets (fun w' => Below W.heap.size W w') => cell_below x.property (qn 3)
            have n4 := fun x : Meets (fun w' => Below W.heap.size W w') => cell_below x.property (qn 4)
            have n5 := fun x : Meets (fun w' => Below W.heap.size W w') => cell_below x.property (qn 5)
            have n6 := fun x : Meets (fun w' => Below W.heap.size W w') => cell_below x.property (qn 6)
            have n7 := fun x : Meets (fun w' => Below W.heap.size W w') => cell_below x.property (qn 7)
            have n8 := fun x : Meets (fun w' => Below W.heap.size W w') => cell_below x.property (qn 8)
            have n9 := fun x : Meets (fun w' => Below W.heap.size W w') => cell_below x.property (qn 9)
            have n10 := fun x : Meets (fun w' => Below W.heap.size W w') => cell_below x.property (qn 10)
            have n11 := fun x : Meets (fun w' => Below W.heap.size W w') => cell_below x.property (qn 11)
            simp only [pick, pickN, List.filterMap_cons, List.filterMap_nil, List.getElem?_cons_zero, List.getElem?_cons_succ, Option.map_some]
            repeat (change wpQuiet _ _ _ _ (_ :: _) _; go_big_quiet_step (fail))
            refine wpQuiet_nil ?_
            clear m0 m1 n0 n1 n2 n3 n4 n5 n6 n7 n8 n9 n10 n11 hne hlk
            refine wpSeqP_step (fun K hK => ?_)
            go_simp
            refine hK.out _ _ (fun _ => hd.alloc (Nat.le_refl _) _) ?_
            clear hK K
            refine wpSeqP_step (fun K hK => ?_)
            go_simp
            refine hK.out _ _ (fun _ => hd.alloc (Nat.le_refl _) _) ?_
            clear hK K
            refine wpSeqP_step (fun K hK => ?_)
            go_simp
            refine hK.out _ _ (fun _ => hd.alloc (Nat.le_refl _) _) ?_
            clear hK K
            refine wpSeqP_nil ?_
            refine NoPanic.normal ?_
            refine then_name (fun V => Below W.heap.size W V ∧ V.heap[W.heap.size]? = some (.cells #[.slice A1 q.2.length k1, .int .i64 q.1] 99 (0, 0))) ⟨((Below.refl _ _).alloc (Nat.le_refl _) _).drew, heap_alloc_new W _⟩ (fun V hV => ?_)
            obtain ⟨hbV, hB8⟩ := hV
            have hRV := (hbV.block _ hs1).trans HR0.out
            have k0 := box_cells hRV 0
            have k1' := box_cells hRV 1
            have f0 := box_frozen hRV 0
            have f1 := box_frozen hRV 1
            have l0 := box_cells hB8 0
            have l1 := box_cells hB8 1
            simp only [List.getElem?_toArray, List.getElem?_cons_zero, List.getElem?_cons_succ] at k0 k1' l0 l1
            have HRV := Lib.hid hRV
            have HbV := Lib.hid hbV
            clear hRV hbV hB8 hd qcb qch qn
            go_wp2
            obtain ⟨z0, z1, z2, z3⟩ := bill_set (s := .slice A1 q.2.length k1) (p := .int .i64 q.1) HRV.out
            have hb := Hb1.out
            have hbV := HbV.out
            have hbw := hb.trans (hbV.mono hb.size)
            refine bodyPost_ret (v := .agg #[.slice A1 q.2.length k1, .int .i64 q.1]) (by simp [results, Try.results78, go_sem, z0, z1]) rfl ?_
            have hba : BillAt V (.agg #[.slice A1 q.2.length k1, .int .i64 q.1]) q := ⟨A1, k1, rfl, own_below Hown.out hbV⟩
            refine ⟨_, n, F, rfl, ?_, (Hst1.out.below hbV).kept z3 HRV.out (by decide) (by have := Hst.out.bel.size; omega), grown_newK (grownK hbw) (by omega) z3, fun m _ h1 h2 => absurd h1 h2⟩
            rw [Hq.out]
            exact hba.kept z3 (fun cu fr e => by rw [HRV.out] at e; cases e)
          | none =>
            have hlk := Hlk.out
            rw [← Hval.out, hF] at hlk
            rw [Hval.out] at hlk
            simp only [Option.getD_none, Option.isSome_none] at hlk
            have HF := Lib.hid hF
            clear hF
            go_wp2_with fail
            refine wp_region_noPanic ?_
            refine wp_region_pick [0, 1, 2, 3, 4, 5, 6, 7, 8] [9, 10, 11] (fun _ => true) (fun w' => Below W.heap.size W w') (by kernel_rfl) (by kernel_rfl) (fun _ _ _ _ _ h => h) hd (fun hne => ?_)
            have m0 := fun x : Meets (fun w' => Below W.heap.size W w') => cell_below x.property qcb
            have m1 := fun x : Meets (fun w' => Below W.heap.size W w') => cell_below x.property qch
            have n0 := fun x : Meets (fun w' => Below W.heap.size W w') => cell_below x.property (qn 0)
            have n1 := fun x : Meets (fun w' => Below W.heap.size W w') => cell_below x.property (qn 1)
            have n2 := fun x : Meets (fun w' => Below W.heap.size W w') => cell_below x.property (qn 2)
            have n3 := fun x : Meets (fun w' => Below W.heap.size W w') => cell_below x.property (qn 3)
            have n4 := fun x : Meets (fun w' => Below W.heap.size W w') => cell_below x.property (qn 4)
            have n5 := fun x : Meets (fun w' => Below W.heap.size W w') => cell_below x.property (qn 5)
            have n6 := fun x : Meets (fun w' => Below W.heap.size W w') => cell_below x.property (qn 6)
            have n7 := fun x : Meets (fun w' => Below W.heap.size W w') => cell_below x.property (qn 7)
            have n8 := fun x : Meets (fun w' => Below W.heap.size W w') => cell_below x.property (qn 8)
            have n9 := fun x : Meets (fun w' => Below W.heap.size W w') => cell_below x.property (qn 9)
            have n10 := fun x : Meets (fun w' => Below W.heap.size W w') => cell_below x.property (qn 10)
            have n11 := fun x : Meets (fun w' => Below W.heap.size W w') => cell_below x.property (qn 11)
            simp only [pick, pickN, List.filterMap_cons, List.filterMap_nil, List.getElem?_cons_zero, List.getElem?_cons_succ, Option.map_some]
            repeat (change wpQuiet _ _ _ _ (_ :: _) _; go_big_quiet_step (fail))
            refine wpQuiet_nil ?_
            clear m0 m1 n0 n1 n2 n3 n4 n5 n6 n7 n8 n9 n10 n11 hne hlk
            refine wpSeqP_step (fun K hK => ?_)
            go_simp
            refine hK.out _ _ (fun _ => hd.alloc (Nat.le_refl _) _) ?_
            clear hK K
            refine wpSeqP_step (fun K hK => ?_)
            go_simp
            refine hK.out _ _ (fun _ => hd.alloc (Nat.le_refl _) _) ?_
            clear hK K
            refine wpSeqP_step (fun K hK => ?_)
            go_simp
            refine hK.out _ _ (fun _ => hd.alloc (Nat.le_refl _) _) ?_
            clear hK K
            refine wpSeqP_nil ?_
            refine NoPanic.normal ?_
            refine then_name (fun V => Below W.heap.size W V) ((Below.refl _ _).alloc (Nat.le_refl _) _).drew (fun V hbV => ?_)
            have hstV := Hst1.out.below hbV
            have hNV := (hbV.block _ (by omega)).trans HN0.out
            have hRV := (hbV.block _ hs1).trans HR0.out
            have hsV := hbV.size
            have HwV := Lib.hid (Hb1.out.trans (hbV.mono Hb1.out.size))
            clear hd qcb qch qn hbV g0 HC
            go_upto_region 10 with (fail)
            refine wp_name (fun V2 => Below V.heap.size V V2 ∧ V2.heap[V.heap.size]? = some (.cells #[.slice none 0 0, .int .i64 (-1)] 99 (0, 0))) ⟨(Below.refl _ _).alloc (Nat.le_refl _) _, heap_alloc_new V _⟩ (fun V2 hV2 => ?_)
            obtain ⟨hb2, hB2⟩ := hV2
            have hst2 := hstV.below hb2
            have hN2 := (hb2.block _ (by omega)).trans hNV
            have hR2 := (hb2.block _ (by omega)).trans hRV
            have hs2 := hb2.size
            have hw2 := HwV.out.trans (hb2.mono HwV.out.size)
            obtain ⟨bb, oo, r, rfl, hrk, r0, r1, r2, r3, _⟩ := (HR.out.below hst2.bel).at_ hlt
            have hrm : r ∈ l := List.mem_of_getElem? hrk
            have hride := Hr.out.ride r hrm
            have Hrk := Lib.hid hrk
            have qcb := box_cells hst2.cb 0
            have qlb := box_cells hst2.lb 0
            have qch := box_cells hst2.ch
            have hct : ChTar V2 C t a b c := ⟨by rw [qch]; rfl, by rw [qch]; rfl, by rw [qch]; rfl, by rw [qch]; rfl, by rw [qch]; rfl⟩
            simp only [List.getElem?_toArray, List.getElem?_cons_zero] at qcb qlb
            have i0 : (k : Int) < (l.length : Int) := by omega
            have hd : Below V2.heap.size V2 V2.drew := (Below.refl _ _).drew
            clear hrk hstV hNV hRV hb2 qch
            refine wp_region_noPanic ?_
            refine wp_region_pick [0, 1, 2, 3, 4, 7] [5, 6] (fun _ => true) (fun w' => Below V2.heap.size V2 w') (by kernel_rfl) (by kernel_rfl) (fun _ _ _ _ _ h => h) hd (fun hne => ?_)
            have n0 := fun x : Meets (fun w' => Below V2.heap.size V2 w') => cell_below x.property qcb
            have n1 := fun x : Meets (fun w' => Below V2.heap.size V2 w') => cell_below x.property qlb
            have n2 := fun x : Meets (fun w' => Below V2.heap.size V2 w') => cell_below x.property r0
            have n3 := fun x : Meets (fun w' => Below V2.heap.size V2 w') => cell_below x.property r1
            have n4 := fun x : Meets (fun w' => Below V2.heap.size V2 w') => cell_below x.property r2
            have n5 := fun x : Meets (fun w' => Below V2.heap.size V2 w') => cell_below x.property r3
            simp only [pick, pickN, List.filterMap_cons, List.filterMap_nil, List.getElem?_cons_zero, List.getElem?_cons_succ, Option.map_some]
            repeat (change wpQuiet _ _ _ _ (_ :: _) _; go_big_quiet_step (fail))
            refine wpQuiet_nil ?_
            clear n0 n1 n2 n3 n4 n5 hne qcb qlb r0 r1 r2 r3
            refine wpSeqP_step (fun K hK => ?_)
            go_simp
            refine (offers_any C t a b c r _ (hct.below hd) Hr.out.tar hride).mono ?_
            rintro e V3 ⟨A5, k5, rfl, ho5, hb3⟩
            have hb3' := hd.trans (hb3.mono hd.size)
            refine hK.out _ _ (fun _ => hb3') ?_
            clear hK K
            refine wpSeqP_step (fun K hK => ?_)
            go_simp
            refine hK.out _ _ (fun _ => hb3') ?_
            clear hK K
            refine wpSeqP_nil ?_
            refine NoPanic.normal ?_
            have hst3 := hst2.below hb3'
            have hN3 := (hb3'.block _ (by omega)).trans hN2
            have hR3 := (hb3'.block _ (by omega)).trans hR2
            have hB3 := (hb3'.block _ (Array.getElem?_eq_some_iff.1 hB2).1).trans hB2
            have hw3 := hw2.trans (hb3'.mono hw2.size)
            have ho6 := own_mono ho5 (Nat.zero_le _)
            obtain ⟨Bb, hBb⟩ : ∃ Bb, V.heap.size = Bb := ⟨_, rfl⟩
            obtain ⟨Nb, hNb⟩ : ∃ Nb, w.heap.size = Nb := ⟨_, rfl⟩
            have hBb0 : w.heap.size + 1 < Bb := by omega
            rw [hBb] at hB3 ⊢
            have H1 := Lib.hid hst3
            have H2 := Lib.hid hN3
            have H3 := Lib.hid hR3
            have H4 := Lib.hid hB3
            have H5 := Lib.hid hw3
            have H6 := Lib.hid ho6
            clear hst3 hN3 hR3 hB3 hw3 ho5 ho6 hb3 hb3' hst2 hN2 hR2 hB2 hw2 hct hd hs2 hBb hNb HwV hsV
            have hof := fun x hx => offer_ok Hr.out.tar hride hrm (x := x) hx
            have hol := offers_le Hr.out.tar hride
            have hpayr := pay_some Hr.out (now := now) (r := r) (by rw [Hfi.out]; exact Hrk.out)
            have hnx := fun x (hx : x ∈ offersL t r) => open_next (x := x) (now := now) Hr.out.len (by rw [Hfi.out]; exact Hrk.out) (hof x hx).1
            have Hof := Lib.hid hof
            have Hpay := Lib.hid hpayr
            have Hnx := Lib.hid hnx
            clear hof hpayr hnx
            generalize offersL t r = O at *
            obtain ⟨A5', k5', e5, hk5, hk5m⟩ := (tks_own H6.out).form
            cases e5
            go_wp2
            go_loopw [53] (fun s wr => ∃ (j n' : Nat) (F' : Value → Option Value) (A1 : Option Addr) (k1 : Nat) (q : Int × List Tk), j ≤ O.length ∧ s = .int .i64 j ∧ PaySt W0 t a b c (.slice (some ⟨bb, oo, none⟩) l.length cr) l Lb Cb Vb Pb C K wr n' F' ∧ w.grownBy wr (some K) ∧
              wr.heap[w.heap.size]? = some (.cells #[.bool b0, .bool b1, .bool b2, .bool b3, .bool b4, .bool b5, .bool b6, .bool b7, .bool b8, .bool b9, .bool b10, .bool b11] 130 (0, 0)) ∧ wr.heap[w.heap.size + 1]? = some (.cells #[.slice none 0 0, .int .i64 0] 99 (0, 0)) ∧ wr.heap[Bb]? = some (.cells #[.slice A1 q.2.length k1, .int .i64 q.1] 99 (0, 0)) ∧
              wr.ownsRow 0 89 5 (.slice A1 q.2.length k1) q.2.length (q.2.flatMap tkC) ∧ wr.ownsRow 0 89 5 (.slice A5 O.length k5) O.length (O.flatMap tkC) ∧ q = foldP t (fun x => pay t l (nextC t l x now)) (O.take j) (-1, []) ∧
              ∀ m : List Bool, m.length = 12 → F (nowV m) = none → F' (nowV m) ≠ none → openN l m < openN l now) (fun s wr => O.length - (intOf s).toNat)
            case atStart => exact ⟨0, n, F, none, 0, (-1, []), by omega, rfl, H1.out, grownK H5.out, H2.out, H3.out, H4.out, World.ownsRow_nil _ _ _ _, H6.out, rfl, fun m _ h1 h2 => absurd h1 h2⟩
            case round =>
              obtain ⟨j, n', F', A1, k1, q, hj, rfl, hstr, hgr, hNr, hRr, hBr, hor, hOr, hq, hnewk⟩ := hrel
              have G1 := Lib.hid hstr
              have G2 := Lib.hid hgr
              have G3 := Lib.hid hNr
              have G4 := Lib.hid hRr
              have G5 := Lib.hid hBr
              have G6 := Lib.hid hor
              have G7 := Lib.hid hOr
              have G8 := Lib.hid hq
              have G9 := Lib.hid hnewk
              clear hstr hgr hNr hRr hBr hor hOr hq hnewk H1 H2 H3 H4 H5 H6
              obtain ⟨wo, rfl⟩ : ∃ wo : World, wo = wr := ⟨_, rfl⟩
              by_cases hjl : j < O.length
              · obtain ⟨xb, xo, x, e, hx, x0, x1, x2, x3, x4, hxb⟩ := (tks_own G7.out).at_ hjl
                subst e
                have hxm : x ∈ O := List.mem_of_getElem? hx
                obtain ⟨hxc, hxk, _⟩ := Hof.out x hxm
                have Hx := Lib.hid hx
                have Hxm := Lib.hid hxm
                have Hxk := Lib.hid hxk
                have i3 : (j : Int) < (O.length : Int) := by omega
                have s3 := (Array.getElem?_eq_some_iff.1 G3.out).1
                have s4 := (Array.getElem?_eq_some_iff.1 G4.out).1
                have s5 := (Array.getElem?_eq_some_iff.1 G5.out).1
                clear hx hxm hxk hxc
                go_upto_region 13 with (fail)
                refine wp_name (fun V => Below wo.heap.size wo V ∧ wo.heap.size < V.heap.size ∧ V.heap[wo.heap.size]? = some (.cells #[.int .u8 (x.kind : Int), .int .i64 x.low, .int .i64 x.high, .int .i64 x.day, .int .i64 x.minute] 89 (0, 0))) ⟨(Below.refl _ _).alloc (Nat.le_refl _) _, by simp, heap_alloc_new wo _⟩ (fun wp hV => ?_)
                obtain ⟨hbp, hsp, hXp⟩ := hV
                have qn := box_cells ((hbp.block _ s3).trans G3.out)
                have qn0 := qn 0
                have qn1 := qn 1
                have qn2 := qn 2
                have qn3 := qn 3
                have qn4 := qn 4
                have qn5 := qn 5
                have qn6 := qn 6
                have qn7 := qn 7
                have qn8 := qn 8
                have qn9 := qn 9
                have qn10 := qn 10
                have qn11 := qn 11
                simp only [List.getElem?_toArray, List.getElem?_cons_zero, List.getElem?_cons_succ] at qn0 qn1 qn2 qn3 qn4 qn5 qn6 qn7 qn8 qn9 qn10 qn11
                clear qn x0 x1 x2 x3 x4
                obtain ⟨Xb, hXb⟩ : ∃ Xb, wo.heap.size = Xb := ⟨_, rfl⟩
                go_upto_region 14 with (fail)
                refine wp_name (fun V => Below wp.heap.size wp V ∧ wp.heap.size < V.heap.size ∧ V.heap[wp.heap.size]? = some (.cells #[.bool b0, .bool b1, .bool b2, .bool b3, .bool b4, .bool b5, .bool b6, .bool b7, .bool b8, .bool b9, .bool b10, .bool b11] 130 (0, 0))) ⟨(Below.refl _ _).alloc (Nat.le_refl _) _, by simp, heap_alloc_new wp _⟩ (fun wq hV => ?_)
                obtain ⟨hbq, hsq, hYq⟩ := hV
                obtain ⟨Yb, hYb⟩ : ∃ Yb, wp.heap.size = Yb := ⟨_, rfl⟩
                have hbo := hbp.trans (hbq.mono hbp.size)
                have hXq := (hbq.block _ hsp).trans hXp
                have hstq := G1.out.below hbo
                have hYnow : wq.heap[wp.heap.size]? = some (.cells (now.map .bool).toArray 130 (0, 0)) := by
                  rw [hYq]
                  have h := Hval.out
                  unfold nowV at h
                  injection h with h
                  rw [h]
                have qlb := box_cells hstq.lb 0
                simp only [List.getElem?_toArray, List.getElem?_cons_zero] at qlb
                have hXY : wo.heap.size < wp.heap.size := hsp
                rw [hYb] at hYnow hYq hsq hXY ⊢
                rw [hXb] at hXq hXp hXY ⊢
                have J1 := Lib.hid hbo
                have J2 := Lib.hid hXq
                have J3 := Lib.hid hYnow
                have J4 := Lib.hid hstq
                have JX := Lib.hid hXb
                have JY := Lib.hid hYb
                clear qn0 qn1 qn2 qn3 qn4 qn5 qn6 qn7 qn8 qn9 qn10 qn11 hbp hbq hbo hXp hXq hYq hstq hYnow hXb hYb hsp
                go_wp2
                go_loopw [60] (fun s wr => ∃ (i : Nat), i ≤ l.length ∧ s = .int .i64 i ∧ wq.grownBy wr (some Yb) ∧ wr.heap[Yb]? = some (.cells ((covUp t l x now i).map .bool).toArray 130 (0, 0))) (fun s wr => l.length - (intOf s).toNat)
                case atStart => exact ⟨0, by omega, rfl, World.grownBy.refl _ _, by rw [covUp_zero t l x Hnow.out]; exact J3.out⟩
                case round =>
                  obtain ⟨i, hi, rfl, hgi, hYi⟩ := hrel
                  obtain ⟨ws, rfl⟩ : ∃ ws : World, ws = wr := ⟨_, rfl⟩
                  have hsti := J4.out.kept hgi J3.out (by decide) (by have := Hst.out.bel.size; have := Hb1.out.size; have := JX.out; have := JY.out; omega)
                  have hXi : ws.heap[Xb]? = _ := (hgi.block _ (Array.getElem?_eq_some_iff.1 J2.out).1 (fun e => by injection e; omega)).trans J2.out
                  have M1 := Lib.hid hgi
                  have M2 := Lib.hid hYi
                  have M3 := Lib.hid hsti
                  have M4 := Lib.hid hXi
                  clear hgi hYi hsti hXi
                  by_cases hil : i < l.length
                  · have i4 : (i : Int) < (l.length : Int) := by omega
                    have i5 : (i : Int) < 12 := by omega
                    obtain ⟨bb', oo', s, e, hsl, s0, s1, s2, s3', _⟩ := (HR.out.below M3.out.bel).at_ hil
                    cases e
                    have Hsl := Lib.hid hsl
                    clear hsl
                    go_upto_region 17 with (fail)
                    refine wp_name (fun V => Below ws.heap.size ws V ∧ V.heap[ws.heap.size]? = some (.cells #[.int .i64 s.day, .int .i64 s.minute, .int .i64 s.low, .int .i64 s.high] 70 (0, 0))) ⟨(Below.refl _ _).alloc (Nat.le_refl _) _, heap_alloc_new ws _⟩ (fun wv hV => ?_)
                    obtain ⟨hbv, hSv⟩ := hV
                    have hYv := (hbv.block _ (Array.getElem?_eq_some_iff.1 M2.out).1).trans M2.out
                    have hXv := (hbv.block _ (Array.getElem?_eq_some_iff.1 M4.out).1).trans M4.out
                    have cY := now_cell hYv (covUp_len t l x now i) (by omega : i < 12)
                    have fY := box_frozen hYv i
                    have hgv : wq.grownBy wv (some Yb) := grown_transK M1.out (grownK hbv)
                    have N1 := Lib.hid hYv
                    have N2 := Lib.hid hgv
                    clear s0 s1 s2 s3'
                    cases hb : isC (covUp t l x now i) i with
                    | true =>
                      rw [hb] at cY
                      have Hhb := Lib.hid hb
                      clear hb hYv hXv hSv hbv hgv
                      go_wp2
                      go_roundw
                      case rel =>
                        refine ⟨i + 1, by omega, by go_num, grown_set (N2.out) _ _, ?_⟩
                        rw [covUp_succ (by omega) Hsl.out]
                        have hv : (isC (covUp t l x now i) i || covB t x s) = true := by rw [Hhb.out]; simp
                        rw [hv]
                        exact now_set N1.out i true
                      case measure => simp [intOf]; omega
                    | false =>
                      rw [hb] at cY
                      have Hhb := Lib.hid hb
                      have hstv := M3.out.below hbv
                      have qv := box_cells hstv.vb 0
                      have qx := box_cells hXv
                      have qs := box_cells hSv
                      have qx0 := qx 0
                      have qx1 := qx 1
                      have qx2 := qx 2
                      have qx3 := qx 3
                      have qx4 := qx 4
                      have qs0 := qs 0
                      have qs1 := qs 1
                      have qs2 := qs 2
                      have qs3 := qs 3
                      simp only [List.getElem?_toArray, List.getElem?_cons_zero, List.getElem?_cons_succ] at qv qx0 qx1 qx2 qx3 qx4 qs0 qs1 qs2 qs3
                      obtain ⟨k2, _, k4⟩ := tkB_iff.1 Hxk.out
                      have hxm0 : 0 ≤ x.minute ∧ x.minute ≤ 1439 := by
                        split at k4
                        · exact k4.2
                        · have := k4.1; omega
                      have hwz := tar_pos Hr.out.tar
                      have Hcov := Lib.hid (covers_any t a b c x s wv (by omega) hxm0 ⟨by omega, by omega⟩)
                      obtain ⟨cv, hcv⟩ : ∃ cv, covB t x s = cv := ⟨_, rfl⟩
                      rw [hcv] at Hcov
                      have Hcv := Lib.hid hcv
                      clear hb hYv hXv hSv hbv hgv hstv qx qs hcv k2 k4 hxm0 hwz
                      go_wp2_with fail
                      refine Hcov.out.mono ?_
                      rintro e wu ⟨rfl, hbu⟩
                      have hYu := (hbu.block _ (Array.getElem?_eq_some_iff.1 N1.out).1).trans N1.out
                      have cYu := now_cell hYu (covUp_len t l x now i) (by omega : i < 12)
                      have fYu := box_frozen hYu i
                      have N3 := Lib.hid hYu
                      have N4 := Lib.hid (grown_transK N2.out (grownK hbu))
                      clear hYu hbu cY fY qv qx0 qx1 qx2 qx3 qx4 qs0 qs1 qs2 qs3
                      go_wp2
                      go_roundw
                      case rel =>
                        refine ⟨i + 1, by omega, by go_num, grown_set (N4.out) _ _, ?_⟩
                        rw [covUp_succ (by omega) Hsl.out]
                        have hv : (isC (covUp t l x now i) i || covB t x s) = cv := by rw [Hhb.out]; simp [Hcv.out]
                        rw [hv]
                        exact now_set N3.out i cv
                      case measure => simp [intOf]; omega
                  · obtain rfl : i = l.length := by omega
                    have hYn : ws.heap[Yb]? = some (.cells ((nextC t l x now).map .bool).toArray 130 (0, 0)) := by rw [← covUp_all]; exact M2.out
                    have y0 := now_cell hYn (nextC_len t l x now) (by omega : 0 < 12)
                    have y1 := now_cell hYn (nextC_len t l x now) (by omega : 1 < 12)
                    have y2 := now_cell hYn (nextC_len t l x now) (by omega : 2 < 12)
                    have y3 := now_cell hYn (nextC_len t l x now) (by omega : 3 < 12)
                    have y4 := now_cell hYn (nextC_len t l x now) (by omega : 4 < 12)
                    have y5 := now_cell hYn (nextC_len t l x now) (by omega : 5 < 12)
                    have y6 := now_cell hYn (nextC_len t l x now) (by omega : 6 < 12)
                    have y7 := now_cell hYn (nextC_len t l x now) (by omega : 7 < 12)
                    have y8 := now_cell hYn (nextC_len t l x now) (by omega : 8 < 12)
                    have y9 := now_cell hYn (nextC_len t l x now) (by omega : 9 < 12)
                    have y10 := now_cell hYn (nextC_len t l x now) (by omega : 10 < 12)
                    have y11 := now_cell hYn (nextC_len t l x now) (by omega : 11 < 12)
                    have qp := box_cells M3.out.pb 0
                    simp only [List.getElem?_toArray, List.getElem?_cons_zero] at qp
                    have hcall := Ih.out (nextC t l x now) ws n' F' (nextC_len t l x now) (by have := Hnx.out x Hxm.out; have := Hop.out; omega) M3.out
                    rw [nowV_is (nextC_len t l x now)] at hcall
                    have Hcall := Lib.hid hcall
                    have i6 : ¬ (l.length : Int) < (l.length : Int) := by omega
                    clear hcall hYn
                    go_wp2_with fail
                    refine Hcall.out.mono ?_
                    rintro e w6 ⟨v, n2, F2, rfl, ⟨A2, k2, rfl, ho2⟩, hst2, hg2, hnew2⟩
                    have nc : ∀ {i : Nat} {xs : Array Value} {U : TypeId}, ws.heap[i]? = some (.cells xs U (0, 0)) → w6.heap[i]? = some (.cells xs U (0, 0)) := fun {i xs U} hi => (hg2.block _ (Array.getElem?_eq_some_iff.1 hi).1 (fun e => by injection e with e; subst e; exact M3.out.known.notCells hi rfl)).trans hi
                    have ncK : ∀ cur fr, ws.heap[K]? ≠ some (.cells cur 89 fr) := fun cur fr e => M3.out.known.notCells e rfl
                    have hbos : wo.grownBy ws (some Yb) := grown_transK (grownK J1.out) M1.out
                    have hXoY : wo.heap.size < Yb := by have := JX.out; omega
                    have oldb : ∀ {i : Nat} {xs : Array Value} {U : TypeId}, wo.heap[i]? = some (.cells xs U (0, 0)) → ws.heap[i]? = some (.cells xs U (0, 0)) := fun {i xs U} hi => (hbos.block _ (Array.getElem?_eq_some_iff.1 hi).1 (fun e => by have := (Array.getElem?_eq_some_iff.1 hi).1; injection e; omega)).trans hi
                    have ownb : ∀ {v : Value} {n : Nat} {xs : List Value}, wo.ownsRow 0 89 5 v n xs → w6.ownsRow 0 89 5 v n xs := fun {v n xs} h => own_keptT (own_keptT (own_below h J1.out) M1.out (fun cu fr e => by rw [J3.out] at e; cases e)) hg2 ncK
                    have hX6 := nc M4.out
                    have hN6 := nc (oldb G3.out)
                    have hR6 := nc (oldb G4.out)
                    have hB6 := nc (oldb G5.out)
                    have hor6 := ownb G6.out
                    have hO6 := ownb G7.out
                    have hw6 : w.grownBy w6 (some K) := grown_transK (grown_newK G2.out (by have := G2.out.size; omega) (grown_transK (grownK J1.out) M1.out)) hg2
                    have R1 := Lib.hid hX6
                    have R2 := Lib.hid hN6
                    have R3 := Lib.hid hR6
                    have R4 := Lib.hid hB6
                    have R5 := Lib.hid hor6
                    have R6 := Lib.hid hO6
                    have R7 := Lib.hid hw6
                    have R8 := Lib.hid hst2
                    have R9 := Lib.hid ho2
                    have Rn := Lib.hid (fun m (hm : m.length = 12) (h1 : F (nowV m) = none) (h2 : F2 (nowV m) ≠ none) => show openN l m < openN l now by
                      by_cases h3 : F' (nowV m) = none
                      · have h4 := hnew2 m hm h3 h2
                        have h5 := Hnx.out x Hxm.out
                        omega
                      · exact G9.out m hm h1 h3)
                    have hpd := pay_bd Hr.out (nextC t l x now)
                    have hpf := pay_few Hr.out (nextC t l x now)
                    have hpx := price_bd Hr.out.tar x
                    obtain ⟨q2, hq2⟩ : ∃ q2, pay t l (nextC t l x now) = q2 := ⟨_, rfl⟩
                    rw [hq2] at R9 hpd hpf
                    rw [hq2]
                    have Hq2 := Lib.hid hq2
                    clear hX6 hN6 hR6 hB6 hor6 hO6 hw6 hst2 ho2 nc ncK hbos oldb ownb hg2 hnew2 hq2 Hcall qp y0 y1 y2 y3 y4 y5 y6 y7 y8 y9 y10 y11 G2 G3 G4 G5 G6 G7 J1 J2 J3 J4 M1 M2 M3 M4
                    go_upto_region 20 with (fail)
                    refine wp_name (fun V => Below w6.heap.size w6 V ∧ w6.heap.size < V.heap.size ∧ V.heap[w6.heap.size]? = some (.cells #[.slice A2 q2.2.length k2, .int .i64 q2.1] 99 (0, 0))) ⟨(Below.refl _ _).alloc (Nat.le_refl _) _, by simp, heap_alloc_new w6 _⟩ (fun w7 hV => ?_)
                    obtain ⟨hb7, hs7, hL7⟩ := hV
                    obtain ⟨Zb, hZb⟩ : ∃ Zb, w6.heap.size = Zb := ⟨_, rfl⟩
                    have hst7 := R8.out.below hb7
                    have hX7 := (hb7.block _ (Array.getElem?_eq_some_iff.1 R1.out).1).trans R1.out
                    rw [hZb] at hL7 ⊢
                    have qcb := box_cells hst7.cb 0
                    have qch := box_cells hst7.ch
                    have qx := box_cells hX7
                    have ql := box_cells hL7 1
                    have u0 := qch 0
                    have u1 := qch 1
                    have u2 := qch 2
                    have u3 := qch 3
                    have u4 := qch 4
                    have v0 := qx 0
                    have v1 := qx 1
                    have v2 := qx 2
                    have v3 := qx 3
                    have v4 := qx 4
                    simp only [List.getElem?_toArray, List.getElem?_cons_zero, List.getElem?_cons_succ] at qcb u0 u1 u2 u3 u4 v0 v1 v2 v3 v4 ql
                    have hd : Below w7.heap.size w7 w7.drew := (Below.refl _ _).drew
                    have qw : IntKind.i64.wrap (priceT t x + q2.1) = priceT t x + q2.1 := IntWalk.i64_in _ (by omega)
                    have T1 := Lib.hid hX7
                    have T2 := Lib.hid hL7
                    have T3 := Lib.hid hb7
                    have T4 := Lib.hid hst7
                    clear hX7 hL7 hb7 hst7 qch qx
                    refine wp_region_noPanic ?_
                    refine wp_region_pick [0, 1, 2, 3, 4, 6, 7] [5, 8, 9] (fun _ => true) (fun w' => Below w7.heap.size w7 w') (by kernel_rfl) (by kernel_rfl) (fun _ _ _ _ _ h => h) hd (fun hne => ?_)
                    have n0 := fun x : Meets (fun w' => Below w7.heap.size w7 w') => cell_below x.property qcb
                    have n1 := fun x : Meets (fun w' => Below w7.heap.size w7 w') => cell_below x.property u0
                    have n2 := fun x : Meets (fun w' => Below w7.heap.size w7 w') => cell_below x.property u1
                    have n3 := fun x : Meets (fun w' => Below w7.heap.size w7 w') => cell_below x.property u2
                    have n4 := fun x : Meets (fun w' => Below w7.heap.size w7 w') => cell_below x.property u3
                    have n5 := fun x : Meets (fun w' => Below w7.heap.size w7 w') => cell_below x.property u4
                    have n6 := fun x : Meets (fun w' => Below w7.heap.size w7 w') => cell_below x.property v0
                    have n7 := fun x : Meets (fun w' => Below w7.heap.size w7 w') => cell_below x.property v1
                    have n8 := fun x : Meets (fun w' => Below w7.heap.size w7 w') => cell_below x.property v2
                    have n9 := fun x : Meets (fun w' => Below w7.heap.size w7 w') => cell_below x.property v3
                    have n10 := fun x : Meets (fun w' => Below w7.heap.size w7 w') => cell_below x.property v4
                    have n11 := fun x : Meets (fun w' => Below w7.heap.size w7 w') => cell_below x.property ql
                    simp only [pick, pickN, List.filterMap_cons, List.filterMap_nil, List.getElem?_cons_zero, List.getElem?_cons_succ, Option.map_some]
                    repeat (change wpQuiet _ _ _ _ (_ :: _) _; go_big_quiet_step (fail))
                    refine wpQuiet_nil ?_
                    clear n0 n1 n2 n3 n4 n5 n6 n7 n8 n9 n10 n11 hne qcb u0 u1 u2 u3 u4 v0 v1 v2 v3 v4 ql
                    refine wpSeqP_step (fun K hK => ?_)
                    go_simp
                    refine (price_any t a b c x _ (HT.out.below (T4.out.below hd).bel) Hr.out.tar Hxk.out).mono ?_
                    rintro e w8 ⟨rfl, hb8⟩
                    have hb78 := hd.trans (hb8.mono hd.size)
                    refine hK.out _ _ (fun _ => hb78) ?_
                    clear hK K
                    refine wpSeqP_step (fun K hK => ?_)
                    go_simp
                    refine hK.out _ _ (fun _ => hb78) ?_
                    clear hK K
                    refine wpSeqP_step (fun K hK => ?_)
                    go_simp
                    refine hK.out _ _ (fun _ => hb78) ?_
                    clear hK K
                    refine wpSeqP_nil ?_
                    refine NoPanic.normal ?_
                    generalize hpp : priceT t x + q2.1 = pp at *
                    have Hpp := Lib.hid hpp
                    have hb68 := T3.out.trans (hb78.mono T3.out.size)
                    have hX8 := (hb78.block _ (Array.getElem?_eq_some_iff.1 T1.out).1).trans T1.out
                    have hL8 := (hb78.block _ (Array.getElem?_eq_some_iff.1 T2.out).1).trans T2.out
                    have b6 : ∀ {i : Nat} {o : Obj}, w6.heap[i]? = some o → w8.heap[i]? = some o := fun {i o} hi => (hb68.block _ (Array.getElem?_eq_some_iff.1 hi).1).trans hi
                    have hN8 := b6 R2.out
                    have hR8 := b6 R3.out
                    have hB8 := b6 R4.out
                    have U1 := Lib.hid hX8
                    have U2 := Lib.hid hL8
                    have U3 := Lib.hid hN8
                    have U4 := Lib.hid hR8
                    have U5 := Lib.hid hB8
                    have U6 := Lib.hid (own_below R5.out hb68)
                    have U7 := Lib.hid (own_below R6.out hb68)
                    have U8 := Lib.hid (own_below R9.out hb68)
                    have U9 := Lib.hid (R8.out.below hb68)
                    have Uw := Lib.hid (grown_transK R7.out (grownK hb68))
                    have qb1 := box_cells hB8 1
                    have qb0 := box_cells hB8 0
                    have fb0 := box_frozen hB8 0
                    have fb1 := box_frozen hB8 1
                    have ql0 := box_cells hL8 0
                    have qx := box_cells hX8
                    have v0 := qx 0
                    have v1 := qx 1
                    have v2 := qx 2
                    have v3 := qx 3
                    have v4 := qx 4
                    simp only [List.getElem?_toArray, List.getElem?_cons_zero, List.getElem?_cons_succ] at qb0 qb1 ql0 v0 v1 v2 v3 v4
                    clear hpp hb68 hX8 hL8 b6 hN8 hR8 hB8 R1 R2 R3 R4 R5 R6 R7 R8 R9 T1 T2 T3 T4 hb78 hb8 hd qx
                    have hstep : foldP t (fun x => pay t l (nextC t l x now)) (O.take (j + 1)) (-1, []) = better t x q2 q := by
                      rw [List.take_succ_eq_append_getElem hjl, foldP_snoc, ← G8.out]
                      have hxe : O[j] = x := by have := Hx.out; rw [List.getElem?_eq_getElem hjl] at this; exact Option.some.inj this
                      rw [hxe, Hq2.out]
                    have Hstep := Lib.hid hstep
                    clear hstep
                    by_cases hbet : q.1 < 0 ∨ pp < q.1
                    · have hb2 : better t x q2 q = (pp, q2.2 ++ [x]) := by unfold better; rw [Hpp.out, if_pos hbet]
                      have Hb2 := Lib.hid hb2
                      have hor : (decide (q.1 < 0) || decide (pp < q.1)) = true := by simpa using hbet
                      have hb0 : decide (q.1 < 0) = true ∨ (decide (q.1 < 0) = false ∧ decide (pp < q.1) = true) := by
                        by_cases h : q.1 < 0
                        · left; simpa using h
                        · right; refine ⟨by simpa using h, ?_⟩; rcases hbet with h1 | h1
                          · exact absurd h1 h
                          · simpa using h1
                      clear hb2 hor hbet
                      obtain ⟨i0, hi0, hz0, hz1, hz2⟩ := info_parts info_tks
                      have hbig : q.1 < 0 ∨ (¬ q.1 < 0 ∧ pp < q.1) := by
                        rcases hb0 with h | ⟨h, h1⟩
                        · left; simpa using h
                        · right; exact ⟨by simpa using h, by simpa using h1⟩
                      clear hb0
                      rcases hbig with h1 | ⟨h1, h2⟩
                      · go_upto_region 22 with (fail)
                        have hd8 : Below w8.heap.size w8 w8.drew := (Below.refl _ _).drew
                        refine wp_region_noPanic ?_
                        refine wp_region_pickA [0, 1, 3, 6] 5 (fun j => j != 8) (fun w' => Below w8.heap.size w8 w') (by kernel_rfl) (by kernel_rfl) (fun _ _ _ _ _ h => h) hd8 (fun hne => ?_)
                        have n0 := fun x : Meets (fun w' => Below w8.heap.size w8 w') => cell_below x.property ql0
                        have n1 := fun x : Meets (fun w' => Below w8.heap.size w8 w') => cell_below x.property v0
                        have n2 := fun x : Meets (fun w' => Below w8.heap.size w8 w') => cell_below x.property v1
                        have n3 := fun x : Meets (fun w' => Below w8.heap.size w8 w') => cell_below x.property v2
                        have n4 := fun x : Meets (fun w' => Below w8.heap.size w8 w') => cell_below x.property v3
                        have n5 := fun x : Meets (fun w' => Below w8.heap.size w8 w') => cell_below x.property v4
                        simp only [pick, pickN, List.filterMap_cons, List.filterMap_nil, List.getElem?_cons_zero, List.getElem?_cons_succ, Option.map_some]
                        repeat (change wpQuiet _ _ _ _ (_ :: _) _; go_big_quiet_step (fail))
                        refine wpQuiet_nil ?_
                        clear n0 n1 n2 n3 n4 n5 hne ql0 v0 v1 v2 v3 v4 qb0 qb1 fb0 fb1
                        refine wpAnyF_two (i := 2) (j := 4) (by kernel_rfl) rfl rfl (fun K hK => ?_) (fun K hK => ?_)
                        · go_simp
                          refine (clone_tks _ q2.2 _ (tks_own (own_below U8.out hd8)) (by omega)).mono ?_
                          rintro e wA ⟨A7, k7, rfl, ho7, hb7⟩
                          have hbA := hd8.trans (hb7.mono hd8.size)
                          refine hK.out _ _ (fun _ => hbA) ?_
                          clear hK K
                          refine wpAnyF_one (i := 4) (by kernel_rfl) rfl (fun K hK => ?_)
                          go_simp
                          have hbc := hbA.alloc hbA.size (.cells #[.int .u8 (x.kind : Int), .int .i64 x.low, .int .i64 x.high, .int .i64 x.day, .int .i64 x.minute] 89)
                          refine hK.out _ _ (fun _ => hbc) ?_
                          clear hK K
                          have how := ho7.alloc (.cells #[.int .u8 (x.kind : Int), .int .i64 x.low, .int .i64 x.high, .int .i64 x.day, .int .i64 x.minute] 89)
                          have hgc := heap_alloc_new wA (.cells #[.int .u8 (x.kind : Int), .int .i64 x.low, .int .i64 x.high, .int .i64 x.day, .int .i64 x.minute] 89)
                          have hBc := (hbc.block _ (Array.getElem?_eq_some_iff.1 U5.out).1).trans U5.out
                          obtain ⟨g7, hg7⟩ : ∃ g7, wA.heap.size = g7 := ⟨_, rfl⟩
                          rw [hg7] at hgc ⊢
                          have how : (wA.alloc (.cells #[.int .u8 (x.kind : Int), .int .i64 x.low, .int .i64 x.high, .int .i64 x.day, .int .i64 x.minute] 89)).ownsRow w8.heap.size 89 5 (.slice A7 q2.2.length k7) q2.2.length (q2.2.flatMap tkC) := how
                          generalize wA.alloc (.cells #[.int .u8 (x.kind : Int), .int .i64 x.low, .int .i64 x.high, .int .i64 x.day, .int .i64 x.minute] 89) = wc at *
                          have qb0c := box_cells hBc 0
                          have qb1c := box_cells hBc 1
                          have fb0c := box_frozen hBc 0
                          have fb1c := box_frozen hBc 1
                          simp only [List.getElem?_toArray, List.getElem?_cons_zero, List.getElem?_cons_succ] at qb0c qb1c
                          refine wpAnyF_one (i := 5) (by kernel_rfl) rfl (fun K hK => ?_)
                          refine step_append_src _ rfl (.tmp 100) (.tmp 102) 34 rfl w8.heap.size 89 i0 _ 5 40 Try.underlying34 hi0 hz0 hz1 hz2 rfl (by omega) _ q2.2.length _ rfl how (some ⟨g7, 0, none⟩) 1 1 [.int .u8 (x.kind : Int), .int .i64 x.low, .int .i64 x.high, .int .i64 x.day, .int .i64 x.minute] rfl (src_box (xs := [.int .u8 (x.kind : Int), .int .i64 x.low, .int .i64 x.high, .int .i64 x.day, .int .i64 x.minute]) hgc rfl) (by simp [Value.oneCell']) (by unfold maxLen; omega) (by omega) hbc.size ?_
                          intro A9 k9 wd hown9 hg9 hat9
                          have hbd : Below w8.heap.size w8 wd := below_grown hbc hg9 hbc.size how (Nat.le_refl _)
                          have bd : ∀ {i : Nat} {xs : Array Value} {U : TypeId}, w8.heap[i]? = some (.cells xs U (0, 0)) → wd.heap[i]? = some (.cells xs U (0, 0)) := fun {i xs U} hi => (hbd.block _ (Array.getElem?_eq_some_iff.1 hi).1).trans hi
                          have hBd := bd U5.out
                          refine hK.out _ _ (fun _ => hbd) ?_
                          clear hK K
                          refine wpAnyF_one (i := 7) (by kernel_rfl) rfl (fun K hK => ?_)
                          go_simp
                          refine hK.out _ _ (fun _ => hbd) ?_
                          clear hK K qb0c qb1c fb0c fb1c
                          have qb0d := box_cells hBd 0
                          have qb1d := box_cells hBd 1
                          have fb0d := box_frozen hBd 0
                          have fb1d := box_frozen hBd 1
                          simp only [List.getElem?_toArray, List.getElem?_cons_zero, List.getElem?_cons_succ] at qb0d qb1d
                          refine wpAnyF_one (i := 8) (by kernel_rfl) rfl (fun K hK => ?_)
                          go_simp
                          refine hK.out _ _ (fun h => by cases h) ?_
                          clear hK K
                          refine wpAnyF_done (by kernel_rfl) ?_ _
                          refine NoPanic.normal ?_
                          obtain ⟨z0, z1, z2, z3⟩ := bill_set (s := .slice A9 (q2.2.length + 1) k9) (p := .int .i64 pp) hBd
                          have X1 := Lib.hid z2
                          have X2 := Lib.hid z3
                          have X3 := Lib.hid hBd
                          have X4 := Lib.hid hbd
                          have X5 := Lib.hid hown9
                          clear z0 z1 z2 z3 hBd hbd hown9 hg9 hat9 bd qb0d qb1d fb0d fb1d
                          go_wp2
                          go_roundw
                          case rel =>
                            have hbd := X4.out
                            have hnb : ∀ {i : Nat} {xs : Array Value} {U : TypeId}, w8.heap[i]? = some (.cells xs U (0, 0)) → i ≠ Bb → _ := fun {i xs U} hi hne => ((X2.out.block _ (Nat.lt_of_lt_of_le (Array.getElem?_eq_some_iff.1 hi).1 hbd.size) (fun e => hne (by injection e))).trans (hbd.block _ (Array.getElem?_eq_some_iff.1 hi).1)).trans hi
                            have hBt : ∀ cur fr, wd.heap[Bb]? ≠ some (.cells cur 89 fr) := fun cu fr e => by rw [X3.out] at e; cases e
                            have hl9 : (q2.2 ++ [x]).length = q2.2.length + 1 := by simp
                            refine ⟨j + 1, n2, F2, A9, k9, (pp, q2.2 ++ [x]), by omega, by go_num, (U9.out.below hbd).kept X2.out X3.out (by decide) (by have := Hst.out.bel.size; omega), grown_newK (grown_transK Uw.out (grownK hbd)) (by omega) X2.out, hnb U3.out (by omega), hnb U4.out (by omega), by rw [hl9]; exact X1.out, ?_, own_keptT (own_below U7.out hbd) X2.out hBt, by rw [Hstep.out, Hb2.out], Rn.out⟩
                            have h9 := own_keptT (own_mono X5.out (Nat.zero_le _)) X2.out hBt
                            have e9 : (q2.2 ++ [x]).flatMap tkC = q2.2.flatMap tkC ++ [.int .u8 (x.kind : Int), .int .i64 x.low, .int .i64 x.high, .int .i64 x.day, .int .i64 x.minute] := by simp [tkC]
                            rw [hl9, e9]
                            exact h9
                          case measure => simp [intOf]; omega
                        · go_simp
                          have hbA := hd8.alloc (Nat.le_refl _) (.cells #[.int .u8 (x.kind : Int), .int .i64 x.low, .int .i64 x.high, .int .i64 x.day, .int .i64 x.minute] 89)
                          have hgA := heap_alloc_new w8.drew (.cells #[.int .u8 (x.kind : Int), .int .i64 x.low, .int .i64 x.high, .int .i64 x.day, .int .i64 x.minute] 89)
                          refine hK.out _ _ (fun _ => hbA) ?_
                          clear hK K
                          refine wpAnyF_one (i := 2) (by kernel_rfl) rfl (fun K hK => ?_)
                          go_simp
                          refine (clone_tks _ q2.2 _ (tks_own (own_below U8.out hbA)) (by omega)).mono ?_
                          rintro e wc ⟨A7, k7, rfl, ho7, hb7⟩
                          have hbc := hbA.trans (hb7.mono hbA.size)
                          refine hK.out _ _ (fun _ => hbc) ?_
                          clear hK K
                          have how := own_mono ho7 hbA.size
                          have hgc := (hb7.block _ (Array.getElem?_eq_some_iff.1 hgA).1).trans hgA
                          have hBc := (hbc.block _ (Array.getElem?_eq_some_iff.1 U5.out).1).trans U5.out
                          obtain ⟨g7, hg7⟩ : ∃ g7, w8.drew.heap.size = g7 := ⟨_, rfl⟩
                          have hg7' : w8.heap.size = g7 := hg7
                          rw [hg7] at hgc
                          rw [hg7']
                          have qb0c := box_cells hBc 0
                          have qb1c := box_cells hBc 1
                          have fb0c := box_frozen hBc 0
                          have fb1c := box_frozen hBc 1
                          simp only [List.getElem?_toArray, List.getElem?_cons_zero, List.getElem?_cons_succ] at qb0c qb1c
                          refine wpAnyF_one (i := 5) (by kernel_rfl) rfl (fun K hK => ?_)
                          refine step_append_src _ rfl (.tmp 100) (.tmp 102) 34 rfl w8.heap.size 89 i0 _ 5 40 Try.underlying34 hi0 hz0 hz1 hz2 rfl (by omega) _ q2.2.length _ rfl how (some ⟨g7, 0, none⟩) 1 1 [.int .u8 (x.kind : Int), .int .i64 x.low, .int .i64 x.high, .int .i64 x.day, .int .i64 x.minute] rfl (src_box (xs := [.int .u8 (x.kind : Int), .int .i64 x.low, .int .i64 x.high, .int .i64 x.day, .int .i64 x.minute]) hgc rfl) (by simp [Value.oneCell']) (by unfold maxLen; omega) (by omega) hbc.size ?_
                          intro A9 k9 wd hown9 hg9 hat9
                          have hbd : Below w8.heap.size w8 wd := below_grown hbc hg9 hbc.size how (Nat.le_refl _)
                          have bd : ∀ {i : Nat} {xs : Array Value} {U : TypeId}, w8.heap[i]? = some (.cells xs U (0, 0)) → wd.heap[i]? = some (.cells xs U (0, 0)) := fun {i xs U} hi => (hbd.block _ (Array.getElem?_eq_some_iff.1 hi).1).trans hi
                          have hBd := bd U5.out
                          refine hK.out _ _ (fun _ => by rw [← hg7']; exact hbd) ?_
                          clear hK K
                          refine wpAnyF_one (i := 7) (by kernel_rfl) rfl (fun K hK => ?_)
                          go_simp
                          refine hK.out _ _ (fun _ => by rw [← hg7']; exact hbd) ?_
                          clear hK K qb0c qb1c fb0c fb1c
                          have qb0d := box_cells hBd 0
                          have qb1d := box_cells hBd 1
                          have fb0d := box_frozen hBd 0
                          have fb1d := box_frozen hBd 1
                          simp only [List.getElem?_toArray, List.getElem?_cons_zero, List.getElem?_cons_succ] at qb0d qb1d
                          refine wpAnyF_one (i := 8) (by kernel_rfl) rfl (fun K hK => ?_)
                          go_simp
                          refine hK.out _ _ (fun h => by cases h) ?_
                          clear hK K
                          refine wpAnyF_done (by kernel_rfl) ?_ _
                          refine NoPanic.normal ?_
                          obtain ⟨z0, z1, z2, z3⟩ := bill_set (s := .slice A9 (q2.2.length + 1) k9) (p := .int .i64 pp) hBd
                          have X1 := Lib.hid z2
                          have X2 := Lib.hid z3
                          have X3 := Lib.hid hBd
                          have X4 := Lib.hid hbd
                          have X5 := Lib.hid hown9
                          clear z0 z1 z2 z3 hBd hbd hown9 hg9 hat9 bd qb0d qb1d fb0d fb1d
                          go_wp2
                          go_roundw
                          case rel =>
                            have hbd := X4.out
                            have hnb : ∀ {i : Nat} {xs : Array Value} {U : TypeId}, w8.heap[i]? = some (.cells xs U (0, 0)) → i ≠ Bb → _ := fun {i xs U} hi hne => ((X2.out.block _ (Nat.lt_of_lt_of_le (Array.getElem?_eq_some_iff.1 hi).1 hbd.size) (fun e => hne (by injection e))).trans (hbd.block _ (Array.getElem?_eq_some_iff.1 hi).1)).trans hi
                            have hBt : ∀ cur fr, wd.heap[Bb]? ≠ some (.cells cur 89 fr) := fun cu fr e => by rw [X3.out] at e; cases e
                            have hl9 : (q2.2 ++ [x]).length = q2.2.length + 1 := by simp
                            refine ⟨j + 1, n2, F2, A9, k9, (pp, q2.2 ++ [x]), by omega, by go_num, (U9.out.below hbd).kept X2.out X3.out (by decide) (by have := Hst.out.bel.size; omega), grown_newK (grown_transK Uw.out (grownK hbd)) (by omega) X2.out, hnb U3.out (by omega), hnb U4.out (by omega), by rw [hl9]; exact X1.out, ?_, own_keptT (own_below U7.out hbd) X2.out hBt, by rw [Hstep.out, Hb2.out], Rn.out⟩
                            have h9 := own_keptT (own_mono X5.out (Nat.zero_le _)) X2.out hBt
                            have e9 : (q2.2 ++ [x]).flatMap tkC = q2.2.flatMap tkC ++ [.int .u8 (x.kind : Int), .int .i64 x.low, .int .i64 x.high, .int .i64 x.day, .int .i64 x.minute] := by simp [tkC]
                            rw [hl9, e9]
                            exact h9
                          case measure => simp [intOf]; omega
                      · go_upto_region 22 with (fail)
                        have hd8 : Below w8.heap.size w8 w8.drew := (Below.refl _ _).drew
                        refine wp_region_noPanic ?_
                        refine wp_region_pickA [0, 1, 3, 6] 5 (fun j => j != 8) (fun w' => Below w8.heap.size w8 w') (by kernel_rfl) (by kernel_rfl) (fun _ _ _ _ _ h => h) hd8 (fun hne => ?_)
                        have n0 := fun x : Meets (fun w' => Below w8.heap.size w8 w') => cell_below x.property ql0
                        have n1 := fun x : Meets (fun w' => Below w8.heap.size w8 w') => cell_below x.property v0
                        have n2 := fun x : Meets (fun w' => Below w8.heap.size w8 w') => cell_below x.property v1
                        have n3 := fun x : Meets (fun w' => Below w8.heap.size w8 w') => cell_below x.property v2
                        have n4 := fun x : Meets (fun w' => Below w8.heap.size w8 w') => cell_below x.property v3
                        have n5 := fun x : Meets (fun w' => Below w8.heap.size w8 w') => cell_below x.property v4
                        simp only [pick, pickN, List.filterMap_cons, List.filterMap_nil, List.getElem?_cons_zero, List.getElem?_cons_succ, Option.map_some]
                        repeat (change wpQuiet _ _ _ _ (_ :: _) _; go_big_quiet_step (fail))
                        refine wpQuiet_nil ?_
                        clear n0 n1 n2 n3 n4 n5 hne ql0 v0 v1 v2 v3 v4 qb0 qb1 fb0 fb1
                        refine wpAnyF_two (i := 2) (j := 4) (by kernel_rfl) rfl rfl (fun K hK => ?_) (fun K hK => ?_)
                        · go_simp
                          refine (clone_tks _ q2.2 _ (tks_own (own_below U8.out hd8)) (by omega)).mono ?_
                          rintro e wA ⟨A7, k7, rfl, ho7, hb7⟩
                          have hbA := hd8.trans (hb7.mono hd8.size)
                          refine hK.out _ _ (fun _ => hbA) ?_
                          clear hK K
                          refine wpAnyF_one (i := 4) (by kernel_rfl) rfl (fun K hK => ?_)
                          go_simp
                          have hbc := hbA.alloc hbA.size (.cells #[.int .u8 (x.kind : Int), .int .i64 x.low, .int .i64 x.high, .int .i64 x.day, .int .i64 x.minute] 89)
                          refine hK.out _ _ (fun _ => hbc) ?_
                          clear hK K
                          have how := ho7.alloc (.cells #[.int .u8 (x.kind : Int), .int .i64 x.low, .int .i64 x.high, .int .i64 x.day, .int .i64 x.minute] 89)
                          have hgc := heap_alloc_new wA (.cells #[.int .u8 (x.kind : Int), .int .i64 x.low, .int .i64 x.high, .int .i64 x.day, .int .i64 x.minute] 89)
                          have hBc := (hbc.block _ (Array.getElem?_eq_some_iff.1 U5.out).1).trans U5.out
                          obtain ⟨g7, hg7⟩ : ∃ g7, wA.heap.size = g7 := ⟨_, rfl⟩
                          rw [hg7] at hgc ⊢
                          have how : (wA.alloc (.cells #[.int .u8 (x.kind : Int), .int .i64 x.low, .int .i64 x.high, .int .i64 x.day, .int .i64 x.minute] 89)).ownsRow w8.heap.size 89 5 (.slice A7 q2.2.length k7) q2.2.length (q2.2.flatMap tkC) := how
                          generalize wA.alloc (.cells #[.int .u8 (x.kind : Int), .int .i64 x.low, .int .i64 x.high, .int .i64 x.day, .int .i64 x.minute] 89) = wc at *
                          have qb0c := box_cells hBc 0
                          have qb1c := box_cells hBc 1
                          have fb0c := box_frozen hBc 0
                          have fb1c := box_frozen hBc 1
                          simp only [List.getElem?_toArray, List.getElem?_cons_zero, List.getElem?_cons_succ] at qb0c qb1c
                          refine wpAnyF_one (i := 5) (by kernel_rfl) rfl (fun K hK => ?_)
                          refine step_append_src _ rfl (.tmp 100) (.tmp 102) 34 rfl w8.heap.size 89 i0 _ 5 40 Try.underlying34 hi0 hz0 hz1 hz2 rfl (by omega) _ q2.2.length _ rfl how (some ⟨g7, 0, none⟩) 1 1 [.int .u8 (x.kind : Int), .int .i64 x.low, .int .i64 x.high, .int .i64 x.day, .int .i64 x.minute] rfl (src_box (xs := [.int .u8 (x.kind : Int), .int .i64 x.low, .int .i64 x.high, .int .i64 x.day, .int .i64 x.minute]) hgc rfl) (by simp [Value.oneCell']) (by unfold maxLen; omega) (by omega) hbc.size ?_
                          intro A9 k9 wd hown9 hg9 hat9
                          have hbd : Below w8.heap.size w8 wd := below_grown hbc hg9 hbc.size how (Nat.le_refl _)
                          have bd : ∀ {i : Nat} {xs : Array Value} {U : TypeId}, w8.heap[i]? = some (.cells xs U (0, 0)) → wd.heap[i]? = some (.cells xs U (0, 0)) := fun {i xs U} hi => (hbd.block _ (Array.getElem?_eq_some_iff.1 hi).1).trans hi
                          have hBd := bd U5.out
                          refine hK.out _ _ (fun _ => hbd) ?_
                          clear hK K
                          refine wpAnyF_one (i := 7) (by kernel_rfl) rfl (fun K hK => ?_)
                          go_simp
                          refine hK.out _ _ (fun _ => hbd) ?_
                          clear hK K qb0c qb1c fb0c fb1c
                          have qb0d := box_cells hBd 0
                          have qb1d := box_cells hBd 1
                          have fb0d := box_frozen hBd 0
                          have fb1d := box_frozen hBd 1
                          simp only [List.getElem?_toArray, List.getElem?_cons_zero, List.getElem?_cons_succ] at qb0d qb1d
                          refine wpAnyF_one (i := 8) (by kernel_rfl) rfl (fun K hK => ?_)
                          go_simp
                          refine hK.out _ _ (fun h => by cases h) ?_
                          clear hK K
                          refine wpAnyF_done (by kernel_rfl) ?_ _
                          refine NoPanic.normal ?_
                          obtain ⟨z0, z1, z2, z3⟩ := bill_set (s := .slice A9 (q2.2.length + 1) k9) (p := .int .i64 pp) hBd
                          have X1 := Lib.hid z2
                          have X2 := Lib.hid z3
                          have X3 := Lib.hid hBd
                          have X4 := Lib.hid hbd
                          have X5 := Lib.hid hown9
                          clear z0 z1 z2 z3 hBd hbd hown9 hg9 hat9 bd qb0d qb1d fb0d fb1d
                          go_wp2
                          go_roundw
                          case rel =>
                            have hbd := X4.out
                            have hnb : ∀ {i : Nat} {xs : Array Value} {U : TypeId}, w8.heap[i]? = some (.cells xs U (0, 0)) → i ≠ Bb → _ := fun {i xs U} hi hne => ((X2.out.block _ (Nat.lt_of_lt_of_le (Array.getElem?_eq_some_iff.1 hi).1 hbd.size) (fun e => hne (by injection e))).trans (hbd.block _ (Array.getElem?_eq_some_iff.1 hi).1)).trans hi
                            have hBt : ∀ cur fr, wd.heap[Bb]? ≠ some (.cells cur 89 fr) := fun cu fr e => by rw [X3.out] at e; cases e
                            have hl9 : (q2.2 ++ [x]).length = q2.2.length + 1 := by simp
                            refine ⟨j + 1, n2, F2, A9, k9, (pp, q2.2 ++ [x]), by omega, by go_num, (U9.out.below hbd).kept X2.out X3.out (by decide) (by have := Hst.out.bel.size; omega), grown_newK (grown_transK Uw.out (grownK hbd)) (by omega) X2.out, hnb U3.out (by omega), hnb U4.out (by omega), by rw [hl9]; exact X1.out, ?_, own_keptT (own_below U7.out hbd) X2.out hBt, by rw [Hstep.out, Hb2.out], Rn.out⟩
                            have h9 := own_keptT (own_mono X5.out (Nat.zero_le _)) X2.out hBt
                            have e9 : (q2.2 ++ [x]).flatMap tkC = q2.2.flatMap tkC ++ [.int .u8 (x.kind : Int), .int .i64 x.low, .int .i64 x.high, .int .i64 x.day, .int .i64 x.minute] := by simp [tkC]
                            rw [hl9, e9]
                            exact h9
                          case measure => simp [intOf]; omega
                        · go_simp
                          have hbA := hd8.alloc (Nat.le_refl _) (.cells #[.int .u8 (x.kind : Int), .int .i64 x.low, .int .i64 x.high, .int .i64 x.day, .int .i64 x.minute] 89)
                          have hgA := heap_alloc_new w8.drew (.cells #[.int .u8 (x.kind : Int), .int .i64 x.low, .int .i64 x.high, .int .i64 x.day, .int .i64 x.minute] 89)
                          refine hK.out _ _ (fun _ => hbA) ?_
                          clear hK K
                          refine wpAnyF_one (i := 2) (by kernel_rfl) rfl (fun K hK => ?_)
                          go_simp
                          refine (clone_tks _ q2.2 _ (tks_own (own_below U8.out hbA)) (by omega)).mono ?_
                          rintro e wc ⟨A7, k7, rfl, ho7, hb7⟩
                          have hbc := hbA.trans (hb7.mono hbA.size)
                          refine hK.out _ _ (fun _ => hbc) ?_
                          clear hK K
                          have how := own_mono ho7 hbA.size
                          have hgc := (hb7.block _ (Array.getElem?_eq_some_iff.1 hgA).1).trans hgA
                          have hBc := (hbc.block _ (Array.getElem?_eq_some_iff.1 U5.out).1).trans U5.out
                          obtain ⟨g7, hg7⟩ : ∃ g7, w8.drew.heap.size = g7 := ⟨_, rfl⟩
                          have hg7' : w8.heap.size = g7 := hg7
                          rw [hg7] at hgc
                          rw [hg7']
                          have qb0c := box_cells hBc 0
                          have qb1c := box_cells hBc 1
                          have fb0c := box_frozen hBc 0
                          have fb1c := box_frozen hBc 1
                          simp only [List.getElem?_toArray, List.getElem?_cons_zero, List.getElem?_cons_succ] at qb0c qb1c
                          refine wpAnyF_one (i := 5) (by kernel_rfl) rfl (fun K hK => ?_)
                          refine step_append_src _ rfl (.tmp 100) (.tmp 102) 34 rfl w8.heap.size 89 i0 _ 5 40 Try.underlying34 hi0 hz0 hz1 hz2 rfl (by omega) _ q2.2.length _ rfl how (some ⟨g7, 0, none⟩) 1 1 [.int .u8 (x.kind : Int), .int .i64 x.low, .int .i64 x.high, .int .i64 x.day, .int .i64 x.minute] rfl (src_box (xs := [.int .u8 (x.kind : Int), .int .i64 x.low, .int .i64 x.high, .int .i64 x.day, .int .i64 x.minute]) hgc rfl) (by simp [Value.oneCell']) (by unfold maxLen; omega) (by omega) hbc.size ?_
                          intro A9 k9 wd hown9 hg9 hat9
                          have hbd : Below w8.heap.size w8 wd := below_grown hbc hg9 hbc.size how (Nat.le_refl _)
                          have bd : ∀ {i : Nat} {xs : Array Value} {U : TypeId}, w8.heap[i]? = some (.cells xs U (0, 0)) → wd.heap[i]? = some (.cells xs U (0, 0)) := fun {i xs U} hi => (hbd.block _ (Array.getElem?_eq_some_iff.1 hi).1).trans hi
                          have hBd := bd U5.out
                          refine hK.out _ _ (fun _ => by rw [← hg7']; exact hbd) ?_
                          clear hK K
                          refine wpAnyF_one (i := 7) (by kernel_rfl) rfl (fun K hK => ?_)
                          go_simp
                          refine hK.out _ _ (fun _ => by rw [← hg7']; exact hbd) ?_
                          clear hK K qb0c qb1c fb0c fb1c
                          have qb0d := box_cells hBd 0
                          have qb1d := box_cells hBd 1
                          have fb0d := box_frozen hBd 0
                          have fb1d := box_frozen hBd 1
                          simp only [List.getElem?_toArray, List.getElem?_cons_zero, List.getElem?_cons_succ] at qb0d qb1d
                          refine wpAnyF_one (i := 8) (by kernel_rfl) rfl (fun K hK => ?_)
                          go_simp
                          refine hK.out _ _ (fun h => by cases h) ?_
                          clear hK K
                          refine wpAnyF_done (by kernel_rfl) ?_ _
                          refine NoPanic.normal ?_
                          obtain ⟨z0, z1, z2, z3⟩ := bill_set (s := .slice A9 (q2.2.length + 1) k9) (p := .int .i64 pp) hBd
                          have X1 := Lib.hid z2
                          have X2 := Lib.hid z3
                          have X3 := Lib.hid hBd
                          have X4 := Lib.hid hbd
                          have X5 := Lib.hid hown9
                          clear z0 z1 z2 z3 hBd hbd hown9 hg9 hat9 bd qb0d qb1d fb0d fb1d
                          go_wp2
                          go_roundw
                          case rel =>
                            have hbd := X4.out
                            have hnb : ∀ {i : Nat} {xs : Array Value} {U : TypeId}, w8.heap[i]? = some (.cells xs U (0, 0)) → i ≠ Bb → _ := fun {i xs U} hi hne => ((X2.out.block _ (Nat.lt_of_lt_of_le (Array.getElem?_eq_some_iff.1 hi).1 hbd.size) (fun e => hne (by injection e))).trans (hbd.block _ (Array.getElem?_eq_some_iff.1 hi).1)).trans hi
                            have hBt : ∀ cur fr, wd.heap[Bb]? ≠ some (.cells cur 89 fr) := fun cu fr e => by rw [X3.out] at e; cases e
                            have hl9 : (q2.2 ++ [x]).length = q2.2.length + 1 := by simp
                            refine ⟨j + 1, n2, F2, A9, k9, (pp, q2.2 ++ [x]), by omega, by go_num, (U9.out.below hbd).kept X2.out X3.out (by decide) (by have := Hst.out.bel.size; omega), grown_newK (grown_transK Uw.out (grownK hbd)) (by omega) X2.out, hnb U3.out (by omega), hnb U4.out (by omega), by rw [hl9]; exact X1.out, ?_, own_keptT (own_below U7.out hbd) X2.out hBt, by rw [Hstep.out, Hb2.out], Rn.out⟩
                            have h9 := own_keptT (own_mono X5.out (Nat.zero_le _)) X2.out hBt
                            have e9 : (q2.2 ++ [x]).flatMap tkC = q2.2.flatMap tkC ++ [.int .u8 (x.kind : Int), .int .i64 x.low, .int .i64 x.high, .int .i64 x.day, .int .i64 x.minute] := by simp [tkC]
                            rw [hl9, e9]
                            exact h9
                          case measure => simp [intOf]; omega
                    · have hb2 : better t x q2 q = q := by unfold better; rw [Hpp.out, if_neg hbet]
                      have Hb2 := Lib.hid hb2
                      have h1 : ¬ q.1 < 0 := fun h => hbet (Or.inl h)
                      have h2 : ¬ pp < q.1 := fun h => hbet (Or.inr h)
                      clear hb2 hbet
                      go_wp2
                      go_roundw
                      case rel =>
                        refine ⟨j + 1, n2, F2, A1, k1, q, by omega, by go_num, U9.out, Uw.out, U3.out, U4.out, U5.out, U6.out, U7.out, ?_, Rn.out⟩
                        rw [Hstep.out, Hb2.out]
                      case measure => simp [intOf]; omega
              · obtain rfl : j = O.length := by omega
                have i3 : ¬ (O.length : Int) < (O.length : Int) := by omega
                have hqp : pay t l now = q := Hpay.out.trans (by rw [G8.out, List.take_length])
                have hn0 : F' (nowV now) = none := by
                  cases h : F' (nowV now) with
                  | none => rfl
                  | some u => exact absurd (G9.out now Hnow.out HF.out (by rw [h]; simp)) (by omega)
                have hd : Below wo.heap.size wo wo.drew := (Below.refl _ _).drew
                have hstd := G1.out.below hd
                obtain ⟨ky, hky⟩ := now_key Hnow.out
                obtain ⟨wm, hrun, hmN, hmg⟩ := hstd.known.upd cov_law Try.underlying125 (by have h1 := cntB_le F'; have h2 := hstd.cnt; unfold maxLen; omega) hky (.agg #[.slice A1 q.2.length k1, .int .i64 q.1])
                rw [Hval.out] at hrun
                have Hqp := Lib.hid hqp
                have hbq : BillAt wo.drew (.agg #[.slice A1 q.2.length k1, .int .i64 q.1]) (pay t l now) := by
                  rw [hqp]
                  exact ⟨A1, k1, rfl, own_below G6.out hd⟩
                have hbm : BillAt wm (.agg #[.slice A1 q.2.length k1, .int .i64 q.1]) q := by
                  have h := hbq.kept hmg (fun _ _ e => hstd.known.notCells e rfl)
                  rw [hqp] at h
                  exact h
                have hstm := hstd.upd hmg hmN Hnow.out hn0 hbq
                have kp : ∀ {i : Nat} {xs : Array Value} {U : TypeId}, wo.heap[i]? = some (.cells xs U (0, 0)) → wm.heap[i]? = some (.cells xs U (0, 0)) := fun {i xs U} hi => by
                  have h1 := (hd.block _ (Array.getElem?_eq_some_iff.1 hi).1).trans hi
                  exact (hmg.block _ (Array.getElem?_eq_some_iff.1 h1).1 (fun e => by injection e with e; exact hstd.known.notCells h1 e)).trans h1
                have hRm := kp G4.out
                have hBm := kp G5.out
                have hgm := grown_transK (grown_transK G2.out (grownK hd)) hmg
                have hnew : ∀ m : List Bool, m.length = 12 → F (nowV m) = none → updV F' (nowV now) (.agg #[.slice A1 q.2.length k1, .int .i64 q.1]) (nowV m) ≠ none → openN l m ≤ openN l now := fun m hm h1 h2 => by
                  by_cases e : nowV m = nowV now
                  · rw [nowV_inj e]; exact Nat.le_refl _
                  · rw [updV_other e] at h2
                    exact Nat.le_of_lt (G9.out m hm h1 h2)
                have qcb := box_cells G1.out.cb 0
                have qch := box_cells G1.out.ch 6
                have qn := box_cells G3.out
                have qb0 := box_cells G5.out 0
                have qb1 := box_cells G5.out 1
                simp only [List.getElem?_toArray, List.getElem?_cons_zero, List.getElem?_cons_succ] at qcb qch qb0 qb1
                have E1 := Lib.hid hbm
                have E2 := Lib.hid hstm
                have E3 := Lib.hid hRm
                have E4 := Lib.hid hBm
                have E5 := Lib.hid hgm
                have E6 := Lib.hid hnew
                have E7 := Lib.hid hrun
                clear hbm hstm hRm hBm hgm hnew kp hmN hmg hbq hstd hqp hn0 hky hrun
                go_wp2_with fail
                refine wp_region_noPanic ?_
                refine wp_region_pick [0, 1, 2, 3, 4, 5] [6] (fun i => i != 6) (fun w' => Below wo.heap.size wo w') (by kernel_rfl) (by kernel_rfl) (fun _ _ _ _ _ h => h) hd (fun hne => ?_)
                have m0 := fun x : Meets (fun w' => Below wo.heap.size wo w') => cell_below x.property qcb
                have m1 := fun x : Meets (fun w' => Below wo.heap.size wo w') => cell_below x.property qch
                have m2 := fun x : Meets (fun w' => Below wo.heap.size wo w') => cell_below x.property qb0
                have m3 := fun x : Meets (fun w' => Below wo.heap.size wo w') => cell_below x.property qb1
                have n0 := fun x : Meets (fun w' => Below wo.heap.size wo w') => cell_below x.property (qn 0)
                have n1 := fun x : Meets (fun w' => Below wo.heap.size wo w') => cell_below x.property (qn 1)
                have n2 := fun x : Meets (fun w' => Below wo.heap.size wo w') => cell_below x.property (qn 2)
                have n3 := fun x : Meets (fun w' => Below wo.heap.size wo w') => cell_below x.property (qn 3)
                have n4 := fun x : Meets (fun w' => Below wo.heap.size wo w') => cell_below x.property (qn 4)
                have n5 := fun x : Meets (fun w' => Below wo.heap.size wo w') => cell_below x.property (qn 5)
                have n6 := fun x : Meets (fun w' => Below wo.heap.size wo w') => cell_below x.property (qn 6)
                have n7 := fun x : Meets (fun w' => Below wo.heap.size wo w') => cell_below x.property (qn 7)
                have n8 := fun x : Meets (fun w' => Below wo.heap.size wo w') => cell_below x.property (qn 8)
                have n9 := fun x : Meets (fun w' => Below wo.heap.size wo w') => cell_below x.property (qn 9)
                have n10 := fun x : Meets (fun w' => Below wo.heap.size wo w') => cell_below x.property (qn 10)
                have n11 := fun x : Meets (fun w' => Below wo.heap.size wo w') => cell_below x.property (qn 11)
                simp only [pick, pickN, List.filterMap_cons, List.filterMap_nil, List.getElem?_cons_zero, List.getElem?_cons_succ, Option.map_some]
                repeat (change wpQuiet _ _ _ _ (_ :: _) _; go_big_quiet_step (fail))
                refine wpQuiet_nil ?_
                clear m0 m1 m2 m3 n0 n1 n2 n3 n4 n5 n6 n7 n8 n9 n10 n11 hne qcb qch qb0 qb1 qn hd
                refine wpSeqP_step (fun K hK => ?_)
                have hrun := E7.out
                go_simp
                refine hK.out _ _ (fun h => absurd h (by decide)) ?_
                clear hK K hrun
                refine wpSeqP_nil ?_
                refine NoPanic.normal ?_
                have l0 := box_cells E4.out 0
                have l1 := box_cells E4.out 1
                have k0 := box_cells E3.out 0
                have k1' := box_cells E3.out 1
                have f0 := box_frozen E3.out 0
                have f1 := box_frozen E3.out 1
                simp only [List.getElem?_toArray, List.getElem?_cons_zero, List.getElem?_cons_succ] at k0 k1' l0 l1
                go_wp2
                obtain ⟨z0, z1, z2, z3⟩ := bill_set (s := .slice A1 q.2.length k1) (p := .int .i64 q.1) E3.out
                refine bodyPost_ret (v := .agg #[.slice A1 q.2.length k1, .int .i64 q.1]) (by simp [results, Try.results78, go_sem, z0, z1]) rfl ?_
                refine ⟨_, n' + 1, _, rfl, ?_, E2.out.kept z3 E3.out (by decide) (by have := Hst.out.bel.size; omega), grown_newK E5.out (by omega) z3, E6.out⟩
                rw [Hqp.out]
                exact E1.out.kept z3 (fun cu fr e => by rw [E3.out] at e; cases e)
      · obtain rfl : k = l.length := by omega
        have i0 : ¬ (l.length : Int) < (l.length : Int) := by omega
        have hfi : first l now = l.length := first_is (by omega) Hall.out (fun h => absurd h (by omega))
        have hpay : pay t l now = (0, []) := pay_none (by rw [hfi]; exact List.getElem?_eq_none (Nat.le_refl _))
        have Hpay := Lib.hid hpay
        have k0 := box_cells HR0.out 0
        have k1 := box_cells HR0.out 1
        have f0 := box_frozen HR0.out 0
        have f1 := box_frozen HR0.out 1
        simp only [List.getElem?_toArray, List.getElem?_cons_zero, List.getElem?_cons_succ] at k0 k1
        clear hfi hpay
        go_wp2
        obtain ⟨z0, z1, z2, z3⟩ := bill_set (s := .slice none 0 0) (p := .int .i64 0) HR0.out
        have hb := Hb1.out
        refine bodyPost_ret (v := .agg #[.slice none 0 0, .int .i64 0]) (by simp [results, Try.results78, go_sem, z0, z1]) rfl ?_
        refine ⟨_, n, F, rfl, ?_, Hst1.out.kept z3 HR0.out (by decide) (by have := Hst.out.bel.size; omega), grown_newK (grownK hb) (by omega) z3, fun m _ h1 h2 => absurd h1 h2⟩
        rw [Hpay.out]
        exact ⟨none, 0, rfl, World.ownsRow_nil _ _ _ _⟩
end Go.Proofs.Ytmbkpfkkohpnkaa
