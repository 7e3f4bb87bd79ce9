import Derived.Test.YtckgapeednokjaaGreatUe
import Derived.Test.YtckgapeednokjaaGreatUq
set_option linter.unusedVariables false
set_option linter.unusedSimpArgs false
namespace Go.Proofs.YtckgapeednokjaaGreat
open Go Go.Proofs Go.RowKit

/-! ### layoverlaw11: Records -/
def recC (x : Rc) : List Value := [.int .i64 x.mac, .int .i64 x.seq, .int .i64 x.min, .int .u8 x.kind, .int .i64 x.a, .int .i64 x.b]
def recCells (l : List Rc) : List Value := l.flatMap recC
theorem recCells_snoc (l : List Rc) (r : Rc) : recCells (l ++ [r]) = recCells l ++ recC r := by simp [recCells]
theorem recs_of_own {w : World} {v : Value} {base : Nat} {e : TypeId} {n : Nat} {l : List Rc} (h : w.ownsRow base e 6 v n (recCells l)) : RecsAt w v l := by
  have hlen : (recCells l).length = l.length * 6 := flat_length (f := recC) (n := 6) (fun _ => rfl) l
  have hn : l.length = n := by have := h.1; omega
  rcases h.2 with ⟨rfl, h0⟩ | ⟨g, cap, cur, rfl, _, hg, hc, hm, hs, ht⟩
  · have : l.length = 0 := by omega
    exact ⟨none, 0, by rw [this], by omega, by simp [maxLen], fun hp => by omega⟩
  · refine ⟨some ⟨g, 0, none⟩, cap, by rw [hn], by omega, hm, fun hp => ⟨g, 0, rfl, fun k s hk => ?_⟩⟩
    have hk' := (List.getElem?_eq_some_iff.1 hk).1
    have key : ∀ j, j < 6 → w.cell? ⟨g, 0 + k * 6 + j, none⟩ = (recC s)[j]? := fun j hj => by
      rw [Nat.zero_add, h.cellAt (k * 6 + j) (by omega)]
      exact flat_get (f := recC) (n := 6) (fun _ => rfl) hk hj
    exact ⟨key 0 (by omega), key 1 (by omega), key 2 (by omega), key 3 (by omega), key 4 (by omega), key 5 (by omega)⟩
theorem infoRcS : (Tryz.prog.info? 89).map (fun i => (i.zero, i.size, i.bytes)) = some (some (.agg #[.int .i64 0, .int .i64 0, .int .i64 0, .int .u8 0, .int .i64 0, .int .i64 0]), 6, 48) := by kernel_rfl
theorem infoRc11 : (Tryz.prog.info? 31).map (fun i => (i.zero, i.size, i.bytes)) = some (some (.agg #[.int .i64 0, .int .i64 0, .int .i64 0, .int .u8 0, .int .i64 0, .int .i64 0]), 6, 48) := by kernel_rfl
set_option maxRecDepth 100000 in
set_option maxHeartbeats 3200000 in
theorem record_any (x : Rc) (w : World) : Calls Tryz.prog 34 #[.agg #[.int .i64 x.mac, .int .i64 x.seq, .int .i64 x.min, .int .u8 x.kind, .int .i64 x.a, .int .i64 x.b]] w (Gives w (.agg #[.int .i64 x.mac, .int .i64 x.seq, .int .i64 x.min, .int .u8 x.kind, .int .i64 x.a, .int .i64 x.b])) := by
  have hw0 : Below w.heap.size w ((w.alloc (.cells #[.int .i64 x.mac, .int .i64 x.seq, .int .i64 x.min, .int .u8 x.kind, .int .i64 x.a, .int .i64 x.b] 31)).alloc (.cells #[.int .i64 0, .int .i64 0, .int .i64 0, .int .u8 0, .int .i64 0, .int .i64 0] 89)) := two_belowT w _ _
  have G0 := Lib.hid ((Below.heap_alloc (w.alloc (.cells #[.int .i64 x.mac, .int .i64 x.seq, .int .i64 x.min, .int .u8 x.kind, .int .i64 x.a, .int .i64 x.b] 31)) (.cells #[.int .i64 0, .int .i64 0, .int .i64 0, .int .u8 0, .int .i64 0, .int .i64 0] 89) w.heap.size (by simp)).trans (heap_alloc_new w (.cells #[.int .i64 x.mac, .int .i64 x.seq, .int .i64 x.min, .int .u8 x.kind, .int .i64 x.a, .int .i64 x.b] 31)))
  have J0 := Lib.hid (heap_alloc2_new w (.cells #[.int .i64 x.mac, .int .i64 x.seq, .int .i64 x.min, .int .u8 x.kind, .int .i64 x.a, .int .i64 x.b] 31) (.cells #[.int .i64 0, .int .i64 0, .int .i64 0, .int .u8 0, .int .i64 0, .int .i64 0] 89))
  go_enter Tryz.func34, Tryz.ntmps34
  have gc := box_cells G0.out
  have gf := box_frozen G0.out
  have jc := box_cells J0.out
  have jf := box_frozen J0.out
  go_wp2
  have bx3 := heap_alloc2_new w (.cells #[.int .i64 x.mac, .int .i64 x.seq, .int .i64 x.min, .int .u8 x.kind, .int .i64 x.a, .int .i64 x.b] 31) (.cells #[.int .i64 x.mac, .int .i64 x.seq, .int .i64 x.min, .int .u8 x.kind, .int .i64 x.a, .int .i64 x.b] 89)
  refine bodyPost_ret (results_cell_row rfl _ _ (w.heap.size + 1) 89 #[.int .i64 x.mac, .int .i64 x.seq, .int .i64 x.min, .int .u8 x.kind, .int .i64 x.a, .int .i64 x.b] (0, 0) _ rfl bx3 rfl rfl (by kernel_rfl)) rfl ⟨rfl, two_belowT w _ _⟩
def GivesRecs (l : List Rc) (w : World) (e : Ending) (w' : World) : Prop := ∃ (A : Option Addr) (c : Nat), e = .returned (.slice A l.length c) ∧ w'.ownsRow w.heap.size 89 6 (.slice A l.length c) l.length (recCells l) ∧ Below w.heap.size w w'
set_option maxRecDepth 100000 in
set_option maxHeartbeats 3200000 in
theorem Records_any (u : Value) (l : List Rc) (w : World) (hl : RecsAt w u l) (h60 : l.length ≤ 1000) : Calls Tryz.prog 10 #[u] w (GivesRecs l w) := by
  obtain ⟨A, c, rfl, _, _⟩ := hl.form
  obtain ⟨i0, hi0, hz0, hz1, hz2⟩ := info_parts infoRcS
  have Hl := Lib.hid hl
  clear hl
  go_enter Tryz.func10, Tryz.ntmps10
  go_wp2
  go_loopw [3, 4] (fun x s wr => ∃ (k : Nat) (A' : Option Addr) (c' : Nat), k ≤ l.length ∧ s = .int .i64 (k : Int) ∧ x = .slice A' k c' ∧ Below w.heap.size w wr ∧ wr.ownsRow w.heap.size 89 6 (.slice A' k c') k (recCells (l.take k))) (fun x s wr => l.length - (intOf s).toNat)
  case atStart => exact ⟨0, none, 0, by omega, rfl, rfl, Below.refl _ _, World.ownsRow_nil _ _ _ _⟩
  case round =>
    obtain ⟨k, A', c', hk, rfl, rfl, hb, hown⟩ := hrel
    obtain ⟨wo, rfl⟩ : ∃ wo : World, wo = wr := ⟨_, rfl⟩
    by_cases hlt : k < l.length
    · obtain ⟨b1, o1, x, e, hx, x0, x1, x2, x3, x4, x5, _⟩ := (Hl.out.below hb).at_ hlt
      cases e
      have Hx := Lib.hid hx
      clear hx
      go_wp2_with fail
      refine (record_any x _).mono ?_
      rintro e wz ⟨rfl, hbz⟩
      have Hown := Lib.hid (own_below hown hbz)
      have Hbz := Lib.hid (hb.trans (hbz.mono hb.size))
      have hsz := Hbz.out.size
      clear hown hbz x0 x1 x2 x3 x4 x5 hb
      go_wp2_with (at_builtin; refine wpList_append_src _ rfl (.tmp 11) (.tmp 17) 37 rfl w.heap.size 89 i0 _ 6 48 Tryz.underlying37 hi0 hz0 hz1 hz2 rfl (by omega) _ k _ rfl (Hown.out.alloc _) (some ⟨wz.heap.size, 0, none⟩) 1 1 (recC x) rfl (src_new wz (recC x) 89 1 6 rfl) (by simp [recC, Value.oneCell']) (by simp [maxLen]; omega) (by omega) (by simp; omega) ?_; intro v2 w2 hown2 hg2 _; have hb2 := below_grown (Hbz.out.alloc hsz (.cells (recC x).toArray 89)) hg2 (by simp; omega) (Hown.out.alloc _) (Nat.le_refl _); have Hb2 := Lib.hid hb2; obtain ⟨A2, k2, rfl⟩ := own_form hown2; have Hown2 := Lib.hid hown2; clear hown2 hg2 hb2)
      go_roundw
      case rel =>
        refine ⟨k + 1, A2, k2, by omega, by go_num, rfl, Hb2.out, ?_⟩
        rw [List.take_add_one, Hx.out, Option.toList_some, recCells_snoc]
        exact Hown2.out
      case measure => simp [intOf]; omega
    · obtain rfl : k = l.length := by omega
      rw [List.take_of_length_le (Nat.le_refl _)] at hown
      have Hown := Lib.hid hown
      clear hown
      go_wp2
      go_ret
      exact ⟨A', c', rfl, Hown.out, hb⟩
end Go.Proofs.YtckgapeednokjaaGreat
