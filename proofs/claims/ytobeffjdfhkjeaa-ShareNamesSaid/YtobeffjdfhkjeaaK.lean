import Derived.Test.YtobeffjdfhkjeaaJ
set_option linter.unusedVariables false
set_option linter.unusedSimpArgs false
namespace Go.Proofs.Ytobeffjdfhkjeaa
open Go Go.Proofs Go.RowKit

/-- The numbers of the strata that refuse. -/
def refusedL (ss : List Strat) (ll : List (List Int)) : Nat → List Int
  | 0 => []
  | k + 1 => refusedL ss ll k ++ if partB (ss[k]?.getD Strat.none) (ll[k]?.getD []) then [] else [(k : Int)]

theorem refusedL_len (ss : List Strat) (ll : List (List Int)) (k : Nat) : (refusedL ss ll k).length ≤ k := by
  induction k with
  | zero => simp [refusedL]
  | succ k ih =>
    simp only [refusedL, List.length_append]
    split <;> simp <;> omega

set_option maxRecDepth 100000 in
set_option maxHeartbeats 800000 in
theorem refused_any (n : Int) (v u : Value) (ss : List Strat) (ll : List (List Int)) (w : World) (hv : StrataAt w v ss) (hu : RowsAt w u ll) (hn : n ≤ 5) (hlen : ss.length ≤ ll.length) (h8 : ss.length ≤ 8)
    (hval : ∀ (j : Nat) (s : Strat), ss[j]? = some s → stratB n s = true) (hrow : ∀ (j : Nat) (l : List Int), ll[j]? = some l → rowB n l = true) :
    Calls Try.prog 57 #[.agg #[.int .i64 n, v], u] w (GivesInts w (refusedL ss ll ss.length)) := by
  obtain ⟨A, c, rfl, hc, hm⟩ := hv.form
  obtain ⟨A', c', rfl, hc', hm'⟩ := hu.form
  obtain ⟨i0, hi0, hz0, hz1, hz2⟩ := info_parts info3
  have Hval := Lib.hid hval
  have Hrow := Lib.hid hrow
  clear hval hrow
  have hb0 : Below w.heap.size w (w.alloc (.cells #[.int .i64 n, .slice A ss.length c] 33)) := (Below.refl _ _).alloc (Nat.le_refl _) _
  go_enter Try.func57, Try.ntmps57
  go_wp2
  go_step3
  go_wp2
  go_step3
  go_wp2
  go_loopw [4, 11] (fun x i wr => ∃ (k : Nat) (A1 : Option Addr) (c1 : Nat), k ≤ ss.length ∧ i = .int .i64 k ∧ x = .slice A1 (refusedL ss ll k).length c1 ∧ Below w.heap.size w wr ∧ w.heap.size < wr.heap.size ∧
      wr.ownsRow (w.heap.size + 1) 3 1 (.slice A1 (refusedL ss ll k).length c1) (refusedL ss ll k).length ((refusedL ss ll k).map (.int .i64)))
    (fun x i wr => ss.length - (intOf i).toNat)
  case atStart => exact ⟨0, none, 0, by omega, rfl, rfl, hb0, by simp, World.ownsRow_nil _ _ _ _⟩
  case round =>
    obtain ⟨k, A1, c1, hk, rfl, rfl, hb, hlt0, hown⟩ := hrel
    have hrl := refusedL_len ss ll k
    by_cases hlt : k < ss.length
    · obtain ⟨b, o, l, x, rfl, hl, dl, hx, hbx⟩ := (hu.below hb).at_ (k := k) (by omega)
      obtain ⟨b', o', s, y, rfl, hs, hy, e0, e1, e2, e3, hby⟩ := (hv.below hb).at_ hlt
      have q1 := Hrow.out k l hl
      have q2 := stratB_iff.1 (Hval.out k s hs)
      have hok := rowB_ok hn q1
      have hle : l.length ≤ s.seen.length := by have := (rowB_iff.1 q1).1; omega
      have Hst : Hid (refusedL ss ll (k + 1) = refusedL ss ll k ++ if partB s l then [] else [(k : Int)]) := by
        show refusedL ss ll (k + 1) = _
        rw [refusedL, hs, hl]
        rfl
      have i1 : (k : Int) < (ll.length : Int) := by omega
      clear hl hs q1 q2
      obtain ⟨B, C, rfl, hC, hC'⟩ := hy.form
      obtain ⟨D, E, rfl, hE, hE'⟩ := hx.form
      cases hp : partB s l with
      | true =>
        rw [hp] at Hst
        have Hp := Lib.hid hp
        clear hp
        go_wp2_with (go_at_call 80; refine (Gives.to (b := false) (by rw [Hp.out]; rfl) (refuses_any s _ _ l _ (hy.below ((Below.refl _ _).alloc (Nat.le_refl _) _)) (hx.below ((Below.refl _ _).alloc (Nat.le_refl _) _)) hle hok)).mono ?_; rintro e w1 ⟨rfl, hb1⟩)
        have hw1 : Below wr.heap.size wr w1 := ((Below.refl _ _).alloc (Nat.le_refl _) _).trans (hb1.mono (by simp))
        go_roundw
        case rel =>
          have hst := Hst.out
          simp only [if_true, List.append_nil] at hst
          exact ⟨k + 1, A1, c1, by omega, by go_num, by rw [hst], hb.trans (hw1.mono hb.size), Nat.lt_of_lt_of_le hlt0 hw1.size, by rw [hst]; exact own_below hown hw1⟩
        case measure => simp [intOf]; omega
      | false =>
        rw [hp] at Hst
        have Hp := Lib.hid hp
        clear hp
        go_wp2_with (first
          | (go_at_call 80; refine (Gives.to (b := true) (by rw [Hp.out]; rfl) (refuses_any s _ _ l _ (hy.below ((Below.refl _ _).alloc (Nat.le_refl _) _)) (hx.below ((Below.refl _ _).alloc (Nat.le_refl _) _)) hle hok)).mono ?_; rintro e w1 ⟨rfl, hb1⟩; have hw1 : Below wr.heap.size wr w1 := ((Below.refl _ _).alloc (Nat.le_refl _) _).trans (hb1.mono (by simp)); have hown1 := own_below hown hw1)
          | (at_builtin; refine wpList_append_src _ rfl (.tmp 25) (.tmp 27) 35 rfl (w.heap.size + 1) 3 i0 _ 1 8 Try.underlying35 hi0 hz0 hz1 hz2 rfl (by omega) _ (refusedL ss ll k).length ((refusedL ss ll k).map (.int .i64)) rfl (hown1.alloc _) (some ⟨w1.heap.size, 0, none⟩) 1 1 [.int .i64 k] rfl (src_new w1 [.int .i64 k] 3 1 1 rfl) (by simp [Value.oneCell']) (by simp [maxLen]; omega) (by omega) (by have := hw1.size; simp; omega) ?_; intro v2 w2 hown2 hg2 hat2; obtain ⟨A2, c2, rfl⟩ := own_form hown2))
        have hg3 : (w1.alloc (.cells #[.int .i64 k] 3)).grownBy w2 (Value.slice A1 (refusedL ss ll k).length c1).ownBlock := hg2
        clear hg2
        have hba : Below w.heap.size w (w1.alloc (.cells #[.int .i64 k] 3)) := (hb.trans (hw1.mono hb.size)).alloc (by have := hb.size; have := hw1.size; omega) _
        have hb2 : Below w.heap.size w w2 := below_grown hba hg3 (by have := hb.size; have := hw1.size; simp; omega) (hown1.alloc _) (by omega)
        have hw2 : w.heap.size < w2.heap.size := by have q1 := hg3.size; have q2 := hw1.size; simp at q1; omega
        go_roundw
        case rel =>
          have hst := Hst.out
          simp only [Bool.false_eq_true, if_false] at hst
          have hl2 : (refusedL ss ll (k + 1)).length = (refusedL ss ll k).length + 1 := by rw [hst]; simp
          refine ⟨k + 1, A2, c2, by omega, by go_num, by rw [hl2], hb2, hw2, ?_⟩
          rw [hl2, hst, List.map_append]
          exact hown2
        case measure => simp [intOf]; omega
    · obtain rfl : k = ss.length := by omega
      go_wp2
      rw [Exit.noGoto_ret]
      go_ret
      exact ⟨A1, c1, rfl, own_mono hown (by omega), hb⟩
end Go.Proofs.Ytobeffjdfhkjeaa
