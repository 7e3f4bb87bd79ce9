import Derived.Test.YtobeffjdfhkjeaaC
set_option linter.unusedVariables false
set_option linter.unusedSimpArgs false
namespace Go.Proofs.Ytobeffjdfhkjeaa
open Go Go.Proofs Go.RowKit

theorem allStratum_any (n : Int) (ps v : Value) (ss : List Strat) (w : World) (hn0 : 1 ≤ n) (hn : n ≤ 5) (hv : StrataAt w v ss) :
    Calls Try.prog 54 #[v, .func (.func 55) #[.agg #[.int .i64 n, ps]] #[]] w (Gives w (.bool (ss.all (stratB n)))) :=
  all_strata (.func 55) #[.agg #[.int .i64 n, ps]] #[] (stratB n) v ss w hv fun _ x u w' _ hu _ =>
    ⟨55, #[.agg #[.int .i64 n, ps], .agg #[.int .i64 x.coins, .int .i64 x.lo, .int .i64 x.hi, u]], by kernel_rfl, stratum_any n ps x u w' hn0 hn hu⟩

theorem checkPool_any (n : Int) (v : Value) (ss : List Strat) (w : World) (hv : StrataAt w v ss) :
    Calls Try.prog 19 #[.agg #[.int .i64 n, v]] w (Gives w (.int .i64 (faultI n ss))) := by
  have hb0 : Below w.heap.size w (w.alloc (.cells #[.int .i64 n, v] 33)) := (Below.refl _ _).alloc (Nat.le_refl _) _
  have hv0 := hv.below hb0
  obtain ⟨A, c, rfl, hc, hm, _⟩ := hv
  unfold maxLen at hm
  by_cases h8 : 8 < ss.length
  · have e : faultI n ss = 3 := by simp [faultI, h8]
    rw [e]; clear e
    go_enter Try.func19, Try.ntmps19
    go_wp2
    go_ret
    exact ⟨rfl, hb0⟩
  · cases h1 : inB n 1 5 with
    | false =>
      have e : faultI n ss = 1 := by simp [faultI, h8, h1]
      rw [e]; clear e
      go_enter Try.func19, Try.ntmps19
      go_wp2_with (go_at_call 53; refine (Same.to h1 (within_same _ _ _ _)).mono ?_; rintro e w' ⟨rfl, rfl⟩)
      go_ret
      exact ⟨rfl, hb0⟩
    | true =>
      have hn : 1 ≤ n ∧ n ≤ 5 := by simpa [inB] using h1
      cases h2 : ss.all (stratB n)
      · have e : faultI n ss = 1 := by simp [faultI, h8, h1, h2]
        rw [e]; clear e
        go_enter Try.func19, Try.ntmps19
        go_wp2_with (first
          | (go_at_call 53; refine (Same.to h1 (within_same _ _ _ _)).mono ?_; rintro e w1 ⟨rfl, rfl⟩)
          | (go_at_call 54; refine (Gives.to h2 (allStratum_any n _ _ ss _ hn.1 hn.2 hv0)).mono ?_; rintro e w1 ⟨rfl, hb1⟩))
        go_ret
        exact ⟨rfl, hb0.trans (hb1.mono hb0.size)⟩
      · have e : faultI n ss = 0 := by simp [faultI, h8, h1, h2]
        rw [e]; clear e
        go_enter Try.func19, Try.ntmps19
        go_wp2_with (first
          | (go_at_call 53; refine (Same.to h1 (within_same _ _ _ _)).mono ?_; rintro e w1 ⟨rfl, rfl⟩)
          | (go_at_call 54; refine (Gives.to h2 (allStratum_any n _ _ ss _ hn.1 hn.2 hv0)).mono ?_; rintro e w1 ⟨rfl, hb1⟩))
        go_ret
        exact ⟨rfl, hb0.trans (hb1.mono hb0.size)⟩
end Go.Proofs.Ytobeffjdfhkjeaa
