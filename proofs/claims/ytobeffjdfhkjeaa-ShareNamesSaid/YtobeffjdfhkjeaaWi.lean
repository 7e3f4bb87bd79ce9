import Derived.Test.YtobeffjdfhkjeaaSp
set_option linter.unusedVariables false
set_option linter.unusedSimpArgs false
namespace Go.Proofs.Ytobeffjdfhkjeaa
open Go Go.Proofs Go.RowKit

/-! ### The width of a stratum -/
def wK (s : Strat) : Nat → Int
  | 0 => 0
  | k + 1 => max (wK s k) ((rangeAt s k).2 - (rangeAt s k).1)
def widthS (s : Strat) : Int := wK s s.seen.length
theorem wK_bd {n : Int} {s : Strat} (hs : stratB n s = true) (k : Nat) : 0 ≤ wK s k ∧ wK s k ≤ 10000000000000 := by
  induction k with
  | zero => simp [wK]
  | succ k ih =>
    have := rangeAt_bd hs k
    simp only [wK]
    omega

set_option maxRecDepth 100000 in
set_option maxHeartbeats 3200000 in
theorem Width_any (n : Int) (s : Strat) (u : Value) (w : World) (hu : NumsAt .i64 w u s.seen) (hn1 : 1 ≤ n) (hn5 : n ≤ 5) (hs : stratB n s = true) (h4 : s.hi - sumL s.seen ≤ 4) :
    Calls Try.prog 46 #[.agg #[.int .i64 s.coins, .int .i64 s.lo, .int .i64 s.hi, u]] w (Gives w (.int .i64 (widthS s))) := by
  obtain ⟨A, c, rfl, hc, hcm⟩ := hu.form
  have Hs := Lib.hid hs
  have hsn := (stratB_iff.1 hs).2.2.2.2.1
  have hs5 : s.seen.length ≤ 5 := by omega
  clear hs hsn
  have hb0 : Below w.heap.size w (w.alloc (.cells #[.int .i64 s.coins, .int .i64 s.lo, .int .i64 s.hi, .slice A s.seen.length c] 44)) := (Below.refl _ _).alloc (Nat.le_refl _) _
  go_enter Try.func46, Try.ntmps46
  go_wp2
  go_loopw [3, 4] (fun x i wr => ∃ k : Nat, k ≤ s.seen.length ∧ i = .int .i64 k ∧ x = .int .i64 (wK s k) ∧ Below w.heap.size w wr ∧ wr.cell? ⟨w.heap.size, 0, none⟩ = some (.int .i64 s.coins) ∧ wr.cell? ⟨w.heap.size, 1, none⟩ = some (.int .i64 s.lo) ∧ wr.cell? ⟨w.heap.size, 2, none⟩ = some (.int .i64 s.hi) ∧ wr.cell? ⟨w.heap.size, 3, none⟩ = some (.slice A s.seen.length c)) (fun x i wr => s.seen.length - (intOf i).toNat)
  case atStart => exact ⟨0, by omega, rfl, rfl, hb0, by simp [go_sem], by simp [go_sem], by simp [go_sem], by simp [go_sem]⟩
  case round =>
    obtain ⟨k, hk, rfl, rfl, hbr, p0, p1, p2, p3⟩ := hrel
    obtain ⟨wo, rfl⟩ : ∃ wo : World, wo = wr := ⟨_, rfl⟩
    have hbd := wK_bd Hs.out k
    by_cases hlt : k < s.seen.length
    · have hltI : (k : Int) < (s.seen.length : Int) := by omega
      have hrb := rangeAt_bd Hs.out k
      have Hst : Hid (wK s (k + 1) = max (wK s k) ((rangeAt s k).2 - (rangeAt s k).1)) := rfl
      have hspan := Lib.hid fun W (h : NumsAt .i64 W (.slice A s.seen.length c) s.seen) => Span_any n s _ k W h hn1 hn5 Hs.out h4 hlt
      obtain ⟨r1, hr1⟩ : ∃ x, (rangeAt s k).1 = x := ⟨_, rfl⟩
      obtain ⟨r2, hr2⟩ : ∃ x, (rangeAt s k).2 = x := ⟨_, rfl⟩
      obtain ⟨w0, hw0⟩ : ∃ x, wK s k = x := ⟨_, rfl⟩
      rw [hr1, hr2] at hspan hrb Hst
      rw [hw0] at Hst hbd ⊢
      clear hr1 hr2 hw0
      have huo := hu.below hbr
      by_cases c1 : w0 ≤ r2 - r1
      · go_wp2_with (go_at_call 45; refine (hspan.out _ huo).mono ?_; rintro e w1 ⟨rfl, hb1⟩; have g0 := cell_below hb1 p0; have g1 := cell_below hb1 p1; have g2 := cell_below hb1 p2; have g3 := cell_below hb1 p3)
        all_goals
          have hba : Below wo.heap.size wo (w1.alloc (.cells #[.int .i64 r1, .int .i64 r2] 42)) := hb1.alloc hb1.size _
          go_roundw
          case rel => exact ⟨k + 1, by omega, by go_num, by rw [Hst.out]; exact congrArg _ (by split <;> omega), hbr.trans (hba.mono hbr.size), cell_below hba p0, cell_below hba p1, cell_below hba p2, cell_below hba p3⟩
          case measure => simp [intOf]; omega
      · go_wp2_with (go_at_call 45; refine (hspan.out _ huo).mono ?_; rintro e w1 ⟨rfl, hb1⟩; have g0 := cell_below hb1 p0; have g1 := cell_below hb1 p1; have g2 := cell_below hb1 p2; have g3 := cell_below hb1 p3)
        all_goals
          have hba : Below wo.heap.size wo (w1.alloc (.cells #[.int .i64 r1, .int .i64 r2] 42)) := hb1.alloc hb1.size _
          go_roundw
          case rel => exact ⟨k + 1, by omega, by go_num, by rw [Hst.out]; exact congrArg _ (by split <;> omega), hbr.trans (hba.mono hbr.size), cell_below hba p0, cell_below hba p1, cell_below hba p2, cell_below hba p3⟩
          case measure => simp [intOf]; omega
    · obtain rfl : k = s.seen.length := by omega
      go_wp2
      go_ret
      exact ⟨rfl, hbr⟩
end Go.Proofs.Ytobeffjdfhkjeaa
