import Derived.Test.YtobeffjdfhkjeaaPT
set_option linter.unusedVariables false
set_option linter.unusedSimpArgs false
namespace Go.Proofs.Ytobeffjdfhkjeaa
open Go Go.RowKit

/-! ### One more journey is seen: plain -/
def seenMore (s : Strat) (c : Nat) : Strat := { s with seen := s.seen.set c (s.seen[c]?.getD 0 + 1) }
def moreL (ss : List Strat) (i c : Nat) : List Strat := ss.set i (seenMore (ss[i]?.getD Strat.none) c)

theorem getI_mono {a x y t : Int} (ha : 0 ≤ a) (hxy : x ≤ y) (ht : 0 ≤ t) : getI a x t ≤ getI a y t := by
  unfold getI
  split
  · exact Int.le_refl _
  · exact Int.ediv_le_ediv (by omega) (Int.mul_le_mul_of_nonneg_left hxy ha)

theorem more_range {n : Int} {s : Strat} {c : Nat} (hs : stratB n s = true) (hn : 2 ≤ n) (hc : c < s.seen.length) (o : Nat) :
    ((rangeAt s o).1 ≤ (rangeAt (seenMore s c) o).1 ∧ (rangeAt (seenMore s c) o).2 ≤ (rangeAt s o).2) ∧
    (o = c → (rangeAt (seenMore s c) o).2 = (rangeAt s o).2) ∧ (o ≠ c → (rangeAt (seenMore s c) o).1 = (rangeAt s o).1) := by
  obtain ⟨h1, h2, h3, h4⟩ := strat_nums hs
  have hlen := (stratB_iff.1 hs).2.2.2.2.1
  have e1 : sumL (seenMore s c).seen = sumL s.seen + 1 := by
    simp only [seenMore]
    rw [sumL_set hc]
    omega
  have e2 : (seenMore s c).seen.length = s.seen.length := by simp [seenMore]
  have e3 : (seenMore s c).seen[o]?.getD 0 = if o = c then s.seen[c]?.getD 0 + 1 else s.seen[o]?.getD 0 := by
    simp only [seenMore]
    rw [getD_set hc]
  have ha : ¬ ((((s.seen.length : Int) == 1) : Bool) = true) := by simp; omega
  simp only [rangeAt, leastI, mostI, e1, e2, e3, if_neg ha]
  have e4 : (seenMore s c).coins = s.coins := rfl
  have e5 : (seenMore s c).hi = s.hi := rfl
  rw [e4, e5]
  by_cases ho : o = c
  · subst ho
    rw [if_pos rfl]
    refine ⟨⟨getI_mono h1.1 (by omega) h2.1, ?_⟩, fun _ => ?_, fun h => by simp at h⟩
    · rw [show s.seen[o]?.getD 0 + 1 + (s.hi - (sumL s.seen + 1)) = s.seen[o]?.getD 0 + (s.hi - sumL s.seen) by omega]
      exact Int.le_refl _
    · rw [show s.seen[o]?.getD 0 + 1 + (s.hi - (sumL s.seen + 1)) = s.seen[o]?.getD 0 + (s.hi - sumL s.seen) by omega]
  · simp only [if_neg ho]
    exact ⟨⟨Int.le_refl _, getI_mono h1.1 (by omega) h2.1⟩, fun h => absurd h ho, by simp⟩

theorem more_bound {n : Int} {ss : List Strat} {i c : Nat} (hf : faultI n ss = 0) (hn : 2 ≤ n) (hi : i < ss.length) (hc : (c : Int) < n) (o : Nat) : ∀ k, k ≤ ss.length →
    ((boundK ss o k).1 ≤ (boundK (moreL ss i c) o k).1 ∧ (boundK (moreL ss i c) o k).2 ≤ (boundK ss o k).2) ∧
    (o = c → (boundK (moreL ss i c) o k).2 = (boundK ss o k).2) ∧ (o ≠ c → (boundK (moreL ss i c) o k).1 = (boundK ss o k).1)
  | 0, _ => by simp [boundK]
  | k + 1, hk => by
    obtain ⟨⟨a1, a2⟩, a3, a4⟩ := more_bound hf hn hi hc o k (by omega)
    have hs := List.getElem?_eq_getElem (l := ss) (i := k) (by omega)
    have hv := (fault_zero hf).2.2.2 k _ hs
    have hlen := (stratB_iff.1 hv).2.2.2.2.1
    simp only [boundK, addP]
    by_cases e : k = i
    · subst e
      have e1 : (moreL ss k c)[k]?.getD Strat.none = seenMore ss[k] c := by simp [moreL, hs, hi]
      obtain ⟨⟨b1, b2⟩, b3, b4⟩ := more_range hv hn (c := c) (by omega) o
      rw [e1, hs, Option.getD_some]
      exact ⟨⟨by omega, by omega⟩, fun h => by rw [a3 h, b3 h], fun h => by rw [a4 h, b4 h]⟩
    · have e1 : (moreL ss i c)[k]?.getD Strat.none = ss[k] := by
        simp only [moreL, List.getElem?_set]
        rw [if_neg (Ne.symm e), hs, Option.getD_some]
      rw [e1, hs, Option.getD_some]
      exact ⟨⟨by omega, by omega⟩, fun h => by rw [a3 h], fun h => by rw [a4 h]⟩
end Go.Proofs.Ytobeffjdfhkjeaa
