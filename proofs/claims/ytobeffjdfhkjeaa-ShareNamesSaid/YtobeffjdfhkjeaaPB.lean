import Derived.Test.YtobeffjdfhkjeaaT
import Derived.Test.YtobeffjdfhkjeaaPG
set_option linter.unusedVariables false
set_option linter.unusedSimpArgs false
namespace Go.Proofs.Ytobeffjdfhkjeaa
open Go Go.Proofs Go.RowKit

/-- The range of company c in a stratum. -/
def rangeAt (s : Strat) (c : Nat) : Int × Int :=
  (leastI ((s.seen.length : Int) == 1) s.coins s.lo s.hi (s.seen[c]?.getD 0), mostI s.coins s.hi (s.hi - sumL s.seen) (s.seen[c]?.getD 0))
def addP (a b : Int × Int) : Int × Int := (a.1 + b.1, a.2 + b.2)
def boundK (ss : List Strat) (c : Nat) : Nat → Int × Int
  | 0 => (0, 0)
  | k + 1 => addP (boundK ss c k) (rangeAt (ss[k]?.getD Strat.none) c)

def addR (r f : Nat → Int × Int) {n : Nat} (pre : List { j : Nat // j < n }) (c : Nat) : Int × Int := pre.foldl (fun acc x => if c = x.1 then addP acc (r c) else acc) (f c)
theorem addR_snoc (r f : Nat → Int × Int) {n : Nat} (pre : List { j : Nat // j < n }) (x : { j : Nat // j < n }) (c : Nat) : addR r f (pre ++ [x]) c = if c = x.1 then addP (addR r f pre c) (r c) else addR r f pre c := by
  simp [addR, List.foldl_append]
theorem addR_ups (r f : Nat → Int × Int) {n k : Nat} (hk : k ≤ n) (c : Nat) : addR r f (ups n k) c = if c < k then addP (f c) (r c) else f c := by
  induction k with
  | zero => simp [addR, ups]
  | succ k ih =>
    rw [ups_succ (by omega), addR_snoc, ih (by omega)]
    by_cases h : c = k
    · subst h; simp
    · rw [if_neg h]
      by_cases h2 : c < k
      · rw [if_pos h2, if_pos (by omega)]
      · rw [if_neg h2, if_neg (by omega)]
theorem foldR_bd (r : Int × Int) (M : Int) {n : Nat} (c : Nat) (hr1 : 0 ≤ r.1 ∧ r.1 ≤ M) (hr2 : 0 ≤ r.2 ∧ r.2 ≤ M) : ∀ (pre : List { j : Nat // j < n }) (a : Int × Int) (F : Int), (0 ≤ a.1 ∧ a.1 ≤ F) → (0 ≤ a.2 ∧ a.2 ≤ F) →
    (0 ≤ (pre.foldl (fun acc x => if c = x.1 then addP acc r else acc) a).1 ∧ (pre.foldl (fun acc x => if c = x.1 then addP acc r else acc) a).1 ≤ F + pre.length * M) ∧
    (0 ≤ (pre.foldl (fun acc x => if c = x.1 then addP acc r else acc) a).2 ∧ (pre.foldl (fun acc x => if c = x.1 then addP acc r else acc) a).2 ≤ F + pre.length * M)
  | [], a, F, h1, h2 => by simpa using ⟨h1, h2⟩
  | x :: pre, a, F, h1, h2 => by
    rw [List.foldl_cons]
    have hM : 0 ≤ M := by omega
    have := foldR_bd r M c hr1 hr2 pre (if c = x.1 then addP a r else a) (F + M) (by by_cases hc : c = x.1 <;> simp only [hc, if_true, if_false, addP] <;> omega) (by by_cases hc : c = x.1 <;> simp only [hc, if_true, if_false, addP] <;> omega)
    have e : F + ((x :: pre).length : Int) * M = F + M + pre.length * M := by
      rw [List.length_cons, Int.natCast_succ, Int.add_mul, Int.one_mul]
      omega
    rw [e]
    exact this
theorem addR_bd (r f : Nat → Int × Int) (M F : Int) {n : Nat} (pre : List { j : Nat // j < n }) (c : Nat) (hr1 : 0 ≤ (r c).1 ∧ (r c).1 ≤ M) (hr2 : 0 ≤ (r c).2 ∧ (r c).2 ≤ M) (h1 : 0 ≤ (f c).1 ∧ (f c).1 ≤ F) (h2 : 0 ≤ (f c).2 ∧ (f c).2 ≤ F) :
    (0 ≤ (addR r f pre c).1 ∧ (addR r f pre c).1 ≤ F + pre.length * M) ∧ (0 ≤ (addR r f pre c).2 ∧ (addR r f pre c).2 ≤ F + pre.length * M) :=
  foldR_bd (r c) M c hr1 hr2 pre (f c) F h1 h2

theorem sumL_nonneg : ∀ {l : List Int}, (∀ x ∈ l, 0 ≤ x) → 0 ≤ sumL l
  | [], _ => Int.le_refl _
  | x :: l, h => by
    have h1 := h x (by simp)
    have h2 := sumL_nonneg (l := l) fun y hy => h y (by simp [hy])
    simp only [sumL]
    omega

/-- A valid stratum's numbers. -/
theorem strat_nums {n : Int} {s : Strat} (h : stratB n s = true) : (0 ≤ s.coins ∧ s.coins ≤ 10000000) ∧ (0 ≤ s.hi ∧ s.hi ≤ 400) ∧ (0 ≤ s.hi - sumL s.seen ∧ s.hi - sumL s.seen ≤ 400) ∧ ∀ x ∈ s.seen, 0 ≤ x ∧ x ≤ 400 := by
  obtain ⟨h1, h2, h3, h4, h5, h6, h7⟩ := stratB_iff.1 h
  have hx : ∀ x ∈ s.seen, 0 ≤ x ∧ x ≤ 400 := fun x hm => by
    obtain ⟨j, hj, rfl⟩ := List.getElem_of_mem hm
    exact h6 j _ (List.getElem?_eq_getElem hj)
  have h8 := sumL_nonneg fun x hm => (hx x hm).1
  exact ⟨h1, ⟨by omega, by omega⟩, ⟨by omega, by omega⟩, hx⟩

theorem seen_at {n : Int} {s : Strat} (h : stratB n s = true) (c : Nat) : 0 ≤ s.seen[c]?.getD 0 ∧ s.seen[c]?.getD 0 ≤ 400 := by
  cases e : s.seen[c]? with
  | none => simp
  | some x => exact (strat_nums h).2.2.2 x (List.mem_of_getElem? e)

theorem rangeAt_bd {n : Int} {s : Strat} (h : stratB n s = true) (c : Nat) : (0 ≤ (rangeAt s c).1 ∧ (rangeAt s c).1 ≤ 10000000000000) ∧ (0 ≤ (rangeAt s c).2 ∧ (rangeAt s c).2 ≤ 10000000000000) := by
  obtain ⟨h1, h2, h3, h4⟩ := strat_nums h
  have h5 := seen_at h c
  simp only [rangeAt, leastI, mostI]
  refine ⟨?_, getI_bd h1.1 h1.2 (by omega) (by omega) h2.1⟩
  split
  · split <;> omega
  · exact getI_bd h1.1 h1.2 (by omega) (by omega) h2.1

theorem boundK_bd {n : Int} {ss : List Strat} (h : ∀ (j : Nat) (s : Strat), ss[j]? = some s → stratB n s = true) (c k : Nat) :
    (0 ≤ (boundK ss c k).1 ∧ (boundK ss c k).1 ≤ k * 10000000000000) ∧ (0 ≤ (boundK ss c k).2 ∧ (boundK ss c k).2 ≤ k * 10000000000000) := by
  induction k with
  | zero => simp [boundK]
  | succ k ih =>
    have hr : (0 ≤ (rangeAt (ss[k]?.getD Strat.none) c).1 ∧ (rangeAt (ss[k]?.getD Strat.none) c).1 ≤ 10000000000000) ∧ (0 ≤ (rangeAt (ss[k]?.getD Strat.none) c).2 ∧ (rangeAt (ss[k]?.getD Strat.none) c).2 ≤ 10000000000000) := by
      cases e : ss[k]? with
      | none => simp [rangeAt, leastI, mostI, getI, Strat.none]
      | some s => exact rangeAt_bd (h k s e) c
    simp only [boundK, addP]
    have e : ((k + 1 : Nat) : Int) = (k : Int) + 1 := by omega
    rw [e]
    omega

end Go.Proofs.Ytobeffjdfhkjeaa
