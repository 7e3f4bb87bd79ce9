import Derived.Test.YtobeffjdfhkjeaaK
set_option linter.unusedVariables false
set_option linter.unusedSimpArgs false
namespace Go.Proofs.Ytobeffjdfhkjeaa
open Go Go.RowKit

/-! ### What companies get: plain -/
def gI (ss : List Strat) (ll : List (List Int)) (i c : Nat) : Int := getI (ss[i]?.getD Strat.none).coins ((ll[i]?.getD [])[c]?.getD 0) (sumL (ll[i]?.getD []))
def gK (ss : List Strat) (ll : List (List Int)) (c : Nat) : Nat → Int
  | 0 => 0
  | k + 1 => gK ss ll c k + gI ss ll k c
def cK (ss : List Strat) (ll : List (List Int)) (i : Nat) : Nat → Int
  | 0 => 0
  | j + 1 => cK ss ll i j + gI ss ll i j
def fK (m : Nat) (ss : List Strat) (ll : List (List Int)) : Nat → Int
  | 0 => 0
  | k + 1 => fK m ss ll k + (ss[k]?.getD Strat.none).coins - cK ss ll k m
def getsL (m : Nat) (ss : List Strat) (ll : List (List Int)) : List Int := (List.range m).map fun c => gK ss ll c ss.length
def fundI (m : Nat) (ss : List Strat) (ll : List (List Int)) : Int := fK m ss ll ss.length

theorem getI_bd {a x t : Int} (h1 : 0 ≤ a) (h2 : a ≤ 10000000) (h3 : 0 ≤ x) (h4 : x ≤ 1000000) (h5 : 0 ≤ t) : 0 ≤ getI a x t ∧ getI a x t ≤ 10000000000000 := by
  have hm := mul_bd h1 h2 h3 h4
  unfold getI
  split
  · omega
  · have h0 : 0 ≤ a * x / t := Int.ediv_nonneg hm.1 h5
    have h6 : a * x / t ≤ a * x := Int.ediv_le_self _ hm.1
    omega

/-- A pool and lists that fit it. -/
structure Fit (n : Int) (ss : List Strat) (ll : List (List Int)) : Prop where
  n0 : 1 ≤ n
  n5 : n ≤ 5
  s8 : ss.length ≤ 8
  len : ll.length = ss.length
  val : ∀ (j : Nat) (s : Strat), ss[j]? = some s → stratB n s = true
  row : ∀ (j : Nat) (l : List Int), ll[j]? = some l → rowB n l = true

theorem fit_of {n : Int} {ss : List Strat} {ll : List (List Int)} (h1 : faultI n ss = 0) (h2 : listsB n ss.length ll = true) : Fit n ss ll := by
  obtain ⟨a, b, c, d⟩ := fault_zero h1
  obtain ⟨e, f⟩ := listsB_iff.1 h2
  exact ⟨b, c, a, e, d, f⟩

section
variable {n : Int} {m : Nat} {ss : List Strat} {ll : List (List Int)}
theorem Fit.coins (h : Fit n ss ll) (i : Nat) : 0 ≤ (ss[i]?.getD Strat.none).coins ∧ (ss[i]?.getD Strat.none).coins ≤ 10000000 := by
  cases e : ss[i]? with
  | none => simp [Strat.none]
  | some s => exact (stratB_iff.1 (h.val i s e)).1
theorem Fit.sum (h : Fit n ss ll) (i : Nat) : 0 ≤ sumL (ll[i]?.getD []) := by
  cases e : ll[i]? with
  | none => simp [sumL]
  | some l =>
    refine (sumL_bound (M := 400) (by omega) fun x hx => ?_).1
    obtain ⟨j, hj, rfl⟩ := List.getElem_of_mem hx
    exact (rowB_iff.1 (h.row i l e)).2 j _ (List.getElem?_eq_getElem hj)
theorem Fit.elem (h : Fit n ss ll) (i c : Nat) : 0 ≤ (ll[i]?.getD [])[c]?.getD 0 ∧ (ll[i]?.getD [])[c]?.getD 0 ≤ 400 := by
  cases e : ll[i]? with
  | none => simp
  | some l =>
    simp only [Option.getD_some]
    cases e' : l[c]? with
    | none => simp
    | some x => exact (rowB_iff.1 (h.row i l e)).2 c x e'
theorem Fit.gI (h : Fit n ss ll) (i c : Nat) : 0 ≤ gI ss ll i c ∧ gI ss ll i c ≤ 10000000000000 := by
  have h1 := h.coins i
  have h2 := h.elem i c
  exact getI_bd h1.1 h1.2 h2.1 (by omega) (h.sum i)
theorem Fit.gK (h : Fit n ss ll) (c k : Nat) : 0 ≤ gK ss ll c k ∧ gK ss ll c k ≤ k * 10000000000000 := by
  induction k with
  | zero => simp [Ytobeffjdfhkjeaa.gK]
  | succ k ih =>
    have := h.gI k c
    simp only [Ytobeffjdfhkjeaa.gK]
    omega
theorem Fit.cK (h : Fit n ss ll) (i j : Nat) : 0 ≤ cK ss ll i j ∧ cK ss ll i j ≤ j * 10000000000000 := by
  induction j with
  | zero => simp [Ytobeffjdfhkjeaa.cK]
  | succ k ih =>
    have := h.gI i k
    simp only [Ytobeffjdfhkjeaa.cK]
    omega
theorem Fit.fK (h : Fit n ss ll) (hm : m ≤ 5) (k : Nat) : -(k * 50000000000000) ≤ fK m ss ll k ∧ fK m ss ll k ≤ k * 10000000 := by
  induction k with
  | zero => simp [Ytobeffjdfhkjeaa.fK]
  | succ k ih =>
    have h1 := h.cK k m
    have h2 := h.coins k
    simp only [Ytobeffjdfhkjeaa.fK]
    omega
end

/-- The companies' sums in the middle of a stratum. -/
def midL (m : Nat) (ss : List Strat) (ll : List (List Int)) (k j : Nat) : List Int := (List.range m).map fun c => gK ss ll c k + if c < j then gI ss ll k c else 0

theorem midL_len (m : Nat) (ss : List Strat) (ll : List (List Int)) (k j : Nat) : (midL m ss ll k j).length = m := by simp [midL]
theorem midL_at {m : Nat} {ss : List Strat} {ll : List (List Int)} {k j : Nat} (hj : j < m) : (midL m ss ll k j)[j]? = some (gK ss ll j k) := by
  simp [midL, hj]
theorem midL_set {m : Nat} {ss : List Strat} {ll : List (List Int)} {k j : Nat} : (midL m ss ll k j).set j (gK ss ll j k + gI ss ll k j) = midL m ss ll k (j + 1) := by
  apply List.ext_getElem?
  intro i
  rw [List.getElem?_set]
  simp only [midL, List.length_map, List.length_range, List.getElem?_map]
  by_cases e : j = i
  · subst e
    by_cases hm : j < m
    · simp [hm]
    · simp [hm]
  · rw [if_neg e]
    by_cases hm : i < m
    · simp only [List.getElem?_range hm, Option.map_some]
      by_cases h1 : i < j
      · rw [if_pos h1, if_pos (by omega)]
      · rw [if_neg h1, if_neg (by omega)]
    · simp [hm]
theorem midL_next {m : Nat} {ss : List Strat} {ll : List (List Int)} {k : Nat} : midL m ss ll k m = midL m ss ll (k + 1) 0 := by
  unfold midL
  apply List.map_congr_left
  intro c hc
  have := List.mem_range.1 hc
  simp [this, gK]
theorem midL_end {m : Nat} {ss : List Strat} {ll : List (List Int)} : midL m ss ll ss.length 0 = getsL m ss ll := by
  unfold midL getsL
  simp
theorem midL_zero {m : Nat} {ss : List Strat} {ll : List (List Int)} : midL m ss ll 0 0 = List.replicate m 0 := by
  unfold midL
  apply List.ext_getElem?
  intro i
  by_cases hm : i < m
  · simp [hm, gK]
  · simp [hm]

theorem refusedL_nil {ss : List Strat} {ll : List (List Int)} (h : partsB ss ll = true) (k : Nat) (hk : k ≤ ll.length) : refusedL ss ll k = [] := by
  induction k with
  | zero => rfl
  | succ k ih =>
    have := List.all_eq_true.1 h k (List.mem_range.2 (by omega))
    rw [refusedL, ih (by omega), this]
    rfl
theorem refusedL_pos {ss : List Strat} {ll : List (List Int)} (h : partsB ss ll = false) : 0 < (refusedL ss ll ll.length).length := by
  unfold partsB at h
  rw [List.all_eq_false] at h
  obtain ⟨i, hi, hp⟩ := h
  have hi := List.mem_range.1 hi
  have key : ∀ k, i < k → 0 < (refusedL ss ll k).length := by
    intro k
    induction k with
    | zero => intro h; omega
    | succ k ih =>
      intro hik
      rw [refusedL, List.length_append]
      by_cases e : i = k
      · subst e
        rw [if_neg hp]
        simp
      · have := ih (by omega)
        omega
  exact key _ hi
end Go.Proofs.Ytobeffjdfhkjeaa
