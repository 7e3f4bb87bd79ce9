import Derived.Test.YtobeffjdfhkjeaaDe
set_option linter.unusedVariables false
set_option linter.unusedSimpArgs false
set_option linter.unusedSectionVars false
namespace Go.Proofs.Ytobeffjdfhkjeaa
open Go Go.Proofs Go.RowKit

/-! ### What a division is like: plain -/
theorem sumL_map_add (f g : Nat → Int) : ∀ n, sumL ((List.range n).map fun c => f c + g c) = sumL ((List.range n).map f) + sumL ((List.range n).map g)
  | 0 => by simp [sumL]
  | n + 1 => by
    have ih := sumL_map_add f g n
    simp only [List.range_succ, List.map_append, List.map_cons, List.map_nil, sumL_append, sumL] at ih ⊢
    omega
theorem sumL_map_le {f g : Nat → Int} : ∀ n, (∀ c, c < n → f c ≤ g c) → sumL ((List.range n).map f) ≤ sumL ((List.range n).map g)
  | 0, _ => by simp [sumL]
  | n + 1, h => by
    have ih := sumL_map_le n (fun c hc => h c (by omega))
    have := h n (by omega)
    simp only [List.range_succ, List.map_append, List.map_cons, List.map_nil, sumL_append, sumL] at ih ⊢
    omega
theorem sumL_map_mul (k : Int) (f : Nat → Int) : ∀ n, sumL ((List.range n).map fun c => k * f c) = k * sumL ((List.range n).map f)
  | 0 => by simp [sumL]
  | n + 1 => by
    have ih := sumL_map_mul k f n
    simp only [List.range_succ, List.map_append, List.map_cons, List.map_nil, sumL_append, sumL, Int.mul_add] at ih ⊢
    omega
theorem sumL_map_upd {f : Nat → Int} {b : Nat} : ∀ n, b < n → sumL ((List.range n).map fun c => if c = b then f b + 1 else f c) = sumL ((List.range n).map f) + 1
  | 0, h => by omega
  | n + 1, h => by
    simp only [List.range_succ, List.map_append, List.map_cons, List.map_nil, sumL_append, sumL]
    by_cases e : n = b
    · subst e
      have : (List.range n).map (fun c => if c = n then f n + 1 else f c) = (List.range n).map f := List.map_congr_left fun c hc => by
        have := List.mem_range.1 hc
        rw [if_neg (by omega)]
      rw [this, if_pos rfl]
      omega
    · have ih := sumL_map_upd (f := f) (b := b) n (by omega)
      rw [ih, if_neg e]
      omega
theorem count_rank (r : Nat → Int) (n : Nat) : ∀ i, i ≤ n → sumL ((List.range n).map fun c => if rank r n c < i then (1 : Int) else 0) = i
  | 0, _ => by
    have : (fun c => if rank r n c < 0 then (1 : Int) else 0) = fun _ => (0 : Int) * 0 := by funext c; simp
    rw [this, sumL_map_mul]
    simp
  | i + 1, h => by
    obtain ⟨b, hb, hr⟩ := rank_ex (r := r) (n := n) (i := i) (by omega)
    have ih := count_rank r n i (by omega)
    have e : (List.range n).map (fun c => if rank r n c < i + 1 then (1 : Int) else 0) = (List.range n).map (fun c => if c = b then (if rank r n b < i then (1 : Int) else 0) + 1 else if rank r n c < i then (1 : Int) else 0) := List.map_congr_left fun c hc => by
      have hc := List.mem_range.1 hc
      by_cases e : c = b
      · subst e
        rw [if_pos (by omega), if_pos rfl, if_neg (by omega)]
        rfl
      · have : rank r n c ≠ i := fun h => e (rank_inj hc hb (h.trans hr.symm))
        rw [if_neg e]
        by_cases h : rank r n c < i
        · rw [if_pos h, if_pos (by omega)]
        · rw [if_neg h, if_neg (by omega)]
    rw [e, sumL_map_upd (f := fun c => if rank r n c < i then (1 : Int) else 0) n hb, ih]
    omega

section
variable {coins : Int} {ws : List Int} (h : DivOk coins ws)
include h
theorem div_sum : sumL (divL coins ws) = coins := by
  have hl := h.left
  have h1 := leftK_sum coins ws ws.length
  have h2 := count_rank (remAt coins ws) ws.length (leftAll coins ws).toNat (by omega)
  unfold divL divAt
  rw [sumL_map_add, h2]
  unfold leftAll at hl ⊢
  omega
theorem div_rem : sumL ((List.range ws.length).map (remAt coins ws)) = wholeW ws * leftAll coins ws := by
  have key : ∀ k, k ≤ ws.length → coins * sumL ((divW ws).take k) = wholeW ws * sumL ((List.range k).map (quoAt coins ws)) + sumL ((List.range k).map (remAt coins ws)) := by
    intro k
    induction k with
    | zero => intro _; simp [sumL]
    | succ k ih =>
      intro hk
      have ih := ih (by omega)
      have hw : (divW ws)[k]? = some (wAt ws k) := by
        unfold wAt
        rw [List.getElem?_eq_getElem (by rw [divW_length]; omega)]
        rfl
      have hd := Int.emod_add_mul_ediv (coins * wAt ws k) (wholeW ws)
      rw [sumL_take hw, List.range_succ]
      simp only [List.map_append, List.map_cons, List.map_nil, sumL_append, sumL, Int.mul_add, Int.mul_zero, Int.add_zero]
      unfold quoAt remAt at *
      omega
  have h1 := key ws.length (Nat.le_refl _)
  rw [List.take_of_length_le (by rw [divW_length]; exact Nat.le_refl _)] at h1
  have h2 := leftK_sum coins ws ws.length
  have h3 : coins * wholeW ws = wholeW ws * sumL ((List.range ws.length).map (quoAt coins ws)) + wholeW ws * leftAll coins ws := by
    rw [← Int.mul_add]
    unfold leftAll
    rw [h2, Int.mul_comm]
  unfold wholeW at *
  omega
/-- A weight of nothing gets nothing. -/
theorem div_zero {c : Nat} (hc : c < ws.length) (hw : wAt ws c = 0) : divAt coins ws (leftAll coins ws).toNat c = 0 := by
  have hq : quoAt coins ws c = 0 := by simp [quoAt, hw]
  have hr : remAt coins ws c = 0 := by simp [remAt, hw]
  unfold divAt
  rw [hq]
  by_cases hk : rank (remAt coins ws) ws.length c < (leftAll coins ws).toNat
  · exfalso
    have hl := h.left
    have h1 := div_rem h
    have h2 := count_rank (remAt coins ws) ws.length (rank (remAt coins ws) ws.length c) (by have := rank_lt (r := remAt coins ws) hc; omega)
    have h3 : sumL ((List.range ws.length).map (remAt coins ws)) ≤ sumL ((List.range ws.length).map fun d => wholeW ws * if rank (remAt coins ws) ws.length d < rank (remAt coins ws) ws.length c then (1 : Int) else 0) := by
      refine sumL_map_le _ fun d hd => ?_
      have hrd := h.rem d
      by_cases e : rank (remAt coins ws) ws.length d < rank (remAt coins ws) ws.length c
      · rw [if_pos e]; omega
      · rw [if_neg e]
        have : ¬ bf (remAt coins ws) d c = true := fun hb => e ((rank_mono hd hc).1 hb)
        simp only [bf, Bool.or_eq_true, Bool.and_eq_true, decide_eq_true_eq, not_or] at this
        omega
    rw [sumL_map_mul, h2, h1] at h3
    have hwh := h.whole
    have h4 := Int.le_of_mul_le_mul_left h3 (by omega)
    omega
  · rw [if_neg hk]; rfl
theorem div_part (c : Nat) : quoAt coins ws c ≤ divAt coins ws (leftAll coins ws).toNat c ∧ divAt coins ws (leftAll coins ws).toNat c ≤ quoAt coins ws c + 1 := by
  unfold divAt
  split <;> omega
/-- More weight gets no less. -/
theorem div_mono {i k : Nat} (hi : i < ws.length) (hk : k < ws.length) (hw : wAt ws i < wAt ws k) : divAt coins ws (leftAll coins ws).toNat i ≤ divAt coins ws (leftAll coins ws).toNat k := by
  have hwh := h.whole
  have hco := h.coins
  have hprod : coins * wAt ws i ≤ coins * wAt ws k := Int.mul_le_mul_of_nonneg_left (by omega) hco.1
  have hq : quoAt coins ws i ≤ quoAt coins ws k := Int.ediv_le_ediv (by omega) hprod
  have h1 := div_part h i
  have h2 := div_part h k
  by_cases e : quoAt coins ws i = quoAt coins ws k
  · by_cases h0 : coins = 0
    · subst h0
      have hl : leftAll 0 ws = 0 := by
        have := leftK_sum 0 ws ws.length
        have h3 : sumL ((List.range ws.length).map (quoAt 0 ws)) = 0 := by
          have : quoAt 0 ws = fun _ => (0 : Int) * 0 := by funext c; simp [quoAt]
          rw [this, sumL_map_mul]; simp
        unfold leftAll
        omega
      unfold divAt
      rw [hl, if_neg (by simp), if_neg (by simp)]
      omega
    · have hlt : coins * wAt ws i < coins * wAt ws k := Int.mul_lt_mul_of_pos_left hw (by omega)
      have hr : remAt coins ws i < remAt coins ws k := by
        have d1 := Int.emod_add_mul_ediv (coins * wAt ws i) (wholeW ws)
        have d2 := Int.emod_add_mul_ediv (coins * wAt ws k) (wholeW ws)
        unfold quoAt at e
        unfold remAt
        rw [e] at d1
        omega
      have hb : bf (remAt coins ws) k i = true := by simp [bf, hr]
      have := (rank_mono hk hi).1 hb
      unfold divAt
      rw [e]
      split <;> split <;> omega
  · omega
end
end Go.Proofs.Ytobeffjdfhkjeaa
