import Derived.Test.YtckgapeednokjaaGreatZn
import Derived.Test.YtckgapeednokjaaGreatZ9
set_option linter.unusedVariables false
set_option linter.unusedSimpArgs false
namespace Go.Proofs.YtckgapeednokjaaGreat
open Go Go.Proofs Go.RowKit

/-! ### The tables are truths -/
theorem truth_lows {d : DDay} (h : DayOk d) : truthB d.blocks (tabL d.blocks (loT d.blocks)) = true :=
  truth_of (fun b i _ _ => by have := rel_any h b i; omega) (fun b i _ hi => (rise_le h (by omega) hi).1)
theorem truth_highs {d : DDay} (h : DayOk d) : truthB d.blocks (tabL d.blocks (hiT d.blocks)) = true :=
  truth_of (fun b i _ _ => by have := rel_any h b i; omega) (fun b i _ hi => (rise_le h (by omega) hi).2)
theorem truth_str {d : DDay} (h : DayOk d) (b e : Nat) : truthB d.blocks (tabL d.blocks (strT d.blocks b e)) = true := by
  refine truth_of (fun c i _ _ => ?_) (fun c i _ hi => ?_)
  · have := rel_any h c i
    unfold strT
    split <;> omega
  · have h1 := rise_le h (b := c) (i := i) (j := i + 1) (by omega) hi
    have h2 := rel_any h c i
    have h3 := rel_any h c (i + 1)
    unfold strT
    split <;> split <;> omega
theorem truth_pre {d : DDay} (h : DayOk d) {b a : Nat} (hi : InDay d b a) : truthB d.blocks (tabL d.blocks (preT d.blocks b a)) = true := by
  refine truth_of (fun c i _ hc => ?_) (fun c i _ hc => ?_)
  · have h2 := rel_any h c i
    unfold preT
    split
    · rename_i e
      split
      · omega
      · have h3 := rise_le h (b := c) (i := a) (j := i) (by omega) hc
        have h4 := rel_any h c a
        omega
    · omega
  · have h1 := rise_le h (b := c) (i := i) (j := i + 1) (by omega) hc
    have h2 := rel_any h c i
    have h3 := rel_any h c (i + 1)
    unfold preT
    split
    · rename_i e
      by_cases e1 : i + 1 ≤ a
      · rw [if_pos (by omega), if_pos e1]; omega
      · rw [if_neg e1]
        by_cases e2 : i ≤ a
        · have : i = a := by omega
          subst this
          rw [if_pos (Nat.le_refl _)]; omega
        · rw [if_neg e2]; omega
    · omega
theorem truth_wor {d : DDay} (h : DayOk d) (ps : List Pc) : truthB d.blocks (tabL d.blocks (worT d.blocks ps)) = true := by
  refine truth_of (fun c i _ hc => ?_) (fun c i _ _ => ?_)
  · have h1 := wor_ge (d := d) ps c i
    have h2 := raise_ge h ps c i
    have h3 := wor_le h ps c i (M := hiT d.blocks c i) fun j hj => by
      have := raise_le h ps c j
      have := (rise_le h (b := c) hj hc).2
      omega
    omega
  · simp only [worT]
    omega
/-! ### worst -/
def raiB (bl : List (List Rel)) (f : Nat → Nat → Bool) : Nat → Nat → Int := fun c i => if f c i then hiT bl c i else loT bl c i
def hitP (p : Pc) (c i : Nat) : Bool := p.b == c && (decide (p.fr < i) && decide (i ≤ p.to))
def hitK (ps : List Pc) (k : Nat) : Nat → Nat → Bool := fun c i => (ps.take k).any fun p => hitP p c i
def hitI (ps : List Pc) (k : Nat) (p : Pc) (m : Nat) : Nat → Nat → Bool := fun c i => hitK ps k c i || (p.b == c && (decide (p.fr < i) && decide (i < m)))
theorem raiB_congr {bl : List (List Rel)} {f g : Nat → Nat → Bool} (h : ∀ c i, f c i = g c i) : tabL bl (raiB bl f) = tabL bl (raiB bl g) := tabL_congr fun c i _ _ => by unfold raiB; rw [h]
theorem hitI_start (ps : List Pc) (k : Nat) (p : Pc) (c i : Nat) : hitI ps k p (p.fr + 1) c i = hitK ps k c i := by
  unfold hitI
  have : (decide (p.fr < i) && decide (i < p.fr + 1)) = false := by
    rw [Bool.and_eq_false_iff]
    by_cases h : p.fr < i
    · right; simp; omega
    · left; simpa using h
  rw [this, Bool.and_false, Bool.or_false]
theorem hitI_end {ps : List Pc} {k : Nat} {p : Pc} (hp : ps[k]? = some p) (c i : Nat) : hitI ps k p (p.to + 1) c i = hitK ps (k + 1) c i := by
  unfold hitI hitK
  rw [List.take_add_one, hp, List.any_append]
  have : decide (i < p.to + 1) = decide (i ≤ p.to) := by simp; omega
  rw [this]
  simp [hitP]
theorem hitI_step {bl : List (List Rel)} (ps : List Pc) (k : Nat) (p : Pc) {m : Nat} (hm : p.fr < m) : tabL bl (updT (raiB bl (hitI ps k p m)) p.b m (hiT bl p.b m)) = tabL bl (raiB bl (hitI ps k p (m + 1))) := by
  refine tabL_congr fun c i _ _ => ?_
  unfold updT raiB
  by_cases h1 : c = p.b ∧ i = m
  · obtain ⟨rfl, rfl⟩ := h1
    rw [if_pos ⟨rfl, rfl⟩, if_pos]
    unfold hitI
    simp [hm]
  · rw [if_neg h1]
    have : hitI ps k p (m + 1) c i = hitI ps k p m c i := by
      unfold hitI
      by_cases hc : p.b = c
      · have hi : i ≠ m := fun e => h1 ⟨hc.symm, e⟩
        have : decide (i < m + 1) = decide (i < m) := by simp; omega
        rw [this]
      · have : (p.b == c) = false := by simpa using hc
        rw [this, Bool.false_and, Bool.false_and]
    rw [this]
theorem rai_all {bl : List (List Rel)} (ps : List Pc) : raiB bl (hitK ps ps.length) = raiseT bl ps := by
  funext c i
  unfold raiB hitK raiseT
  rw [List.take_length]
  rfl
theorem rai_zero (bl : List (List Rel)) (ps : List Pc) : raiB bl (hitK ps 0) = loT bl := by
  funext c i
  unfold raiB hitK
  simp
def worA (bl : List (List Rel)) (ps : List Pc) (b : Nat) : Nat → Nat → Int := fun c i => if c < b then worT bl ps c i else raiseT bl ps c i
def worK (bl : List (List Rel)) (ps : List Pc) (b m : Nat) : Nat → Nat → Int := fun c i => if c < b ∨ (c = b ∧ i < m) then worT bl ps c i else raiseT bl ps c i
theorem worK_start (bl : List (List Rel)) (ps : List Pc) (b : Nat) : worK bl ps b 1 = worA bl ps b := by
  funext c i
  unfold worK worA
  by_cases h : c < b
  · rw [if_pos (.inl h), if_pos h]
  · rw [if_neg h]
    by_cases h2 : c = b ∧ i < 1
    · obtain ⟨h3, h4⟩ := h2
      have : i = 0 := by omega
      subst this
      rw [if_pos (.inr ⟨h3, h4⟩)]
      rfl
    · rw [if_neg (by omega)]
theorem worK_end {bl : List (List Rel)} (ps : List Pc) {b m : Nat} (h : m = (bl[b]?.getD []).length) : tabL bl (worK bl ps b m) = tabL bl (worA bl ps (b + 1)) := tabL_congr fun c i hc hi => by
  unfold worK worA
  by_cases h1 : c < b
  · rw [if_pos (.inl h1), if_pos (by omega)]
  · by_cases h2 : c = b
    · rw [if_pos (.inr ⟨h2, by rw [h, ← h2]; exact hi⟩), if_pos (by omega)]
    · rw [if_neg (by omega), if_neg (by omega)]
theorem worK_step {bl : List (List Rel)} (ps : List Pc) (b m : Nat) : tabL bl (updT (worK bl ps b (m + 1)) b (m + 1) (max (raiseT bl ps b (m + 1)) (worT bl ps b m))) = tabL bl (worK bl ps b (m + 2)) := by
  refine tabL_congr fun c i _ _ => ?_
  unfold updT worK
  by_cases h1 : c = b ∧ i = m + 1
  · obtain ⟨rfl, rfl⟩ := h1
    rw [if_pos ⟨rfl, rfl⟩, if_pos (.inr ⟨rfl, by omega⟩)]
    rfl
  · rw [if_neg h1]
    by_cases h2 : c < b ∨ (c = b ∧ i < m + 1)
    · rw [if_pos h2, if_pos (by omega)]
    · rw [if_neg h2, if_neg (by omega)]
theorem worA_zero (bl : List (List Rel)) (ps : List Pc) : worA bl ps 0 = raiseT bl ps := by
  funext c i
  unfold worA
  rw [if_neg (by omega)]
theorem worA_all {bl : List (List Rel)} (ps : List Pc) {n : Nat} (h : n = bl.length) : tabL bl (worA bl ps n) = tabL bl (worT bl ps) := tabL_congr fun c i hc _ => by
  unfold worA
  rw [if_pos (by omega)]
end Go.Proofs.YtckgapeednokjaaGreat
