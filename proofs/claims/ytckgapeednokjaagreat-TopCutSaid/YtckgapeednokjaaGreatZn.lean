import Derived.Test.YtckgapeednokjaaGreatZm
set_option linter.unusedVariables false
set_option linter.unusedSimpArgs false
namespace Go.Proofs.YtckgapeednokjaaGreat
open Go Go.Proofs Go.RowKit

/-! ### The truths in which one block is late behind a relief, or up to one -/
def strK (bl : List (List Rel)) (b e k : Nat) : Nat → Nat → Int := fun c i => if c = b ∧ e < i ∧ i < k then hiT bl c i else loT bl c i
def strT (bl : List (List Rel)) (b e : Nat) : Nat → Nat → Int := fun c i => if c = b ∧ e < i then hiT bl c i else loT bl c i
def preA (bl : List (List Rel)) (b k : Nat) : Nat → Nat → Int := fun c i => if c = b ∧ i < k then hiT bl c i else loT bl c i
def preK (bl : List (List Rel)) (b a k : Nat) : Nat → Nat → Int := fun c i => if c = b then (if i ≤ a then hiT bl c i else if i < k then max (loT bl c i) (hiT bl c a) else loT bl c i) else loT bl c i
theorem str_step {bl : List (List Rel)} {b e k : Nat} (h : e < k) : tabL bl (updT (strK bl b e k) b k (hiT bl b k)) = tabL bl (strK bl b e (k + 1)) := by
  refine tabL_congr fun c i _ _ => ?_
  unfold updT strK
  by_cases h1 : c = b ∧ i = k
  · obtain ⟨rfl, rfl⟩ := h1
    rw [if_pos ⟨rfl, rfl⟩, if_pos ⟨rfl, h, by omega⟩]
  · rw [if_neg h1]
    by_cases h2 : c = b ∧ e < i ∧ i < k
    · rw [if_pos h2, if_pos ⟨h2.1, h2.2.1, by omega⟩]
    · rw [if_neg h2, if_neg (fun h3 => ?_)]
      obtain ⟨h4, h5, h6⟩ := h3
      by_cases h7 : i = k
      · exact h1 ⟨h4, h7⟩
      · exact h2 ⟨h4, h5, by omega⟩
theorem str_zero (bl : List (List Rel)) (b e : Nat) : tabL bl (strK bl b e (e + 1)) = tabL bl (loT bl) := tabL_congr fun c i _ _ => by
  unfold strK
  rw [if_neg (by omega)]
theorem str_all {bl : List (List Rel)} {b e k : Nat} (h : k = (bl[b]?.getD []).length) : tabL bl (strK bl b e k) = tabL bl (strT bl b e) := tabL_congr fun c i hc hi => by
  unfold strK strT
  by_cases h1 : c = b ∧ e < i
  · rw [if_pos h1, if_pos ⟨h1.1, h1.2, by rw [h, ← h1.1]; exact hi⟩]
  · rw [if_neg h1, if_neg (fun h2 => h1 ⟨h2.1, h2.2.1⟩)]
theorem preA_step (bl : List (List Rel)) (b k : Nat) : tabL bl (updT (preA bl b k) b k (hiT bl b k)) = tabL bl (preA bl b (k + 1)) := by
  refine tabL_congr fun c i _ _ => ?_
  unfold updT preA
  by_cases h1 : c = b ∧ i = k
  · obtain ⟨rfl, rfl⟩ := h1
    rw [if_pos ⟨rfl, rfl⟩, if_pos ⟨rfl, by omega⟩]
  · rw [if_neg h1]
    by_cases h2 : c = b ∧ i < k
    · rw [if_pos h2, if_pos ⟨h2.1, by omega⟩]
    · rw [if_neg h2, if_neg (fun h3 => ?_)]
      by_cases h7 : i = k
      · exact h1 ⟨h3.1, h7⟩
      · exact h2 ⟨h3.1, by omega⟩
theorem preA_zero (bl : List (List Rel)) (b : Nat) : tabL bl (preA bl b 0) = tabL bl (loT bl) := tabL_congr fun c i _ _ => by
  unfold preA
  rw [if_neg (by omega)]
theorem preA_K (bl : List (List Rel)) (b a : Nat) : tabL bl (preA bl b (a + 1)) = tabL bl (preK bl b a (a + 1)) := tabL_congr fun c i _ _ => by
  unfold preA preK
  by_cases h1 : c = b
  · rw [if_pos h1]
    by_cases h2 : i ≤ a
    · rw [if_pos h2, if_pos ⟨h1, by omega⟩]
    · rw [if_neg h2, if_neg (by omega), if_neg (by omega)]
  · rw [if_neg h1, if_neg (fun h => h1 h.1)]
theorem preK_step {bl : List (List Rel)} {b a k : Nat} (h : a < k) : tabL bl (updT (preK bl b a k) b k (max (loT bl b k) (hiT bl b a))) = tabL bl (preK bl b a (k + 1)) := by
  refine tabL_congr fun c i _ _ => ?_
  unfold updT preK
  by_cases h1 : c = b ∧ i = k
  · obtain ⟨rfl, rfl⟩ := h1
    rw [if_pos ⟨rfl, rfl⟩, if_pos rfl, if_neg (by omega), if_pos (by omega)]
  · rw [if_neg h1]
    by_cases h2 : c = b
    · rw [if_pos h2, if_pos h2]
      by_cases h3 : i ≤ a
      · rw [if_pos h3, if_pos h3]
      · rw [if_neg h3, if_neg h3]
        by_cases h4 : i < k
        · rw [if_pos h4, if_pos (by omega)]
        · rw [if_neg h4, if_neg (fun h5 => h1 ⟨h2, by omega⟩)]
    · rw [if_neg h2, if_neg h2]
theorem preK_all {bl : List (List Rel)} {b a k : Nat} (h : k = (bl[b]?.getD []).length) : tabL bl (preK bl b a k) = tabL bl (preT bl b a) := tabL_congr fun c i hc hi => by
  unfold preK preT
  by_cases h1 : c = b
  · rw [if_pos h1, if_pos h1]
    by_cases h2 : i ≤ a
    · rw [if_pos h2, if_pos h2]
    · rw [if_neg h2, if_neg h2, if_pos (by rw [h, ← h1]; exact hi)]
  · rw [if_neg h1, if_neg h1]
theorem tab_drew {w : World} {p : Addr} {x : Value} {base : Nat} {v : Value} {tt : List (List Int)} (h : TabOwn (w.setCell p x) base v tt) : TabOwn (w.drew.setCell p x) base v tt :=
  TabOwn.below (W' := (w.setCell p x).drew) h (Below.refl _ _).drew
theorem wp_region_pickX {P : Program} {Q : Exit → Act → World → Prop} {id : Nat} {a : Act} {w : World} {l : List Oper} (fs rs : List Nat) (kp : Nat → Bool) (S : World → Prop) (hm : P.follows .mixedOrders = true)
    (hB : (Region.noSelect l.toArray && (frontPickB .any l.toArray kp fs (Array.replicate l.toArray.size false) && (seqPickB .any l.toArray rs (listAll fs (Array.replicate l.toArray.size false)) && (decide (fs.length + rs.length = l.length) && rs.all fun i => decide (i < l.length))))) = true)
    (hQ : ∀ c a d v w, Q (.panic c) (a.put d v) w → Q (.panic c) a w) (hS : S w.drew)
    (h : Nonempty (Meets S) → wpQuiet P l.toArray (fun w' => ∃ x : Meets S, w' = x.val) (fun a' => wpSeqP P l.toArray Q S kp (pickN l rs) a' w.drew) (pick l fs) a) : (Code.region id l.toArray true).wp P Q a w :=
  wp_region_pick fs rs kp S hm hB hQ hS h
end Go.Proofs.YtckgapeednokjaaGreat
