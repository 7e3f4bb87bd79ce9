import Derived.Test.YtckgapeednokjaaGreatUe
set_option linter.unusedVariables false
set_option linter.unusedSimpArgs false
namespace Go.Proofs.YtckgapeednokjaaGreat

/-! ### Log: the plain law of the insertion -/
/-- Does a record stand before another one? -/
def kltB (a b : Rc) : Bool := decide (a.mac < b.mac) || (decide (a.mac = b.mac) && decide (a.seq < b.seq))
theorem Rlt.trans' {x y z : Rc} (h : Rlt x y) (g : Rlt y z) : Rlt x z := by
  rcases h with h | ⟨h1, h2, h3⟩
  · rcases g with g | ⟨g1, g2, g3⟩
    · exact .inl (by omega)
    · exact .inl (by omega)
  · rcases g with g | ⟨g1, g2, g3⟩
    · exact .inl (by omega)
    · exact .inr ⟨by omega, by omega, by omega⟩
theorem rlt_yes {x y : Rc} (hne : x ≠ y) (hc : contraB x y = false) (h : kltB x y = true) : Rlt x y := by
  simp only [kltB, Bool.or_eq_true, Bool.and_eq_true, decide_eq_true_eq] at h
  rcases h with h | ⟨h1, h2⟩
  · exact .inl h
  · refine .inr ⟨h1, h2, ?_⟩
    simp only [contraB, hne, h1, decide_false, decide_true, Bool.not_true, Bool.or_false, Bool.not_false, Bool.true_and, Bool.or_eq_false_iff, Bool.and_eq_false_iff, decide_eq_false_iff_not] at hc
    omega
theorem rlt_no {x y : Rc} (hne : x ≠ y) (hc : contraB x y = false) (h : kltB x y = false) : Rlt y x := by
  simp only [kltB, Bool.or_eq_false_iff, Bool.and_eq_false_iff, decide_eq_false_iff_not] at h
  obtain ⟨h0, h1⟩ := h
  by_cases hm : x.mac = y.mac
  · simp only [contraB, hne, hm, decide_false, decide_true, Bool.not_true, Bool.or_false, Bool.not_false, Bool.true_and, Bool.or_eq_false_iff, Bool.and_eq_false_iff, decide_eq_false_iff_not] at hc
    refine .inr ⟨hm.symm, by omega, by omega⟩
  · exact .inl (by omega)
theorem ins_sorted {pre suf : List Rc} {r : Rc} (hpw : (pre ++ suf).Pairwise Rlt) (hc : ∀ s ∈ pre ++ suf, r ≠ s ∧ contraB r s = false) (hs : ∀ s ∈ suf, kltB r s = true)
    (hp : ∀ s, pre.getLast? = some s → kltB r s = false) : (pre ++ r :: suf).Pairwise Rlt := by
  rw [List.pairwise_append] at hpw ⊢
  obtain ⟨h1, h2, h3⟩ := hpw
  refine ⟨h1, List.pairwise_cons.2 ⟨fun s hs' => rlt_yes (hc s (by simp [hs'])).1 (hc s (by simp [hs'])).2 (hs s hs'), h2⟩, fun a ha b hb => ?_⟩
  rcases List.mem_cons.1 hb with rfl | hb
  · have hne : pre ≠ [] := fun e => by rw [e] at ha; cases ha
    have hl := List.getLast?_eq_some_getLast hne
    have hlt : Rlt (pre.getLast hne) b := rlt_no (hc _ (by simp)).1 (hc _ (by simp)).2 (hp _ hl)
    have hd := List.dropLast_concat_getLast hne
    rw [← hd] at ha h1
    rcases List.mem_append.1 ha with ha | ha
    · exact ((List.pairwise_append.1 h1).2.2 a ha _ (by simp)).trans' hlt
    · rw [List.mem_singleton] at ha
      subst ha
      exact hlt
  · exact h3 a ha b hb
/-- The state of the insertion: the new record stands behind k others. -/
def InsAt (o : List Rc) (r : Rc) (k : Nat) (L : List Rc) : Prop := ∃ pre suf, o = pre ++ suf ∧ L = pre ++ r :: suf ∧ pre.length = k ∧ ∀ s ∈ suf, kltB r s = true
theorem InsAt.start (o : List Rc) (r : Rc) : InsAt o r o.length (o ++ [r]) := ⟨o, [], by simp, rfl, rfl, by simp⟩
theorem InsAt.len {o : List Rc} {r : Rc} {k : Nat} {L : List Rc} (h : InsAt o r k L) : L.length = o.length + 1 ∧ k ≤ o.length := by
  obtain ⟨pre, suf, rfl, rfl, rfl, _⟩ := h
  simp
  omega
theorem InsAt.get {o : List Rc} {r : Rc} {k : Nat} {L : List Rc} (h : InsAt o r k L) : L[k]? = some r := by
  obtain ⟨pre, suf, rfl, rfl, rfl, _⟩ := h
  simp
theorem InsAt.prev {o : List Rc} {r : Rc} {k : Nat} {L : List Rc} (h : InsAt o r (k + 1) L) : ∃ s, L[k]? = some s ∧ (kltB r s = true → InsAt o r k ((L.set (k + 1) s).set k r)) ∧ ∀ (hpw : o.Pairwise Rlt) (hc : ∀ s ∈ o, r ≠ s ∧ contraB r s = false), kltB r s = false → L.Pairwise Rlt := by
  obtain ⟨pre, suf, rfl, rfl, hk, hs⟩ := h
  have hne : pre ≠ [] := fun e => by rw [e] at hk; cases hk
  obtain ⟨p, s, rfl⟩ : ∃ p s, pre = p ++ [s] := ⟨_, _, (List.dropLast_concat_getLast hne).symm⟩
  have hpl : p.length = k := by simpa using hk
  subst hpl
  refine ⟨s, by simp, fun hlt => ⟨p, s :: suf, by simp, ?_, rfl, ?_⟩, fun hpw hc hno => ins_sorted hpw hc hs (fun x hx => ?_)⟩
  · simp
  · intro x hx
    rcases List.mem_cons.1 hx with rfl | hx
    · exact hlt
    · exact hs x hx
  · simp at hx
    subst hx
    exact hno
theorem InsAt.zero {o : List Rc} {r : Rc} {L : List Rc} (h : InsAt o r 0 L) (hpw : o.Pairwise Rlt) (hc : ∀ s ∈ o, r ≠ s ∧ contraB r s = false) : L.Pairwise Rlt := by
  obtain ⟨pre, suf, rfl, rfl, hk, hs⟩ := h
  have : pre = [] := List.eq_nil_of_length_eq_zero hk
  subst this
  exact ins_sorted hpw hc hs (fun x hx => by simp at hx)
theorem InsAt.mem {o : List Rc} {r : Rc} {k : Nat} {L : List Rc} (h : InsAt o r k L) : ∀ s ∈ L, s ∈ o ∨ s = r := by
  obtain ⟨pre, suf, rfl, rfl, rfl, _⟩ := h
  intro s hs
  simp only [List.mem_append, List.mem_cons] at hs ⊢
  rcases hs with h | h | h
  · exact .inl (.inl h)
  · exact .inr h
  · exact .inl (.inr h)
end Go.Proofs.YtckgapeednokjaaGreat
