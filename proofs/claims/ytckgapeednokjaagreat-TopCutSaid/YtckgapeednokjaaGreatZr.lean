import Derived.Test.YtckgapeednokjaaGreatZq
import Derived.Test.YtckgapeednokjaaGreatZp
import Derived.Test.YtckgapeednokjaaGreatE3
set_option linter.unusedVariables false
set_option linter.unusedSimpArgs false
namespace Go.Proofs.YtckgapeednokjaaGreat
open Go Go.Proofs Go.RowKit

/-! ### How often is a segment seen? -/
def seenP (n : Nat) (p : List (List Nat)) (l : List Nat) (k : Nat) : List Int := (List.range n).map fun s => ((p.countP fun q => decide (s ∈ q)) : Int) + if s ∈ l.take k then 1 else 0
def seenL (n : Nat) (p : List (List Nat)) : List Int := (List.range n).map fun s => ((p.countP fun q => decide (s ∈ q)) : Int)
theorem seenP_len (n : Nat) (p : List (List Nat)) (l : List Nat) (k : Nat) : (seenP n p l k).length = n := by simp [seenP]
theorem seenL_len (n : Nat) (p : List (List Nat)) : (seenL n p).length = n := by simp [seenL]
theorem seenL_nil (n : Nat) : seenL n [] = List.replicate n 0 := by
  unfold seenL
  simp [List.map_const']
theorem seenP_zero (n : Nat) (p : List (List Nat)) (l : List Nat) : seenP n p l 0 = seenL n p := by
  unfold seenP seenL
  simp
theorem seenP_full (n : Nat) (p : List (List Nat)) (l : List Nat) : seenP n p l l.length = seenL n (p ++ [l]) := by
  unfold seenP seenL
  refine List.map_congr_left fun s _ => ?_
  rw [List.take_length, List.countP_append]
  by_cases h : s ∈ l
  · simp [h]
  · simp [h]
theorem seenP_get {n s : Nat} (p : List (List Nat)) (l : List Nat) (k : Nat) (hs : s < n) : (seenP n p l k)[s]? = some (((p.countP fun q => decide (s ∈ q)) : Int) + if s ∈ l.take k then 1 else 0) := by
  unfold seenP
  rw [List.getElem?_map, List.getElem?_range hs]
  rfl
theorem seenL_get {n s : Nat} (p : List (List Nat)) (hs : s < n) : (seenL n p)[s]? = some ((p.countP fun q => decide (s ∈ q)) : Int) := by
  unfold seenL
  rw [List.getElem?_map, List.getElem?_range hs]
  rfl
theorem seenP_bd {n s : Nat} {p : List (List Nat)} {l : List Nat} {k : Nat} {x : Int} (h : (seenP n p l k)[s]? = some x) : 0 ≤ x ∧ x ≤ p.length + 1 := by
  have hs : s < n := by have := (List.getElem?_eq_some_iff.1 h).1; rw [seenP_len] at this; exact this
  rw [seenP_get p l k hs] at h
  cases h
  have := List.countP_le_length (p := fun q => decide (s ∈ q)) (l := p)
  split <;> omega
theorem seenP_step {n s : Nat} (p : List (List Nat)) {l : List Nat} {k : Nat} {x : Int} (hl : l.Pairwise (· < ·)) (hk : l[k]? = some s) (hx : (seenP n p l k)[s]? = some x) : (seenP n p l k).set s (x + 1) = seenP n p l (k + 1) := by
  have hs : s < n := by have := (List.getElem?_eq_some_iff.1 hx).1; rw [seenP_len] at this; exact this
  have hns : s ∉ l.take k := by
    intro hm
    obtain ⟨j, hj, e⟩ := List.getElem_of_mem hm
    have hjk : j < k := by have := hj; rw [List.length_take] at this; omega
    rw [List.getElem_take] at e
    obtain ⟨hk1, hk2⟩ := List.getElem?_eq_some_iff.1 hk
    have := List.pairwise_iff_getElem.1 hl j k (by omega) hk1 hjk
    omega
  rw [seenP_get p l k hs, if_neg hns, Int.add_zero, Option.some.injEq] at hx
  refine List.ext_getElem? fun j => ?_
  have ht : l.take (k + 1) = l.take k ++ [s] := by rw [List.take_add_one, hk]; rfl
  by_cases hj : j < n
  · rw [seenP_get p l (k + 1) hj, ht, List.getElem?_set, seenP_len, seenP_get p l k hj]
    by_cases e : s = j
    · subst e
      rw [if_pos rfl, if_pos hs]
      simp [hx]
    · rw [if_neg e]
      have : ¬ j = s := fun h => e h.symm
      simp [this]
  · rw [List.getElem?_eq_none (by rw [List.length_set, seenP_len]; omega), List.getElem?_eq_none (by rw [seenP_len]; omega)]
theorem seen_plan {d : DDay} {p : List (List Nat)} (h : IsPlan d p) {s : Nat} (hs : s < segN d.blocks) : (seenL (segN d.blocks) p)[s]? = some 1 := by
  rw [seenL_get p hs, h.once s hs]
  rfl
/-- What is best: none, or a right plan. -/
theorem best_cases {d : DDay} (hd : DayOk d) : bestLen d = (bestR d).length ∧ (∀ l ∈ bestR d, IsDuty d l ∧ legalL d l = true) ∧ (bestR d).length ≤ segN d.blocks ∧ ((bestE d = 0 ∧ IsPlan d (bestR d)) ∨ bestE d = 9) := by
  have hn : segN d.blocks ≤ 16 := by have := hd.segs; omega
  unfold bestLen bestR bestE
  cases hc : (bestV d).can with
  | false => exact ⟨rfl, fun l h => by simp at h, by simp, .inr rfl⟩
  | true =>
    have hp := best_plan hn hc
    exact ⟨rfl, fun l h => ⟨hp.duty l h, hp.legal l h⟩, best_few hd hc, .inl ⟨rfl, hp⟩⟩
theorem legal_in {d : DDay} (h : DayOk d) {l : List Nat} (hd : IsDuty d l) (hl : legalL d l = true) {tt : List (List Int)} (ht : truthB d.blocks tt = true) : obeysB d (tabT tt) (tabT tt) (piecesL d l) = true := by
  have hr : InRange d (tabT tt) := fun b i hb hi => (truth_tab h ht).2.2 b i ⟨hb, hi⟩
  first
    | exact legal_truth hd hl hr
    | exact legal_truth h hd hl hr
theorem pay_in {d : DDay} (h : DayOk d) {l : List Nat} (hd : IsDuty d l) {tt : List (List Int)} (ht : truthB d.blocks tt = true) : spreadP d (tabT tt) (tabT tt) (piecesL d l) ≤ payL d l ∧ d.law.least ≤ payL d l := by
  have hr : InRange d (tabT tt) := fun b i hb hi => (truth_tab h ht).2.2 b i ⟨hb, hi⟩
  first
    | exact pay_truth hd hr
    | exact pay_truth h hd hr
theorem RowsOwn.setN {w : World} {base : Nat} {us : List Value} {ll : List (List Int)} (h : RowsOwn w base us ll) {p : Addr} (hp : p.block < base) (x : Value) : RowsOwn (w.setCell p x) base us ll :=
  ⟨h.1, fun j l hl => by
    obtain ⟨u, h1, h2⟩ := h.2 j l hl
    exact ⟨u, h1, own_setN h2 hp x⟩⟩
/-- A row of a table of ours. -/
theorem RowsOwn.row {w : World} {base b2 gT n c k : Nat} {us : List Value} {ll : List (List Int)} {l : List Int} {e : TypeId} (ho : w.ownsRow b2 e 1 (.slice (some ⟨gT, 0, none⟩) n c) n us) (h : RowsOwn w base us ll) (hk : ll[k]? = some l) :
    ∃ A c', w.cell? ⟨gT, k, none⟩ = some (.slice A l.length c') ∧ NumsAt .i64 w (.slice A l.length c') l := by
  obtain ⟨u, h1, h2⟩ := h.2 k l hk
  have hn := nums_of_own (K := .i64) h2
  obtain ⟨A, c', rfl, _, _⟩ := hn.form
  have hkn : k < n := by
    have := (List.getElem?_eq_some_iff.1 h1).1
    have h3 := ho.1
    omega
  have hc := (ho.cellAt k (by omega)).trans h1
  exact ⟨A, c', hc, hn⟩
end Go.Proofs.YtckgapeednokjaaGreat
