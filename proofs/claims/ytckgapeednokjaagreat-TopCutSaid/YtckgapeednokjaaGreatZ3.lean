import Derived.Test.YtckgapeednokjaaGreatZ2
set_option linter.unusedVariables false
set_option linter.unusedSimpArgs false
namespace Go.Proofs.YtckgapeednokjaaGreat
open Go Go.Proofs Go.RowKit

/-! ### Before, Pieces -/
def prC (p : Pc) : List Value := [.int .i64 (p.b : Int), .int .i64 (p.fr : Int), .int .i64 (p.to : Int), .int .i64 (p.first : Int)]
def prCells (ps : List Pc) : List Value := ps.flatMap prC
theorem prCells_snoc (ps : List Pc) (p : Pc) : prCells (ps ++ [p]) = prCells ps ++ prC p := by simp [prCells]
theorem prCells_len (ps : List Pc) : (prCells ps).length = ps.length * 4 := flat_length (f := prC) (n := 4) (fun _ => rfl) ps
theorem prCells_get {ps : List Pc} {k j : Nat} {p : Pc} (h : ps[k]? = some p) (hj : j < 4) : (prCells ps)[k * 4 + j]? = (prC p)[j]? := flat_get (f := prC) (n := 4) (fun _ => rfl) h hj
def PcsAt (w : World) (v : Value) (ps : List Pc) : Prop :=
  ∃ A c, v = .slice A ps.length c ∧ ps.length ≤ c ∧ c ≤ maxLen ∧ (0 < ps.length → ∃ b o, A = some ⟨b, o, none⟩ ∧ ∀ k p, ps[k]? = some p → ∀ j, j < 4 → w.cell? ⟨b, o + k * 4 + j, none⟩ = (prC p)[j]?)
theorem PcsAt.below {w w' : World} {v : Value} {ps : List Pc} (h : PcsAt w v ps) (hb : Below w.heap.size w w') : PcsAt w' v ps := by
  obtain ⟨A, c, h1, h2, h3, h4⟩ := h
  refine ⟨A, c, h1, h2, h3, fun hp => ?_⟩
  obtain ⟨b, o, e, hc⟩ := h4 hp
  refine ⟨b, o, e, fun k p hk j hj => ?_⟩
  have h5 := hc k p hk j hj
  have hs : ∃ x, (prC p)[j]? = some x := ⟨_, List.getElem?_eq_getElem (by simpa [prC] using hj)⟩
  obtain ⟨x, hx⟩ := hs
  rw [hx] at h5 ⊢
  exact cell_below hb h5
theorem PcsAt.form {w : World} {v : Value} {ps : List Pc} (h : PcsAt w v ps) : ∃ A c, v = .slice A ps.length c ∧ ps.length ≤ c ∧ c ≤ 9223372036854775807 := by
  obtain ⟨A, c, h1, h2, h3, _⟩ := h
  exact ⟨A, c, h1, h2, h3⟩
theorem PcsAt.at_ {w : World} {A : Option Addr} {n c : Nat} {ps : List Pc} (h : PcsAt w (.slice A n c) ps) {k : Nat} (hk : k < ps.length) :
    ∃ b o p, A = some ⟨b, o, none⟩ ∧ ps[k]? = some p ∧ w.cell? ⟨b, o + k * 4, none⟩ = some (.int .i64 (p.b : Int)) ∧ w.cell? ⟨b, o + k * 4 + 1, none⟩ = some (.int .i64 (p.fr : Int)) ∧ w.cell? ⟨b, o + k * 4 + 2, none⟩ = some (.int .i64 (p.to : Int)) ∧ w.cell? ⟨b, o + k * 4 + 3, none⟩ = some (.int .i64 (p.first : Int)) ∧ b < w.heap.size := by
  obtain ⟨A', c', e, _, _, h4⟩ := h
  cases e
  obtain ⟨b, o, e, hc⟩ := h4 (by omega)
  have hp := List.getElem?_eq_getElem hk
  have h0 := hc k _ hp 0 (by omega)
  exact ⟨b, o, _, e, hp, h0, hc k _ hp 1 (by omega), hc k _ hp 2 (by omega), hc k _ hp 3 (by omega), World.block_lt_of_cell? _ _ h0⟩
theorem pcs_of_own {w : World} {v : Value} {base : Nat} {e : TypeId} {n : Nat} {ps : List Pc} (h : w.ownsRow base e 4 v n (prCells ps)) : PcsAt w v ps := by
  have hlen := prCells_len ps
  have hn : ps.length = n := by have := h.1; omega
  rcases h.2 with ⟨rfl, h0⟩ | ⟨g, cap, cur, rfl, _, hg, hc, hm, hs, ht⟩
  · have : ps.length = 0 := by omega
    exact ⟨none, 0, by rw [this], by omega, by simp [maxLen], fun hp => by omega⟩
  · refine ⟨some ⟨g, 0, none⟩, cap, by rw [hn], by omega, hm, fun hp => ⟨g, 0, rfl, fun k s hk j hj => ?_⟩⟩
    have hk' := (List.getElem?_eq_some_iff.1 hk).1
    rw [Nat.zero_add, h.cellAt (k * 4 + j) (by omega)]
    exact prCells_get hk hj
end Go.Proofs.YtckgapeednokjaaGreat
