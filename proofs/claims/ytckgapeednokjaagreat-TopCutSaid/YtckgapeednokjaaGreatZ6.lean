import Derived.Test.YtckgapeednokjaaGreatZ5
set_option linter.unusedVariables false
set_option linter.unusedSimpArgs false
namespace Go.Proofs.YtckgapeednokjaaGreat
open Go Go.Proofs Go.RowKit

/-! ### Tables of times; Drive, Breaks, Spread -/
def tabT (B : List (List Int)) (b i : Nat) : Int := (B[b]?.getD [])[i]?.getD 0
theorem tab_lows (bl : List (List Rel)) : tabT (lowsL bl) = loT bl := by
  funext b i
  unfold tabT lowsL loT relAt
  rw [List.getElem?_map]
  cases bl[b]? with
  | none => simp [Rel.none]
  | some l =>
    simp only [Option.map_some, Option.getD_some, List.getElem?_map]
    cases l[i]? <;> simp [Rel.none]
theorem tab_highs (bl : List (List Rel)) : tabT (highsL bl) = hiT bl := by
  funext b i
  unfold tabT highsL hiT relAt
  rw [List.getElem?_map]
  cases bl[b]? with
  | none => simp [Rel.none]
  | some l =>
    simp only [Option.map_some, Option.getD_some, List.getElem?_map]
    cases l[i]? <;> simp [Rel.none]
def InTab (B : List (List Int)) (b i : Nat) : Prop := b < B.length ∧ i < (B[b]?.getD []).length
def SmallT (B : List (List Int)) : Prop := ∀ b i, 0 ≤ tabT B b i ∧ tabT B b i ≤ 3000
theorem tab_cells {w : World} {A : Option Addr} {n c : Nat} {B : List (List Int)} (h : RowsAt w (.slice A n c) B) {b i : Nat} (hi : InTab B b i) :
    ∃ bb oo b2 o2 m c', A = some ⟨bb, oo, none⟩ ∧ w.cell? ⟨bb, oo + b, none⟩ = some (.slice (some ⟨b2, o2, none⟩) m c') ∧ i < m ∧ w.cell? ⟨b2, o2 + i, none⟩ = some (.int .i64 (tabT B b i)) := by
  obtain ⟨bb, oo, l, u, e, hl, hc, hn, _⟩ := h.at_ hi.1
  obtain ⟨A2, c2, rfl, _, _⟩ := hn.form
  have h2 := hi.2
  rw [hl, Option.getD_some] at h2
  obtain ⟨b2, o2, x, rfl, hx, hcx, _⟩ := hn.at_ h2
  refine ⟨bb, oo, b2, o2, _, c2, e, hc, h2, ?_⟩
  have : tabT B b i = x := by unfold tabT; rw [hl, Option.getD_some, hx]; rfl
  rw [this]
  exact hcx
theorem driveP_take {tb te : Nat → Nat → Int} {ps : List Pc} {k : Nat} {p : Pc} (h : ps[k]? = some p) : driveP tb te (ps.take (k + 1)) = driveP tb te (ps.take k) + (te p.b p.to - tb p.b p.fr) := by
  unfold driveP
  rw [List.map_take, List.map_take]
  refine sumD_take ?_
  rw [List.getElem?_map, h]
  rfl
theorem driveP_bd {tb te : Nat → Nat → Int} (h1 : ∀ b i, 0 ≤ tb b i ∧ tb b i ≤ 3000) (h2 : ∀ b i, 0 ≤ te b i ∧ te b i ≤ 3000) : ∀ ps : List Pc, -3000 * (ps.length : Int) ≤ driveP tb te ps ∧ driveP tb te ps ≤ 3000 * (ps.length : Int)
  | [] => by simp [driveP, sumD]
  | p :: t => by
    have ih := driveP_bd h1 h2 t
    have a := h1 p.b p.fr
    have b := h2 p.b p.to
    unfold driveP at *
    simp only [List.map_cons, sumD, List.length_cons, durP]
    push_cast
    omega
end Go.Proofs.YtckgapeednokjaaGreat
