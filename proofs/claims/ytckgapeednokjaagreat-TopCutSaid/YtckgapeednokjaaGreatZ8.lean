import Derived.Test.YtckgapeednokjaaGreatZ7
set_option linter.unusedVariables false
set_option linter.unusedSimpArgs false
namespace Go.Proofs.YtckgapeednokjaaGreat
open Go Go.Proofs Go.RowKit

/-! ### Obeys -/
theorem restsP_iff {d : DDay} {tb te : Nat → Nat → Int} {ps : List Pc} {m : Int} : (∀ n ∈ restsP d tb te ps, m ≤ n) ↔ ∀ k p q, ps[k]? = some p → ps[k + 1]? = some q → m ≤ tb q.b q.fr - te p.b p.to - gapP d p q := by
  constructor
  · intro h k p q hp hq
    exact h _ (List.mem_of_getElem? (restsP_get (d := d) hp hq))
  · intro h n hn
    obtain ⟨k, hk, rfl⟩ := List.getElem_of_mem hn
    have hl := hk
    rw [restsP_len] at hl
    have hp : ps[k]? = some ps[k] := List.getElem?_eq_getElem (by omega)
    have hq : ps[k + 1]? = some ps[k + 1] := List.getElem?_eq_getElem (by omega)
    have e := restsP_get (d := d) (tb := tb) (te := te) hp hq
    rw [List.getElem?_eq_getElem hk, Option.some.injEq] at e
    rw [e]
    exact h k _ _ hp hq
structure ObSt (d : DDay) (tb te : Nat → Nat → Int) (ps : List Pc) (k : Nat) : Prop where
  dur : ∀ i p, i < k → ps[i]? = some p → te p.b p.to - tb p.b p.fr ≤ d.law.piece
  rest : ∀ i p q, i + 1 < k → ps[i]? = some p → ps[i + 1]? = some q → d.law.brk + gapP d p q ≤ tb q.b q.fr - te p.b p.to
end Go.Proofs.YtckgapeednokjaaGreat
