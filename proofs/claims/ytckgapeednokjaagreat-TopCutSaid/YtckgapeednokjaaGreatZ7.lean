import Derived.Test.YtckgapeednokjaaGreatZ6
set_option linter.unusedVariables false
set_option linter.unusedSimpArgs false
namespace Go.Proofs.YtckgapeednokjaaGreat
open Go Go.Proofs Go.RowKit

/-! ### Breaks -/
theorem breaksP_len (tb te : Nat → Nat → Int) : ∀ ps : List Pc, (breaksP tb te ps).length = ps.length - 1
  | [] => rfl
  | [p] => rfl
  | p :: q :: t => by
    have := breaksP_len tb te (q :: t)
    simp only [breaksP, List.length_cons] at this ⊢
    omega
theorem breaksP_get {tb te : Nat → Nat → Int} : ∀ {ps : List Pc} {k : Nat} {p q : Pc}, ps[k]? = some p → ps[k + 1]? = some q → (breaksP tb te ps)[k]? = some (tb q.b q.fr - te p.b p.to)
  | [], k, p, q, h, _ => by simp at h
  | [a], k, p, q, _, h => by simp at h
  | a :: b :: t, 0, p, q, h1, h2 => by
    simp at h1 h2
    subst h1 h2
    simp [breaksP]
  | a :: b :: t, k + 1, p, q, h1, h2 => by
    have ih := breaksP_get (tb := tb) (te := te) (ps := b :: t) (k := k) (p := p) (q := q) (by simpa using h1) (by simpa using h2)
    simp only [breaksP, List.getElem?_cons_succ]
    exact ih
theorem restsP_get {d : DDay} {tb te : Nat → Nat → Int} : ∀ {ps : List Pc} {k : Nat} {p q : Pc}, ps[k]? = some p → ps[k + 1]? = some q → (restsP d tb te ps)[k]? = some (tb q.b q.fr - te p.b p.to - gapP d p q)
  | [], k, p, q, h, _ => by simp at h
  | [a], k, p, q, _, h => by simp at h
  | a :: b :: t, 0, p, q, h1, h2 => by
    simp at h1 h2
    subst h1 h2
    simp [restsP]
  | a :: b :: t, k + 1, p, q, h1, h2 => by
    have ih := restsP_get (d := d) (tb := tb) (te := te) (ps := b :: t) (k := k) (p := p) (q := q) (by simpa using h1) (by simpa using h2)
    simp only [restsP, List.getElem?_cons_succ]
    exact ih
theorem restsP_len (d : DDay) (tb te : Nat → Nat → Int) : ∀ ps : List Pc, (restsP d tb te ps).length = ps.length - 1
  | [] => rfl
  | [p] => rfl
  | p :: q :: t => by
    have := restsP_len d tb te (q :: t)
    simp only [restsP, List.length_cons] at this ⊢
    omega
end Go.Proofs.YtckgapeednokjaaGreat
