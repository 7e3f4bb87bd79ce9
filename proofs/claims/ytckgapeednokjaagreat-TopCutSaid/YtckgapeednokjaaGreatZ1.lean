import Derived.Test.YtckgapeednokjaaGreatK5
set_option linter.unusedVariables false
set_option linter.unusedSimpArgs false
namespace Go.Proofs.YtckgapeednokjaaGreat
open Go Go.Proofs Go.RowKit

/-! ### IsDuty, Lo, Before -/
theorem rd_box_step {w w' : World} {b : Nat} {o : Obj} (hb : Below w.heap.size w w') (h : w.heap[b]? = some o) : w'.heap[b]? = some o := (hb.block b (Array.getElem?_eq_some_iff.1 h).1).trans h
end Go.Proofs.YtckgapeednokjaaGreat
