import Derived.Test.YtckgapeednokjaaGreatK5
set_option linter.unusedVariables false
set_option linter.unusedSimpArgs false
namespace Go.Proofs.YtckgapeednokjaaGreat
open Go Go.Proofs Go.RowKit

/-! ### best, ordered -/
theorem bestN_eq {d : DDay} (h : (bestV d).can = true) : bestN d = ((bestP d).length : Int) := by unfold bestN; rw [h]; rfl
end Go.Proofs.YtckgapeednokjaaGreat
