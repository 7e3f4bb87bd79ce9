import Derived.Test.YtckgapeednokjaaGreatZ1
set_option linter.unusedVariables false
set_option linter.unusedSimpArgs false
namespace Go.Proofs.YtckgapeednokjaaGreat
open Go Go.Proofs Go.RowKit

/-! ### Lows, Highs -/
def lowsL (bl : List (List Rel)) : List (List Int) := bl.map fun l => l.map Rel.lo
def highsL (bl : List (List Rel)) : List (List Int) := bl.map fun l => l.map Rel.hi
end Go.Proofs.YtckgapeednokjaaGreat
