/-
  No cell of these rows narrows 'for every input' (looked for: loops, veiled, ifaces, maps, wideKeys, modest, calm, conditions, laid).
  DERIVED. THE GIVEN ROWS OF THIS SEAT. 12 by the template 'for every input the law returns true; each argument reads behind the call as it read before'; 0 by the template 'total and deterministic' (their statements: YtmbkpfkkohpnkaaTotals.lean).
  GIVEN WITH THE SEED: the statements are not yours to turn. If you find one false, say at which input.
  Laid BY PROGRAM, IN A SANDBOX (cutbox-rows.mjs): the forced cells as the released guide's own fill.sh prints them over the translation 692e14ea0d9b3c6e… (all of the seat's roots in one cut). By AI agents, Wed Nov 11 2026. No macro, syntax, notation, axiom, sorry.
-/
import Derived.Test.YtmbkpfkkohpnkaaChecked
import GoSem.Claim
import GoSem.ClaimJoined
import GoSem.ClaimMapViews
import Derived.JoinedTies
import Derived.KernelRfl
namespace Go.Proofs.Ytmbkpfkkohpnkaa
/- THE CELL 'sum', in the pinned program and in every row, IS THE sha256 OF THE DUMP (.gsa) THAT YtmbkpfkkohpnkaaProg.lean LOADS. Nothing in Lean hashes anything: it is a label: what it is worth is what the hold of that sum in a sandbox is worth. -/
noncomputable def Try.pinned : Pinned := { name := "ytmbkpfkkohpnkaa", sum := "692e14ea0d9b3c6e49b6107bf4b2e2b76e22b321bc85c10e3761ccad238791a6", checked := Try.checked }
namespace Rows
def none {H : Type} : Left H := { results := [], args := [] }

/-- 'layoverlaw09.FareCharges': WHATEVER THE INPUT: true; the input reads as it did. -/
def fareChargesSpec : ChangeSpec := { name := "fareCharges", fn := fun _ => fun
  | [d1, d2] => { results := [.lit (.bool true)], args := [d1, d2] }
  | _ => none }
def fareChargesRow : OpenClaim := { program := "ytmbkpfkkohpnkaa", sum := "692e14ea0d9b3c6e49b6107bf4b2e2b76e22b321bc85c10e3761ccad238791a6", func := "layover/layoverlaw09.FareCharges", spec := "fareCharges", unfollowed := true, recurses := true, plainKeys := false, apart := false }
def FareChargesSaid : Prop := fareChargesRow.holds Try.pinned (OpenSpec.ofChange fareChargesSpec)

/-- ITS FALSE NEIGHBOUR: 'it returns false'. Refute it at one input. -/
def fareChargesWrong : ChangeSpec := { name := "fareCharges", fn := fun _ => fun
  | [d1, d2] => { results := [.lit (.bool false)], args := [d1, d2] }
  | _ => none }
def FareChargesWrongFalsely : Prop := fareChargesRow.holds Try.pinned (OpenSpec.ofChange fareChargesWrong)

/-- 'layoverlaw09.FareMissing': WHATEVER THE INPUT: true; the input reads as it did. -/
def fareMissingSpec : ChangeSpec := { name := "fareMissing", fn := fun _ => fun
  | [d1, d2, d3] => { results := [.lit (.bool true)], args := [d1, d2, d3] }
  | _ => none }
def fareMissingRow : OpenClaim := { program := "ytmbkpfkkohpnkaa", sum := "692e14ea0d9b3c6e49b6107bf4b2e2b76e22b321bc85c10e3761ccad238791a6", func := "layover/layoverlaw09.FareMissing", spec := "fareMissing", unfollowed := true, recurses := true, plainKeys := false, apart := false }
def FareMissingSaid : Prop := fareMissingRow.holds Try.pinned (OpenSpec.ofChange fareMissingSpec)

/-- ITS FALSE NEIGHBOUR: 'it returns false'. Refute it at one input. -/
def fareMissingWrong : ChangeSpec := { name := "fareMissing", fn := fun _ => fun
  | [d1, d2, d3] => { results := [.lit (.bool false)], args := [d1, d2, d3] }
  | _ => none }
def FareMissingWrongFalsely : Prop := fareMissingRow.holds Try.pinned (OpenSpec.ofChange fareMissingWrong)

/-- 'layoverlaw09.FareTotals': WHATEVER THE INPUT: true; the input reads as it did. -/
def fareTotalsSpec : ChangeSpec := { name := "fareTotals", fn := fun _ => fun
  | [d1, d2, d3] => { results := [.lit (.bool true)], args := [d1, d2, d3] }
  | _ => none }
def fareTotalsRow : OpenClaim := { program := "ytmbkpfkkohpnkaa", sum := "692e14ea0d9b3c6e49b6107bf4b2e2b76e22b321bc85c10e3761ccad238791a6", func := "layover/layoverlaw09.FareTotals", spec := "fareTotals", unfollowed := true, recurses := true, plainKeys := false, apart := false }
def FareTotalsSaid : Prop := fareTotalsRow.holds Try.pinned (OpenSpec.ofChange fareTotalsSpec)

/-- ITS FALSE NEIGHBOUR: 'it returns false'. Refute it at one input. -/
def fareTotalsWrong : ChangeSpec := { name := "fareTotals", fn := fun _ => fun
  | [d1, d2, d3] => { results := [.lit (.bool false)], args := [d1, d2, d3] }
  | _ => none }
def FareTotalsWrongFalsely : Prop := fareTotalsRow.holds Try.pinned (OpenSpec.ofChange fareTotalsWrong)

/-- 'layoverlaw09.FareOrder': WHATEVER THE INPUT: true; the input reads as it did. -/
def fareOrderSpec : ChangeSpec := { name := "fareOrder", fn := fun _ => fun
  | [d1, d2, d3] => { results := [.lit (.bool true)], args := [d1, d2, d3] }
  | _ => none }
def fareOrderRow : OpenClaim := { program := "ytmbkpfkkohpnkaa", sum := "692e14ea0d9b3c6e49b6107bf4b2e2b76e22b321bc85c10e3761ccad238791a6", func := "layover/layoverlaw09.FareOrder", spec := "fareOrder", unfollowed := true, recurses := true, plainKeys := false, apart := false }
def FareOrderSaid : Prop := fareOrderRow.holds Try.pinned (OpenSpec.ofChange fareOrderSpec)

/-- ITS FALSE NEIGHBOUR: 'it returns false'. Refute it at one input. -/
def fareOrderWrong : ChangeSpec := { name := "fareOrder", fn := fun _ => fun
  | [d1, d2, d3] => { results := [.lit (.bool false)], args := [d1, d2, d3] }
  | _ => none }
def FareOrderWrongFalsely : Prop := fareOrderRow.holds Try.pinned (OpenSpec.ofChange fareOrderWrong)

/-- 'layoverlaw09.FareMore': WHATEVER THE INPUT: true; the input reads as it did. -/
def fareMoreSpec : ChangeSpec := { name := "fareMore", fn := fun _ => fun
  | [d1, d2, d3, d4] => { results := [.lit (.bool true)], args := [d1, d2, d3, d4] }
  | _ => none }
def fareMoreRow : OpenClaim := { program := "ytmbkpfkkohpnkaa", sum := "692e14ea0d9b3c6e49b6107bf4b2e2b76e22b321bc85c10e3761ccad238791a6", func := "layover/layoverlaw09.FareMore", spec := "fareMore", unfollowed := true, recurses := true, plainKeys := false, apart := false }
def FareMoreSaid : Prop := fareMoreRow.holds Try.pinned (OpenSpec.ofChange fareMoreSpec)

/-- ITS FALSE NEIGHBOUR: 'it returns false'. Refute it at one input. -/
def fareMoreWrong : ChangeSpec := { name := "fareMore", fn := fun _ => fun
  | [d1, d2, d3, d4] => { results := [.lit (.bool false)], args := [d1, d2, d3, d4] }
  | _ => none }
def FareMoreWrongFalsely : Prop := fareMoreRow.holds Try.pinned (OpenSpec.ofChange fareMoreWrong)

/-- 'layoverlaw09.FareLost': WHATEVER THE INPUT: true; the input reads as it did. -/
def fareLostSpec : ChangeSpec := { name := "fareLost", fn := fun _ => fun
  | [d1, d2, d3] => { results := [.lit (.bool true)], args := [d1, d2, d3] }
  | _ => none }
def fareLostRow : OpenClaim := { program := "ytmbkpfkkohpnkaa", sum := "692e14ea0d9b3c6e49b6107bf4b2e2b76e22b321bc85c10e3761ccad238791a6", func := "layover/layoverlaw09.FareLost", spec := "fareLost", unfollowed := true, recurses := true, plainKeys := false, apart := false }
def FareLostSaid : Prop := fareLostRow.holds Try.pinned (OpenSpec.ofChange fareLostSpec)

/-- ITS FALSE NEIGHBOUR: 'it returns false'. Refute it at one input. -/
def fareLostWrong : ChangeSpec := { name := "fareLost", fn := fun _ => fun
  | [d1, d2, d3] => { results := [.lit (.bool false)], args := [d1, d2, d3] }
  | _ => none }
def FareLostWrongFalsely : Prop := fareLostRow.holds Try.pinned (OpenSpec.ofChange fareLostWrong)

/-- 'layoverlaw09.FareTwice': WHATEVER THE INPUT: true; the input reads as it did. -/
def fareTwiceSpec : ChangeSpec := { name := "fareTwice", fn := fun _ => fun
  | [d1, d2, d3, d4] => { results := [.lit (.bool true)], args := [d1, d2, d3, d4] }
  | _ => none }
def fareTwiceRow : OpenClaim := { program := "ytmbkpfkkohpnkaa", sum := "692e14ea0d9b3c6e49b6107bf4b2e2b76e22b321bc85c10e3761ccad238791a6", func := "layover/layoverlaw09.FareTwice", spec := "fareTwice", unfollowed := true, recurses := true, plainKeys := false, apart := false }
def FareTwiceSaid : Prop := fareTwiceRow.holds Try.pinned (OpenSpec.ofChange fareTwiceSpec)

/-- ITS FALSE NEIGHBOUR: 'it returns false'. Refute it at one input. -/
def fareTwiceWrong : ChangeSpec := { name := "fareTwice", fn := fun _ => fun
  | [d1, d2, d3, d4] => { results := [.lit (.bool false)], args := [d1, d2, d3, d4] }
  | _ => none }
def FareTwiceWrongFalsely : Prop := fareTwiceRow.holds Try.pinned (OpenSpec.ofChange fareTwiceWrong)

/-- 'layoverlaw09.FareCaps': WHATEVER THE INPUT: true; the input reads as it did. -/
def fareCapsSpec : ChangeSpec := { name := "fareCaps", fn := fun _ => fun
  | [d1, d2] => { results := [.lit (.bool true)], args := [d1, d2] }
  | _ => none }
def fareCapsRow : OpenClaim := { program := "ytmbkpfkkohpnkaa", sum := "692e14ea0d9b3c6e49b6107bf4b2e2b76e22b321bc85c10e3761ccad238791a6", func := "layover/layoverlaw09.FareCaps", spec := "fareCaps", unfollowed := true, recurses := true, plainKeys := false, apart := false }
def FareCapsSaid : Prop := fareCapsRow.holds Try.pinned (OpenSpec.ofChange fareCapsSpec)

/-- ITS FALSE NEIGHBOUR: 'it returns false'. Refute it at one input. -/
def fareCapsWrong : ChangeSpec := { name := "fareCaps", fn := fun _ => fun
  | [d1, d2] => { results := [.lit (.bool false)], args := [d1, d2] }
  | _ => none }
def FareCapsWrongFalsely : Prop := fareCapsRow.holds Try.pinned (OpenSpec.ofChange fareCapsWrong)

/-- 'layoverlaw09.FareDays': WHATEVER THE INPUT: true; the input reads as it did. -/
def fareDaysSpec : ChangeSpec := { name := "fareDays", fn := fun _ => fun
  | [d1, d2] => { results := [.lit (.bool true)], args := [d1, d2] }
  | _ => none }
def fareDaysRow : OpenClaim := { program := "ytmbkpfkkohpnkaa", sum := "692e14ea0d9b3c6e49b6107bf4b2e2b76e22b321bc85c10e3761ccad238791a6", func := "layover/layoverlaw09.FareDays", spec := "fareDays", unfollowed := true, recurses := true, plainKeys := false, apart := false }
def FareDaysSaid : Prop := fareDaysRow.holds Try.pinned (OpenSpec.ofChange fareDaysSpec)

/-- ITS FALSE NEIGHBOUR: 'it returns false'. Refute it at one input. -/
def fareDaysWrong : ChangeSpec := { name := "fareDays", fn := fun _ => fun
  | [d1, d2] => { results := [.lit (.bool false)], args := [d1, d2] }
  | _ => none }
def FareDaysWrongFalsely : Prop := fareDaysRow.holds Try.pinned (OpenSpec.ofChange fareDaysWrong)

/-- 'layoverlaw09.FareCheaper': WHATEVER THE INPUT: true; the input reads as it did. -/
def fareCheaperSpec : ChangeSpec := { name := "fareCheaper", fn := fun _ => fun
  | [d1, d2, d3, d4, d5] => { results := [.lit (.bool true)], args := [d1, d2, d3, d4, d5] }
  | _ => none }
def fareCheaperRow : OpenClaim := { program := "ytmbkpfkkohpnkaa", sum := "692e14ea0d9b3c6e49b6107bf4b2e2b76e22b321bc85c10e3761ccad238791a6", func := "layover/layoverlaw09.FareCheaper", spec := "fareCheaper", unfollowed := true, recurses := true, plainKeys := false, apart := false }
def FareCheaperSaid : Prop := fareCheaperRow.holds Try.pinned (OpenSpec.ofChange fareCheaperSpec)

/-- ITS FALSE NEIGHBOUR: 'it returns false'. Refute it at one input. -/
def fareCheaperWrong : ChangeSpec := { name := "fareCheaper", fn := fun _ => fun
  | [d1, d2, d3, d4, d5] => { results := [.lit (.bool false)], args := [d1, d2, d3, d4, d5] }
  | _ => none }
def FareCheaperWrongFalsely : Prop := fareCheaperRow.holds Try.pinned (OpenSpec.ofChange fareCheaperWrong)

/-- 'layoverlaw09.FareLater': WHATEVER THE INPUT: true; the input reads as it did. -/
def fareLaterSpec : ChangeSpec := { name := "fareLater", fn := fun _ => fun
  | [d1, d2, d3, d4] => { results := [.lit (.bool true)], args := [d1, d2, d3, d4] }
  | _ => none }
def fareLaterRow : OpenClaim := { program := "ytmbkpfkkohpnkaa", sum := "692e14ea0d9b3c6e49b6107bf4b2e2b76e22b321bc85c10e3761ccad238791a6", func := "layover/layoverlaw09.FareLater", spec := "fareLater", unfollowed := true, recurses := true, plainKeys := false, apart := false }
def FareLaterSaid : Prop := fareLaterRow.holds Try.pinned (OpenSpec.ofChange fareLaterSpec)

/-- ITS FALSE NEIGHBOUR: 'it returns false'. Refute it at one input. -/
def fareLaterWrong : ChangeSpec := { name := "fareLater", fn := fun _ => fun
  | [d1, d2, d3, d4] => { results := [.lit (.bool false)], args := [d1, d2, d3, d4] }
  | _ => none }
def FareLaterWrongFalsely : Prop := fareLaterRow.holds Try.pinned (OpenSpec.ofChange fareLaterWrong)

/-- 'layoverlaw09.FareNames': WHATEVER THE INPUT: true; the input reads as it did. -/
def fareNamesSpec : ChangeSpec := { name := "fareNames", fn := fun _ => fun
  | [] => { results := [.lit (.bool true)], args := [] }
  | _ => none }
def fareNamesRow : OpenClaim := { program := "ytmbkpfkkohpnkaa", sum := "692e14ea0d9b3c6e49b6107bf4b2e2b76e22b321bc85c10e3761ccad238791a6", func := "layover/layoverlaw09.FareNames", spec := "fareNames", unfollowed := true, recurses := true, plainKeys := false, apart := false }
def FareNamesSaid : Prop := fareNamesRow.holds Try.pinned (OpenSpec.ofChange fareNamesSpec)

/-- ITS FALSE NEIGHBOUR: 'it returns false'. Refute it at one input. -/
def fareNamesWrong : ChangeSpec := { name := "fareNames", fn := fun _ => fun
  | [] => { results := [.lit (.bool false)], args := [] }
  | _ => none }
def FareNamesWrongFalsely : Prop := fareNamesRow.holds Try.pinned (OpenSpec.ofChange fareNamesWrong)

/- THE SECOND FORM. 'bulk': how many values and letters a reading holds, each counted each time it is reached (what is shared counts as often as it is met; a slice's spare places count too). A statement '..UptoSaid' is the law's where the arguments, and the package variables that the reading takes, are together of bulk at most 1048576: NARROWER than '..Said'. Prove '..Said' where nothing that the law and all that it calls make is longer than what came in: it says more and counts as full. Else prove '..UptoSaid'. A law counts once. -/
mutual
def uptoBulk {H : Type} : DataW H → Nat
  | .lit (.string bytes) => bytes.length + 1
  | .lit _ => 1
  | .nil => 1
  | .ptr d => uptoBulk d + 1
  | .slice elems spare => uptoBulkAll elems + uptoBulkAll spare + 1
  | .agg parts => uptoBulkAll parts + 1
  | .iface _ d => uptoBulk d + 1
  | .map entries => uptoBulkEntries entries + 1
  | .held _ => 1
def uptoBulkAll {H : Type} : List (DataW H) → Nat
  | [] => 0
  | d :: r => uptoBulk d + uptoBulkAll r
def uptoBulkEntries {H : Type} : List (Lit × DataW H) → Nat
  | [] => 0
  | x :: r => uptoBulkEntry x + uptoBulkEntries r
def uptoBulkEntry {H : Type} : Lit × DataW H → Nat
  | (.string bytes, d) => bytes.length + uptoBulk d + 1
  | (_, d) => uptoBulk d + 1
 end
def uptoSmall : (H : Type) → List (DataW H) → Bool := fun _ ds => decide (uptoBulkAll ds ≤ 1048576)
def OpenSpec.upto (s : _root_.Go.ChangeSpec) : _root_.Go.OpenSpec := { _root_.Go.OpenSpec.ofChange s with cond := some uptoSmall }

/-- 'layoverlaw09.FareCharges', WHERE WHAT IT READS IS OF BULK AT MOST 1048576: true; the input reads as it did. -/
def fareChargesUptoRow : OpenClaim := { program := "ytmbkpfkkohpnkaa", sum := "692e14ea0d9b3c6e49b6107bf4b2e2b76e22b321bc85c10e3761ccad238791a6", func := "layover/layoverlaw09.FareCharges", spec := "fareCharges", unfollowed := true, recurses := true, plainKeys := false, apart := false, narrowed := true }
def FareChargesUptoSaid : Prop := fareChargesUptoRow.holds Try.pinned (OpenSpec.upto fareChargesSpec)

/-- 'layoverlaw09.FareMissing', WHERE WHAT IT READS IS OF BULK AT MOST 1048576: true; the input reads as it did. -/
def fareMissingUptoRow : OpenClaim := { program := "ytmbkpfkkohpnkaa", sum := "692e14ea0d9b3c6e49b6107bf4b2e2b76e22b321bc85c10e3761ccad238791a6", func := "layover/layoverlaw09.FareMissing", spec := "fareMissing", unfollowed := true, recurses := true, plainKeys := false, apart := false, narrowed := true }
def FareMissingUptoSaid : Prop := fareMissingUptoRow.holds Try.pinned (OpenSpec.upto fareMissingSpec)

/-- 'layoverlaw09.FareTotals', WHERE WHAT IT READS IS OF BULK AT MOST 1048576: true; the input reads as it did. -/
def fareTotalsUptoRow : OpenClaim := { program := "ytmbkpfkkohpnkaa", sum := "692e14ea0d9b3c6e49b6107bf4b2e2b76e22b321bc85c10e3761ccad238791a6", func := "layover/layoverlaw09.FareTotals", spec := "fareTotals", unfollowed := true, recurses := true, plainKeys := false, apart := false, narrowed := true }
def FareTotalsUptoSaid : Prop := fareTotalsUptoRow.holds Try.pinned (OpenSpec.upto fareTotalsSpec)

/-- 'layoverlaw09.FareOrder', WHERE WHAT IT READS IS OF BULK AT MOST 1048576: true; the input reads as it did. -/
def fareOrderUptoRow : OpenClaim := { program := "ytmbkpfkkohpnkaa", sum := "692e14ea0d9b3c6e49b6107bf4b2e2b76e22b321bc85c10e3761ccad238791a6", func := "layover/layoverlaw09.FareOrder", spec := "fareOrder", unfollowed := true, recurses := true, plainKeys := false, apart := false, narrowed := true }
def FareOrderUptoSaid : Prop := fareOrderUptoRow.holds Try.pinned (OpenSpec.upto fareOrderSpec)

/-- 'layoverlaw09.FareMore', WHERE WHAT IT READS IS OF BULK AT MOST 1048576: true; the input reads as it did. -/
def fareMoreUptoRow : OpenClaim := { program := "ytmbkpfkkohpnkaa", sum := "692e14ea0d9b3c6e49b6107bf4b2e2b76e22b321bc85c10e3761ccad238791a6", func := "layover/layoverlaw09.FareMore", spec := "fareMore", unfollowed := true, recurses := true, plainKeys := false, apart := false, narrowed := true }
def FareMoreUptoSaid : Prop := fareMoreUptoRow.holds Try.pinned (OpenSpec.upto fareMoreSpec)

/-- 'layoverlaw09.FareLost', WHERE WHAT IT READS IS OF BULK AT MOST 1048576: true; the input reads as it did. -/
def fareLostUptoRow : OpenClaim := { program := "ytmbkpfkkohpnkaa", sum := "692e14ea0d9b3c6e49b6107bf4b2e2b76e22b321bc85c10e3761ccad238791a6", func := "layover/layoverlaw09.FareLost", spec := "fareLost", unfollowed := true, recurses := true, plainKeys := false, apart := false, narrowed := true }
def FareLostUptoSaid : Prop := fareLostUptoRow.holds Try.pinned (OpenSpec.upto fareLostSpec)

/-- 'layoverlaw09.FareTwice', WHERE WHAT IT READS IS OF BULK AT MOST 1048576: true; the input reads as it did. -/
def fareTwiceUptoRow : OpenClaim := { program := "ytmbkpfkkohpnkaa", sum := "692e14ea0d9b3c6e49b6107bf4b2e2b76e22b321bc85c10e3761ccad238791a6", func := "layover/layoverlaw09.FareTwice", spec := "fareTwice", unfollowed := true, recurses := true, plainKeys := false, apart := false, narrowed := true }
def FareTwiceUptoSaid : Prop := fareTwiceUptoRow.holds Try.pinned (OpenSpec.upto fareTwiceSpec)

/-- 'layoverlaw09.FareCaps', WHERE WHAT IT READS IS OF BULK AT MOST 1048576: true; the input reads as it did. -/
def fareCapsUptoRow : OpenClaim := { program := "ytmbkpfkkohpnkaa", sum := "692e14ea0d9b3c6e49b6107bf4b2e2b76e22b321bc85c10e3761ccad238791a6", func := "layover/layoverlaw09.FareCaps", spec := "fareCaps", unfollowed := true, recurses := true, plainKeys := false, apart := false, narrowed := true }
def FareCapsUptoSaid : Prop := fareCapsUptoRow.holds Try.pinned (OpenSpec.upto fareCapsSpec)

/-- 'layoverlaw09.FareDays', WHERE WHAT IT READS IS OF BULK AT MOST 1048576: true; the input reads as it did. -/
def fareDaysUptoRow : OpenClaim := { program := "ytmbkpfkkohpnkaa", sum := "692e14ea0d9b3c6e49b6107bf4b2e2b76e22b321bc85c10e3761ccad238791a6", func := "layover/layoverlaw09.FareDays", spec := "fareDays", unfollowed := true, recurses := true, plainKeys := false, apart := false, narrowed := true }
def FareDaysUptoSaid : Prop := fareDaysUptoRow.holds Try.pinned (OpenSpec.upto fareDaysSpec)

/-- 'layoverlaw09.FareCheaper', WHERE WHAT IT READS IS OF BULK AT MOST 1048576: true; the input reads as it did. -/
def fareCheaperUptoRow : OpenClaim := { program := "ytmbkpfkkohpnkaa", sum := "692e14ea0d9b3c6e49b6107bf4b2e2b76e22b321bc85c10e3761ccad238791a6", func := "layover/layoverlaw09.FareCheaper", spec := "fareCheaper", unfollowed := true, recurses := true, plainKeys := false, apart := false, narrowed := true }
def FareCheaperUptoSaid : Prop := fareCheaperUptoRow.holds Try.pinned (OpenSpec.upto fareCheaperSpec)

/-- 'layoverlaw09.FareLater', WHERE WHAT IT READS IS OF BULK AT MOST 1048576: true; the input reads as it did. -/
def fareLaterUptoRow : OpenClaim := { program := "ytmbkpfkkohpnkaa", sum := "692e14ea0d9b3c6e49b6107bf4b2e2b76e22b321bc85c10e3761ccad238791a6", func := "layover/layoverlaw09.FareLater", spec := "fareLater", unfollowed := true, recurses := true, plainKeys := false, apart := false, narrowed := true }
def FareLaterUptoSaid : Prop := fareLaterUptoRow.holds Try.pinned (OpenSpec.upto fareLaterSpec)

/-- 'layoverlaw09.FareNames', WHERE WHAT IT READS IS OF BULK AT MOST 1048576: true; the input reads as it did. -/
def fareNamesUptoRow : OpenClaim := { program := "ytmbkpfkkohpnkaa", sum := "692e14ea0d9b3c6e49b6107bf4b2e2b76e22b321bc85c10e3761ccad238791a6", func := "layover/layoverlaw09.FareNames", spec := "fareNames", unfollowed := true, recurses := true, plainKeys := false, apart := false, narrowed := true }
def FareNamesUptoSaid : Prop := fareNamesUptoRow.holds Try.pinned (OpenSpec.upto fareNamesSpec)

end Rows
end Go.Proofs.Ytmbkpfkkohpnkaa
