/-
  No cell of these rows narrows 'for every input' (looked for: loops, veiled, ifaces, maps, wideKeys, modest, calm, conditions, laid).
  DERIVED. THE GIVEN ROWS OF THIS SEAT. 6 by the template 'for every input the law returns true; each argument reads behind the call as it read before'; 0 by the template 'total and deterministic' (their statements: YtllobkhdeahgpaaGreatTotals.lean).
  GIVEN WITH THE SEED: the statements are not yours to turn. If you find one false, say at which input.
  Laid BY PROGRAM, IN A SANDBOX (cutbox-rows.mjs): the forced cells as the released guide's own fill.sh prints them over the translation 3ba2eefd54d73681… (all of the seat's roots in one cut). By AI agents, Wed Nov 11 2026. No macro, syntax, notation, axiom, sorry.
-/
import Derived.Test.YtllobkhdeahgpaaGreatChecked
import GoSem.Claim
import GoSem.ClaimJoined
import GoSem.ClaimMapViews
import Derived.JoinedTies
import Derived.KernelRfl
namespace Go.Proofs.YtllobkhdeahgpaaGreat
/- THE CELL 'sum', in the pinned program and in every row, IS THE sha256 OF THE DUMP (.gsa) THAT YtllobkhdeahgpaaGreatProg.lean LOADS. Nothing in Lean hashes anything: it is a label: what it is worth is what the hold of that sum in a sandbox is worth. -/
noncomputable def Tryz.pinned : Pinned := { name := "ytllobkhdeahgpaagreat", sum := "3ba2eefd54d736818b8e3161101e4013ab1717026ccee4dc32fb85ce45255389", checked := Tryz.checked }
namespace Rows
def none {H : Type} : Left H := { results := [], args := [] }

/-- 'layoverlaw02.DutyBounds': WHATEVER THE INPUT: true; the input reads as it did. -/
def dutyBoundsSpec : ChangeSpec := { name := "dutyBounds", fn := fun _ => fun
  | [d1, d2] => { results := [.lit (.bool true)], args := [d1, d2] }
  | _ => none }
def dutyBoundsRow : OpenClaim := { program := "ytllobkhdeahgpaagreat", sum := "3ba2eefd54d736818b8e3161101e4013ab1717026ccee4dc32fb85ce45255389", func := "layover/layoverlaw02.DutyBounds", spec := "dutyBounds", unfollowed := true, recurses := true, apart := false }
def DutyBoundsSaid : Prop := dutyBoundsRow.holds Tryz.pinned (OpenSpec.ofChange dutyBoundsSpec)

/-- ITS FALSE NEIGHBOUR: 'it returns false'. Refute it at one input. -/
def dutyBoundsWrong : ChangeSpec := { name := "dutyBounds", fn := fun _ => fun
  | [d1, d2] => { results := [.lit (.bool false)], args := [d1, d2] }
  | _ => none }
def DutyBoundsWrongFalsely : Prop := dutyBoundsRow.holds Tryz.pinned (OpenSpec.ofChange dutyBoundsWrong)

/-- 'layoverlaw02.DutyLegal': WHATEVER THE INPUT: true; the input reads as it did. -/
def dutyLegalSpec : ChangeSpec := { name := "dutyLegal", fn := fun _ => fun
  | [d1, d2] => { results := [.lit (.bool true)], args := [d1, d2] }
  | _ => none }
def dutyLegalRow : OpenClaim := { program := "ytllobkhdeahgpaagreat", sum := "3ba2eefd54d736818b8e3161101e4013ab1717026ccee4dc32fb85ce45255389", func := "layover/layoverlaw02.DutyLegal", spec := "dutyLegal", unfollowed := true, recurses := true, apart := false }
def DutyLegalSaid : Prop := dutyLegalRow.holds Tryz.pinned (OpenSpec.ofChange dutyLegalSpec)

/-- ITS FALSE NEIGHBOUR: 'it returns false'. Refute it at one input. -/
def dutyLegalWrong : ChangeSpec := { name := "dutyLegal", fn := fun _ => fun
  | [d1, d2] => { results := [.lit (.bool false)], args := [d1, d2] }
  | _ => none }
def DutyLegalWrongFalsely : Prop := dutyLegalRow.holds Tryz.pinned (OpenSpec.ofChange dutyLegalWrong)

/-- 'layoverlaw02.DutyBests': WHATEVER THE INPUT: true; the input reads as it did. -/
def dutyBestsSpec : ChangeSpec := { name := "dutyBests", fn := fun _ => fun
  | [d1, d2] => { results := [.lit (.bool true)], args := [d1, d2] }
  | _ => none }
def dutyBestsRow : OpenClaim := { program := "ytllobkhdeahgpaagreat", sum := "3ba2eefd54d736818b8e3161101e4013ab1717026ccee4dc32fb85ce45255389", func := "layover/layoverlaw02.DutyBests", spec := "dutyBests", unfollowed := true, recurses := true, apart := false }
def DutyBestsSaid : Prop := dutyBestsRow.holds Tryz.pinned (OpenSpec.ofChange dutyBestsSpec)

/-- ITS FALSE NEIGHBOUR: 'it returns false'. Refute it at one input. -/
def dutyBestsWrong : ChangeSpec := { name := "dutyBests", fn := fun _ => fun
  | [d1, d2] => { results := [.lit (.bool false)], args := [d1, d2] }
  | _ => none }
def DutyBestsWrongFalsely : Prop := dutyBestsRow.holds Tryz.pinned (OpenSpec.ofChange dutyBestsWrong)

/-- 'layoverlaw02.DutyBars': WHATEVER THE INPUT: true; the input reads as it did. -/
def dutyBarsSpec : ChangeSpec := { name := "dutyBars", fn := fun _ => fun
  | [d] => { results := [.lit (.bool true)], args := [d] }
  | _ => none }
def dutyBarsRow : OpenClaim := { program := "ytllobkhdeahgpaagreat", sum := "3ba2eefd54d736818b8e3161101e4013ab1717026ccee4dc32fb85ce45255389", func := "layover/layoverlaw02.DutyBars", spec := "dutyBars", unfollowed := true, recurses := true, apart := false }
def DutyBarsSaid : Prop := dutyBarsRow.holds Tryz.pinned (OpenSpec.ofChange dutyBarsSpec)

/-- ITS FALSE NEIGHBOUR: 'it returns false'. Refute it at one input. -/
def dutyBarsWrong : ChangeSpec := { name := "dutyBars", fn := fun _ => fun
  | [d] => { results := [.lit (.bool false)], args := [d] }
  | _ => none }
def DutyBarsWrongFalsely : Prop := dutyBarsRow.holds Tryz.pinned (OpenSpec.ofChange dutyBarsWrong)

/-- 'layoverlaw02.DutyDoes': WHATEVER THE INPUT: true; the input reads as it did. -/
def dutyDoesSpec : ChangeSpec := { name := "dutyDoes", fn := fun _ => fun
  | [d1, d2, d3] => { results := [.lit (.bool true)], args := [d1, d2, d3] }
  | _ => none }
def dutyDoesRow : OpenClaim := { program := "ytllobkhdeahgpaagreat", sum := "3ba2eefd54d736818b8e3161101e4013ab1717026ccee4dc32fb85ce45255389", func := "layover/layoverlaw02.DutyDoes", spec := "dutyDoes", unfollowed := true, recurses := true, apart := false }
def DutyDoesSaid : Prop := dutyDoesRow.holds Tryz.pinned (OpenSpec.ofChange dutyDoesSpec)

/-- ITS FALSE NEIGHBOUR: 'it returns false'. Refute it at one input. -/
def dutyDoesWrong : ChangeSpec := { name := "dutyDoes", fn := fun _ => fun
  | [d1, d2, d3] => { results := [.lit (.bool false)], args := [d1, d2, d3] }
  | _ => none }
def DutyDoesWrongFalsely : Prop := dutyDoesRow.holds Tryz.pinned (OpenSpec.ofChange dutyDoesWrong)

/-- 'layoverlaw02.DutyTruth': WHATEVER THE INPUT: true; the input reads as it did. -/
def dutyTruthSpec : ChangeSpec := { name := "dutyTruth", fn := fun _ => fun
  | [d1, d2, d3] => { results := [.lit (.bool true)], args := [d1, d2, d3] }
  | _ => none }
def dutyTruthRow : OpenClaim := { program := "ytllobkhdeahgpaagreat", sum := "3ba2eefd54d736818b8e3161101e4013ab1717026ccee4dc32fb85ce45255389", func := "layover/layoverlaw02.DutyTruth", spec := "dutyTruth", unfollowed := true, recurses := true, apart := false }
def DutyTruthSaid : Prop := dutyTruthRow.holds Tryz.pinned (OpenSpec.ofChange dutyTruthSpec)

/-- ITS FALSE NEIGHBOUR: 'it returns false'. Refute it at one input. -/
def dutyTruthWrong : ChangeSpec := { name := "dutyTruth", fn := fun _ => fun
  | [d1, d2, d3] => { results := [.lit (.bool false)], args := [d1, d2, d3] }
  | _ => none }
def DutyTruthWrongFalsely : Prop := dutyTruthRow.holds Tryz.pinned (OpenSpec.ofChange dutyTruthWrong)

/- THE SECOND FORM. 'bulk': how many values and letters a reading holds, each counted each time it is reached (what is shared counts as often as it is met; a slice's spare places count too). A statement '..UptoSaid' is the law's where the arguments, and the package variables that the reading takes, are together of bulk at most 1048576: NARROWER than '..Said'. Prove '..Said' where nothing that the law and all that it calls make is longer than what came in: it says more and counts as full. Else prove '..UptoSaid'. A law counts once. -/
mutual
def uptoBulk {H : Type} : DataW H → Nat
  | .lit (.string bytes) => bytes.length + 1
  | .lit _ => 1
  | .nil => 1
  | .ptr d => uptoBulk d + 1
  | .slice elems spare => uptoBulkAll elems + uptoBulkAll spare + 1
  | .agg parts => uptoBulkAll parts + 1
  | .iface _ d => uptoBulk d + 1
  | .map entries => uptoBulkEntries entries + 1
  | .held _ => 1
def uptoBulkAll {H : Type} : List (DataW H) → Nat
  | [] => 0
  | d :: r => uptoBulk d + uptoBulkAll r
def uptoBulkEntries {H : Type} : List (Lit × DataW H) → Nat
  | [] => 0
  | x :: r => uptoBulkEntry x + uptoBulkEntries r
def uptoBulkEntry {H : Type} : Lit × DataW H → Nat
  | (.string bytes, d) => bytes.length + uptoBulk d + 1
  | (_, d) => uptoBulk d + 1
 end
def uptoSmall : (H : Type) → List (DataW H) → Bool := fun _ ds => decide (uptoBulkAll ds ≤ 1048576)
def OpenSpec.upto (s : _root_.Go.ChangeSpec) : _root_.Go.OpenSpec := { _root_.Go.OpenSpec.ofChange s with cond := some uptoSmall }

/-- 'layoverlaw02.DutyBounds', WHERE WHAT IT READS IS OF BULK AT MOST 1048576: true; the input reads as it did. -/
def dutyBoundsUptoRow : OpenClaim := { program := "ytllobkhdeahgpaagreat", sum := "3ba2eefd54d736818b8e3161101e4013ab1717026ccee4dc32fb85ce45255389", func := "layover/layoverlaw02.DutyBounds", spec := "dutyBounds", unfollowed := true, recurses := true, apart := false, narrowed := true }
def DutyBoundsUptoSaid : Prop := dutyBoundsUptoRow.holds Tryz.pinned (OpenSpec.upto dutyBoundsSpec)

/-- 'layoverlaw02.DutyLegal', WHERE WHAT IT READS IS OF BULK AT MOST 1048576: true; the input reads as it did. -/
def dutyLegalUptoRow : OpenClaim := { program := "ytllobkhdeahgpaagreat", sum := "3ba2eefd54d736818b8e3161101e4013ab1717026ccee4dc32fb85ce45255389", func := "layover/layoverlaw02.DutyLegal", spec := "dutyLegal", unfollowed := true, recurses := true, apart := false, narrowed := true }
def DutyLegalUptoSaid : Prop := dutyLegalUptoRow.holds Tryz.pinned (OpenSpec.upto dutyLegalSpec)

/-- 'layoverlaw02.DutyBests', WHERE WHAT IT READS IS OF BULK AT MOST 1048576: true; the input reads as it did. -/
def dutyBestsUptoRow : OpenClaim := { program := "ytllobkhdeahgpaagreat", sum := "3ba2eefd54d736818b8e3161101e4013ab1717026ccee4dc32fb85ce45255389", func := "layover/layoverlaw02.DutyBests", spec := "dutyBests", unfollowed := true, recurses := true, apart := false, narrowed := true }
def DutyBestsUptoSaid : Prop := dutyBestsUptoRow.holds Tryz.pinned (OpenSpec.upto dutyBestsSpec)

/-- 'layoverlaw02.DutyBars', WHERE WHAT IT READS IS OF BULK AT MOST 1048576: true; the input reads as it did. -/
def dutyBarsUptoRow : OpenClaim := { program := "ytllobkhdeahgpaagreat", sum := "3ba2eefd54d736818b8e3161101e4013ab1717026ccee4dc32fb85ce45255389", func := "layover/layoverlaw02.DutyBars", spec := "dutyBars", unfollowed := true, recurses := true, apart := false, narrowed := true }
def DutyBarsUptoSaid : Prop := dutyBarsUptoRow.holds Tryz.pinned (OpenSpec.upto dutyBarsSpec)

/-- 'layoverlaw02.DutyDoes', WHERE WHAT IT READS IS OF BULK AT MOST 1048576: true; the input reads as it did. -/
def dutyDoesUptoRow : OpenClaim := { program := "ytllobkhdeahgpaagreat", sum := "3ba2eefd54d736818b8e3161101e4013ab1717026ccee4dc32fb85ce45255389", func := "layover/layoverlaw02.DutyDoes", spec := "dutyDoes", unfollowed := true, recurses := true, apart := false, narrowed := true }
def DutyDoesUptoSaid : Prop := dutyDoesUptoRow.holds Tryz.pinned (OpenSpec.upto dutyDoesSpec)

/-- 'layoverlaw02.DutyTruth', WHERE WHAT IT READS IS OF BULK AT MOST 1048576: true; the input reads as it did. -/
def dutyTruthUptoRow : OpenClaim := { program := "ytllobkhdeahgpaagreat", sum := "3ba2eefd54d736818b8e3161101e4013ab1717026ccee4dc32fb85ce45255389", func := "layover/layoverlaw02.DutyTruth", spec := "dutyTruth", unfollowed := true, recurses := true, apart := false, narrowed := true }
def DutyTruthUptoSaid : Prop := dutyTruthUptoRow.holds Tryz.pinned (OpenSpec.upto dutyTruthSpec)

end Rows
end Go.Proofs.YtllobkhdeahgpaaGreat
