/-
  No cell of these rows narrows 'for every input' (looked for: loops, veiled, ifaces, maps, wideKeys, modest, calm, conditions, laid).
  DERIVED. THE GIVEN ROWS OF THIS SEAT. 8 by the template 'for every input the law returns true; each argument reads behind the call as it read before'; 0 by the template 'total and deterministic' (their statements: YtllobkhdeahgpaaTotals.lean).
  GIVEN WITH THE SEED: the statements are not yours to turn. If you find one false, say at which input.
  Laid BY PROGRAM, IN A SANDBOX (cutbox-rows.mjs): the forced cells as the released guide's own fill.sh prints them over the translation d5758cf6cf10e93f… (all of the seat's roots in one cut). By AI agents, Wed Nov 11 2026. No macro, syntax, notation, axiom, sorry.
-/
import Derived.Test.YtllobkhdeahgpaaChecked
import GoSem.Claim
import GoSem.ClaimJoined
import GoSem.ClaimMapViews
import Derived.JoinedTies
import Derived.KernelRfl
namespace Go.Proofs.Ytllobkhdeahgpaa
/- THE CELL 'sum', in the pinned program and in every row, IS THE sha256 OF THE DUMP (.gsa) THAT YtllobkhdeahgpaaProg.lean LOADS. Nothing in Lean hashes anything: it is a label: what it is worth is what the hold of that sum in a sandbox is worth. -/
noncomputable def Try.pinned : Pinned := { name := "ytllobkhdeahgpaa", sum := "d5758cf6cf10e93f9faa23be7c8099030d1310af2fbc163960b1f2e3139a8d6d", checked := Try.checked }
namespace Rows
def none {H : Type} : Left H := { results := [], args := [] }

/-- 'layoverlaw02.DutyProved': WHATEVER THE INPUT: true; the input reads as it did. -/
def dutyProvedSpec : ChangeSpec := { name := "dutyProved", fn := fun _ => fun
  | [d1, d2, d3] => { results := [.lit (.bool true)], args := [d1, d2, d3] }
  | _ => none }
def dutyProvedRow : OpenClaim := { program := "ytllobkhdeahgpaa", sum := "d5758cf6cf10e93f9faa23be7c8099030d1310af2fbc163960b1f2e3139a8d6d", func := "layover/layoverlaw02.DutyProved", spec := "dutyProved", unfollowed := true, recurses := true, apart := false }
def DutyProvedSaid : Prop := dutyProvedRow.holds Try.pinned (OpenSpec.ofChange dutyProvedSpec)

/-- ITS FALSE NEIGHBOUR: 'it returns false'. Refute it at one input. -/
def dutyProvedWrong : ChangeSpec := { name := "dutyProved", fn := fun _ => fun
  | [d1, d2, d3] => { results := [.lit (.bool false)], args := [d1, d2, d3] }
  | _ => none }
def DutyProvedWrongFalsely : Prop := dutyProvedRow.holds Try.pinned (OpenSpec.ofChange dutyProvedWrong)

/-- 'layoverlaw02.DutyCut': WHATEVER THE INPUT: true; the input reads as it did. -/
def dutyCutSpec : ChangeSpec := { name := "dutyCut", fn := fun _ => fun
  | [d1, d2, d3, d4, d5, d6] => { results := [.lit (.bool true)], args := [d1, d2, d3, d4, d5, d6] }
  | _ => none }
def dutyCutRow : OpenClaim := { program := "ytllobkhdeahgpaa", sum := "d5758cf6cf10e93f9faa23be7c8099030d1310af2fbc163960b1f2e3139a8d6d", func := "layover/layoverlaw02.DutyCut", spec := "dutyCut", unfollowed := true, recurses := true, apart := false }
def DutyCutSaid : Prop := dutyCutRow.holds Try.pinned (OpenSpec.ofChange dutyCutSpec)

/-- ITS FALSE NEIGHBOUR: 'it returns false'. Refute it at one input. -/
def dutyCutWrong : ChangeSpec := { name := "dutyCut", fn := fun _ => fun
  | [d1, d2, d3, d4, d5, d6] => { results := [.lit (.bool false)], args := [d1, d2, d3, d4, d5, d6] }
  | _ => none }
def DutyCutWrongFalsely : Prop := dutyCutRow.holds Try.pinned (OpenSpec.ofChange dutyCutWrong)

/-- 'layoverlaw02.DutyLater': WHATEVER THE INPUT: true; the input reads as it did. -/
def dutyLaterSpec : ChangeSpec := { name := "dutyLater", fn := fun _ => fun
  | [d1, d2, d3] => { results := [.lit (.bool true)], args := [d1, d2, d3] }
  | _ => none }
def dutyLaterRow : OpenClaim := { program := "ytllobkhdeahgpaa", sum := "d5758cf6cf10e93f9faa23be7c8099030d1310af2fbc163960b1f2e3139a8d6d", func := "layover/layoverlaw02.DutyLater", spec := "dutyLater", unfollowed := true, recurses := true, apart := false }
def DutyLaterSaid : Prop := dutyLaterRow.holds Try.pinned (OpenSpec.ofChange dutyLaterSpec)

/-- ITS FALSE NEIGHBOUR: 'it returns false'. Refute it at one input. -/
def dutyLaterWrong : ChangeSpec := { name := "dutyLater", fn := fun _ => fun
  | [d1, d2, d3] => { results := [.lit (.bool false)], args := [d1, d2, d3] }
  | _ => none }
def DutyLaterWrongFalsely : Prop := dutyLaterRow.holds Try.pinned (OpenSpec.ofChange dutyLaterWrong)

/-- 'layoverlaw02.DutyBlocks': WHATEVER THE INPUT: true; the input reads as it did. -/
def dutyBlocksSpec : ChangeSpec := { name := "dutyBlocks", fn := fun _ => fun
  | [d1, d2, d3] => { results := [.lit (.bool true)], args := [d1, d2, d3] }
  | _ => none }
def dutyBlocksRow : OpenClaim := { program := "ytllobkhdeahgpaa", sum := "d5758cf6cf10e93f9faa23be7c8099030d1310af2fbc163960b1f2e3139a8d6d", func := "layover/layoverlaw02.DutyBlocks", spec := "dutyBlocks", unfollowed := true, recurses := true, apart := false }
def DutyBlocksSaid : Prop := dutyBlocksRow.holds Try.pinned (OpenSpec.ofChange dutyBlocksSpec)

/-- ITS FALSE NEIGHBOUR: 'it returns false'. Refute it at one input. -/
def dutyBlocksWrong : ChangeSpec := { name := "dutyBlocks", fn := fun _ => fun
  | [d1, d2, d3] => { results := [.lit (.bool false)], args := [d1, d2, d3] }
  | _ => none }
def DutyBlocksWrongFalsely : Prop := dutyBlocksRow.holds Try.pinned (OpenSpec.ofChange dutyBlocksWrong)

/-- 'layoverlaw02.DutyEasier': WHATEVER THE INPUT: true; the input reads as it did. -/
def dutyEasierSpec : ChangeSpec := { name := "dutyEasier", fn := fun _ => fun
  | [d1, d2, d3, d4, d5] => { results := [.lit (.bool true)], args := [d1, d2, d3, d4, d5] }
  | _ => none }
def dutyEasierRow : OpenClaim := { program := "ytllobkhdeahgpaa", sum := "d5758cf6cf10e93f9faa23be7c8099030d1310af2fbc163960b1f2e3139a8d6d", func := "layover/layoverlaw02.DutyEasier", spec := "dutyEasier", unfollowed := true, recurses := true, apart := false }
def DutyEasierSaid : Prop := dutyEasierRow.holds Try.pinned (OpenSpec.ofChange dutyEasierSpec)

/-- ITS FALSE NEIGHBOUR: 'it returns false'. Refute it at one input. -/
def dutyEasierWrong : ChangeSpec := { name := "dutyEasier", fn := fun _ => fun
  | [d1, d2, d3, d4, d5] => { results := [.lit (.bool false)], args := [d1, d2, d3, d4, d5] }
  | _ => none }
def DutyEasierWrongFalsely : Prop := dutyEasierRow.holds Try.pinned (OpenSpec.ofChange dutyEasierWrong)

/-- 'layoverlaw02.DutyBarred': WHATEVER THE INPUT: true; the input reads as it did. -/
def dutyBarredSpec : ChangeSpec := { name := "dutyBarred", fn := fun _ => fun
  | [d1, d2] => { results := [.lit (.bool true)], args := [d1, d2] }
  | _ => none }
def dutyBarredRow : OpenClaim := { program := "ytllobkhdeahgpaa", sum := "d5758cf6cf10e93f9faa23be7c8099030d1310af2fbc163960b1f2e3139a8d6d", func := "layover/layoverlaw02.DutyBarred", spec := "dutyBarred", unfollowed := true, recurses := true, apart := false }
def DutyBarredSaid : Prop := dutyBarredRow.holds Try.pinned (OpenSpec.ofChange dutyBarredSpec)

/-- ITS FALSE NEIGHBOUR: 'it returns false'. Refute it at one input. -/
def dutyBarredWrong : ChangeSpec := { name := "dutyBarred", fn := fun _ => fun
  | [d1, d2] => { results := [.lit (.bool false)], args := [d1, d2] }
  | _ => none }
def DutyBarredWrongFalsely : Prop := dutyBarredRow.holds Try.pinned (OpenSpec.ofChange dutyBarredWrong)

/-- 'layoverlaw02.DutyFewest': WHATEVER THE INPUT: true; the input reads as it did. -/
def dutyFewestSpec : ChangeSpec := { name := "dutyFewest", fn := fun _ => fun
  | [d1, d2] => { results := [.lit (.bool true)], args := [d1, d2] }
  | _ => none }
def dutyFewestRow : OpenClaim := { program := "ytllobkhdeahgpaa", sum := "d5758cf6cf10e93f9faa23be7c8099030d1310af2fbc163960b1f2e3139a8d6d", func := "layover/layoverlaw02.DutyFewest", spec := "dutyFewest", unfollowed := true, recurses := true, apart := false }
def DutyFewestSaid : Prop := dutyFewestRow.holds Try.pinned (OpenSpec.ofChange dutyFewestSpec)

/-- ITS FALSE NEIGHBOUR: 'it returns false'. Refute it at one input. -/
def dutyFewestWrong : ChangeSpec := { name := "dutyFewest", fn := fun _ => fun
  | [d1, d2] => { results := [.lit (.bool false)], args := [d1, d2] }
  | _ => none }
def DutyFewestWrongFalsely : Prop := dutyFewestRow.holds Try.pinned (OpenSpec.ofChange dutyFewestWrong)

/-- 'layoverlaw02.DutyNames': WHATEVER THE INPUT: true; the input reads as it did. -/
def dutyNamesSpec : ChangeSpec := { name := "dutyNames", fn := fun _ => fun
  | [] => { results := [.lit (.bool true)], args := [] }
  | _ => none }
def dutyNamesRow : OpenClaim := { program := "ytllobkhdeahgpaa", sum := "d5758cf6cf10e93f9faa23be7c8099030d1310af2fbc163960b1f2e3139a8d6d", func := "layover/layoverlaw02.DutyNames", spec := "dutyNames", unfollowed := true, recurses := true, apart := false }
def DutyNamesSaid : Prop := dutyNamesRow.holds Try.pinned (OpenSpec.ofChange dutyNamesSpec)

/-- ITS FALSE NEIGHBOUR: 'it returns false'. Refute it at one input. -/
def dutyNamesWrong : ChangeSpec := { name := "dutyNames", fn := fun _ => fun
  | [] => { results := [.lit (.bool false)], args := [] }
  | _ => none }
def DutyNamesWrongFalsely : Prop := dutyNamesRow.holds Try.pinned (OpenSpec.ofChange dutyNamesWrong)

/- THE SECOND FORM. 'bulk': how many values and letters a reading holds, each counted each time it is reached (what is shared counts as often as it is met; a slice's spare places count too). A statement '..UptoSaid' is the law's where the arguments, and the package variables that the reading takes, are together of bulk at most 1048576: NARROWER than '..Said'. Prove '..Said' where nothing that the law and all that it calls make is longer than what came in: it says more and counts as full. Else prove '..UptoSaid'. A law counts once. -/
mutual
def uptoBulk {H : Type} : DataW H → Nat
  | .lit (.string bytes) => bytes.length + 1
  | .lit _ => 1
  | .nil => 1
  | .ptr d => uptoBulk d + 1
  | .slice elems spare => uptoBulkAll elems + uptoBulkAll spare + 1
  | .agg parts => uptoBulkAll parts + 1
  | .iface _ d => uptoBulk d + 1
  | .map entries => uptoBulkEntries entries + 1
  | .held _ => 1
def uptoBulkAll {H : Type} : List (DataW H) → Nat
  | [] => 0
  | d :: r => uptoBulk d + uptoBulkAll r
def uptoBulkEntries {H : Type} : List (Lit × DataW H) → Nat
  | [] => 0
  | x :: r => uptoBulkEntry x + uptoBulkEntries r
def uptoBulkEntry {H : Type} : Lit × DataW H → Nat
  | (.string bytes, d) => bytes.length + uptoBulk d + 1
  | (_, d) => uptoBulk d + 1
 end
def uptoSmall : (H : Type) → List (DataW H) → Bool := fun _ ds => decide (uptoBulkAll ds ≤ 1048576)
def OpenSpec.upto (s : _root_.Go.ChangeSpec) : _root_.Go.OpenSpec := { _root_.Go.OpenSpec.ofChange s with cond := some uptoSmall }

/-- 'layoverlaw02.DutyProved', WHERE WHAT IT READS IS OF BULK AT MOST 1048576: true; the input reads as it did. -/
def dutyProvedUptoRow : OpenClaim := { program := "ytllobkhdeahgpaa", sum := "d5758cf6cf10e93f9faa23be7c8099030d1310af2fbc163960b1f2e3139a8d6d", func := "layover/layoverlaw02.DutyProved", spec := "dutyProved", unfollowed := true, recurses := true, apart := false, narrowed := true }
def DutyProvedUptoSaid : Prop := dutyProvedUptoRow.holds Try.pinned (OpenSpec.upto dutyProvedSpec)

/-- 'layoverlaw02.DutyCut', WHERE WHAT IT READS IS OF BULK AT MOST 1048576: true; the input reads as it did. -/
def dutyCutUptoRow : OpenClaim := { program := "ytllobkhdeahgpaa", sum := "d5758cf6cf10e93f9faa23be7c8099030d1310af2fbc163960b1f2e3139a8d6d", func := "layover/layoverlaw02.DutyCut", spec := "dutyCut", unfollowed := true, recurses := true, apart := false, narrowed := true }
def DutyCutUptoSaid : Prop := dutyCutUptoRow.holds Try.pinned (OpenSpec.upto dutyCutSpec)

/-- 'layoverlaw02.DutyLater', WHERE WHAT IT READS IS OF BULK AT MOST 1048576: true; the input reads as it did. -/
def dutyLaterUptoRow : OpenClaim := { program := "ytllobkhdeahgpaa", sum := "d5758cf6cf10e93f9faa23be7c8099030d1310af2fbc163960b1f2e3139a8d6d", func := "layover/layoverlaw02.DutyLater", spec := "dutyLater", unfollowed := true, recurses := true, apart := false, narrowed := true }
def DutyLaterUptoSaid : Prop := dutyLaterUptoRow.holds Try.pinned (OpenSpec.upto dutyLaterSpec)

/-- 'layoverlaw02.DutyBlocks', WHERE WHAT IT READS IS OF BULK AT MOST 1048576: true; the input reads as it did. -/
def dutyBlocksUptoRow : OpenClaim := { program := "ytllobkhdeahgpaa", sum := "d5758cf6cf10e93f9faa23be7c8099030d1310af2fbc163960b1f2e3139a8d6d", func := "layover/layoverlaw02.DutyBlocks", spec := "dutyBlocks", unfollowed := true, recurses := true, apart := false, narrowed := true }
def DutyBlocksUptoSaid : Prop := dutyBlocksUptoRow.holds Try.pinned (OpenSpec.upto dutyBlocksSpec)

/-- 'layoverlaw02.DutyEasier', WHERE WHAT IT READS IS OF BULK AT MOST 1048576: true; the input reads as it did. -/
def dutyEasierUptoRow : OpenClaim := { program := "ytllobkhdeahgpaa", sum := "d5758cf6cf10e93f9faa23be7c8099030d1310af2fbc163960b1f2e3139a8d6d", func := "layover/layoverlaw02.DutyEasier", spec := "dutyEasier", unfollowed := true, recurses := true, apart := false, narrowed := true }
def DutyEasierUptoSaid : Prop := dutyEasierUptoRow.holds Try.pinned (OpenSpec.upto dutyEasierSpec)

/-- 'layoverlaw02.DutyBarred', WHERE WHAT IT READS IS OF BULK AT MOST 1048576: true; the input reads as it did. -/
def dutyBarredUptoRow : OpenClaim := { program := "ytllobkhdeahgpaa", sum := "d5758cf6cf10e93f9faa23be7c8099030d1310af2fbc163960b1f2e3139a8d6d", func := "layover/layoverlaw02.DutyBarred", spec := "dutyBarred", unfollowed := true, recurses := true, apart := false, narrowed := true }
def DutyBarredUptoSaid : Prop := dutyBarredUptoRow.holds Try.pinned (OpenSpec.upto dutyBarredSpec)

/-- 'layoverlaw02.DutyFewest', WHERE WHAT IT READS IS OF BULK AT MOST 1048576: true; the input reads as it did. -/
def dutyFewestUptoRow : OpenClaim := { program := "ytllobkhdeahgpaa", sum := "d5758cf6cf10e93f9faa23be7c8099030d1310af2fbc163960b1f2e3139a8d6d", func := "layover/layoverlaw02.DutyFewest", spec := "dutyFewest", unfollowed := true, recurses := true, apart := false, narrowed := true }
def DutyFewestUptoSaid : Prop := dutyFewestUptoRow.holds Try.pinned (OpenSpec.upto dutyFewestSpec)

/-- 'layoverlaw02.DutyNames', WHERE WHAT IT READS IS OF BULK AT MOST 1048576: true; the input reads as it did. -/
def dutyNamesUptoRow : OpenClaim := { program := "ytllobkhdeahgpaa", sum := "d5758cf6cf10e93f9faa23be7c8099030d1310af2fbc163960b1f2e3139a8d6d", func := "layover/layoverlaw02.DutyNames", spec := "dutyNames", unfollowed := true, recurses := true, apart := false, narrowed := true }
def DutyNamesUptoSaid : Prop := dutyNamesUptoRow.holds Try.pinned (OpenSpec.upto dutyNamesSpec)

end Rows
end Go.Proofs.Ytllobkhdeahgpaa
