/-
  No cell of these rows narrows 'for every input' (looked for: loops, veiled, ifaces, maps, wideKeys, modest, calm, conditions, laid).
  DERIVED. THE GIVEN ROWS OF THIS SEAT. 13 by the template 'for every input the law returns true; each argument reads behind the call as it read before'; 0 by the template 'total and deterministic' (their statements: YtobeffjdfhkjeaaTotals.lean).
  GIVEN WITH THE SEED: the statements are not yours to turn. If you find one false, say at which input.
  Laid BY PROGRAM, IN A SANDBOX (cutbox-rows.mjs): the forced cells as the released guide's own fill.sh prints them over the translation d3441b7b2f114f0b… (all of the seat's roots in one cut). By AI agents, Wed Nov 11 2026. No macro, syntax, notation, axiom, sorry.
-/
import Derived.Test.YtobeffjdfhkjeaaChecked
import GoSem.Claim
import GoSem.ClaimJoined
import GoSem.ClaimMapViews
import Derived.JoinedTies
import Derived.KernelRfl
namespace Go.Proofs.Ytobeffjdfhkjeaa
/- THE CELL 'sum', in the pinned program and in every row, IS THE sha256 OF THE DUMP (.gsa) THAT YtobeffjdfhkjeaaProg.lean LOADS. Nothing in Lean hashes anything: it is a label: what it is worth is what the hold of that sum in a sandbox is worth. -/
noncomputable def Try.pinned : Pinned := { name := "ytobeffjdfhkjeaa", sum := "d3441b7b2f114f0bea669114fd48580dd496f4e3df7565c8e35ae67d9e82a0bf", checked := Try.checked }
namespace Rows
def none {H : Type} : Left H := { results := [], args := [] }

/-- 'layoverlaw10.ShareGets': WHATEVER THE INPUT: true; the input reads as it did. -/
def shareGetsSpec : ChangeSpec := { name := "shareGets", fn := fun _ => fun
  | [d1, d2] => { results := [.lit (.bool true)], args := [d1, d2] }
  | _ => none }
def shareGetsRow : OpenClaim := { program := "ytobeffjdfhkjeaa", sum := "d3441b7b2f114f0bea669114fd48580dd496f4e3df7565c8e35ae67d9e82a0bf", func := "layover/layoverlaw10.ShareGets", spec := "shareGets", unfollowed := true, recurses := true, plainKeys := false, apart := false }
def ShareGetsSaid : Prop := shareGetsRow.holds Try.pinned (OpenSpec.ofChange shareGetsSpec)

/-- ITS FALSE NEIGHBOUR: 'it returns false'. Refute it at one input. -/
def shareGetsWrong : ChangeSpec := { name := "shareGets", fn := fun _ => fun
  | [d1, d2] => { results := [.lit (.bool false)], args := [d1, d2] }
  | _ => none }
def ShareGetsWrongFalsely : Prop := shareGetsRow.holds Try.pinned (OpenSpec.ofChange shareGetsWrong)

/-- 'layoverlaw10.ShareTruth': WHATEVER THE INPUT: true; the input reads as it did. -/
def shareTruthSpec : ChangeSpec := { name := "shareTruth", fn := fun _ => fun
  | [d1, d2] => { results := [.lit (.bool true)], args := [d1, d2] }
  | _ => none }
def shareTruthRow : OpenClaim := { program := "ytobeffjdfhkjeaa", sum := "d3441b7b2f114f0bea669114fd48580dd496f4e3df7565c8e35ae67d9e82a0bf", func := "layover/layoverlaw10.ShareTruth", spec := "shareTruth", unfollowed := true, recurses := true, plainKeys := false, apart := false }
def ShareTruthSaid : Prop := shareTruthRow.holds Try.pinned (OpenSpec.ofChange shareTruthSpec)

/-- ITS FALSE NEIGHBOUR: 'it returns false'. Refute it at one input. -/
def shareTruthWrong : ChangeSpec := { name := "shareTruth", fn := fun _ => fun
  | [d1, d2] => { results := [.lit (.bool false)], args := [d1, d2] }
  | _ => none }
def ShareTruthWrongFalsely : Prop := shareTruthRow.holds Try.pinned (OpenSpec.ofChange shareTruthWrong)

/-- 'layoverlaw10.ShareKept': WHATEVER THE INPUT: true; the input reads as it did. -/
def shareKeptSpec : ChangeSpec := { name := "shareKept", fn := fun _ => fun
  | [d1, d2] => { results := [.lit (.bool true)], args := [d1, d2] }
  | _ => none }
def shareKeptRow : OpenClaim := { program := "ytobeffjdfhkjeaa", sum := "d3441b7b2f114f0bea669114fd48580dd496f4e3df7565c8e35ae67d9e82a0bf", func := "layover/layoverlaw10.ShareKept", spec := "shareKept", unfollowed := true, recurses := true, plainKeys := false, apart := false }
def ShareKeptSaid : Prop := shareKeptRow.holds Try.pinned (OpenSpec.ofChange shareKeptSpec)

/-- ITS FALSE NEIGHBOUR: 'it returns false'. Refute it at one input. -/
def shareKeptWrong : ChangeSpec := { name := "shareKept", fn := fun _ => fun
  | [d1, d2] => { results := [.lit (.bool false)], args := [d1, d2] }
  | _ => none }
def ShareKeptWrongFalsely : Prop := shareKeptRow.holds Try.pinned (OpenSpec.ofChange shareKeptWrong)

/-- 'layoverlaw10.ShareSeen': WHATEVER THE INPUT: true; the input reads as it did. -/
def shareSeenSpec : ChangeSpec := { name := "shareSeen", fn := fun _ => fun
  | [d1, d2, d3] => { results := [.lit (.bool true)], args := [d1, d2, d3] }
  | _ => none }
def shareSeenRow : OpenClaim := { program := "ytobeffjdfhkjeaa", sum := "d3441b7b2f114f0bea669114fd48580dd496f4e3df7565c8e35ae67d9e82a0bf", func := "layover/layoverlaw10.ShareSeen", spec := "shareSeen", unfollowed := true, recurses := true, plainKeys := false, apart := false }
def ShareSeenSaid : Prop := shareSeenRow.holds Try.pinned (OpenSpec.ofChange shareSeenSpec)

/-- ITS FALSE NEIGHBOUR: 'it returns false'. Refute it at one input. -/
def shareSeenWrong : ChangeSpec := { name := "shareSeen", fn := fun _ => fun
  | [d1, d2, d3] => { results := [.lit (.bool false)], args := [d1, d2, d3] }
  | _ => none }
def ShareSeenWrongFalsely : Prop := shareSeenRow.holds Try.pinned (OpenSpec.ofChange shareSeenWrong)

/-- 'layoverlaw10.ShareOrder': WHATEVER THE INPUT: true; the input reads as it did. -/
def shareOrderSpec : ChangeSpec := { name := "shareOrder", fn := fun _ => fun
  | [d1, d2, d3] => { results := [.lit (.bool true)], args := [d1, d2, d3] }
  | _ => none }
def shareOrderRow : OpenClaim := { program := "ytobeffjdfhkjeaa", sum := "d3441b7b2f114f0bea669114fd48580dd496f4e3df7565c8e35ae67d9e82a0bf", func := "layover/layoverlaw10.ShareOrder", spec := "shareOrder", unfollowed := true, recurses := true, plainKeys := false, apart := false }
def ShareOrderSaid : Prop := shareOrderRow.holds Try.pinned (OpenSpec.ofChange shareOrderSpec)

/-- ITS FALSE NEIGHBOUR: 'it returns false'. Refute it at one input. -/
def shareOrderWrong : ChangeSpec := { name := "shareOrder", fn := fun _ => fun
  | [d1, d2, d3] => { results := [.lit (.bool false)], args := [d1, d2, d3] }
  | _ => none }
def ShareOrderWrongFalsely : Prop := shareOrderRow.holds Try.pinned (OpenSpec.ofChange shareOrderWrong)

/-- 'layoverlaw10.ShareRefuses': WHATEVER THE INPUT: true; the input reads as it did. -/
def shareRefusesSpec : ChangeSpec := { name := "shareRefuses", fn := fun _ => fun
  | [d1, d2] => { results := [.lit (.bool true)], args := [d1, d2] }
  | _ => none }
def shareRefusesRow : OpenClaim := { program := "ytobeffjdfhkjeaa", sum := "d3441b7b2f114f0bea669114fd48580dd496f4e3df7565c8e35ae67d9e82a0bf", func := "layover/layoverlaw10.ShareRefuses", spec := "shareRefuses", unfollowed := true, recurses := true, plainKeys := false, apart := false }
def ShareRefusesSaid : Prop := shareRefusesRow.holds Try.pinned (OpenSpec.ofChange shareRefusesSpec)

/-- ITS FALSE NEIGHBOUR: 'it returns false'. Refute it at one input. -/
def shareRefusesWrong : ChangeSpec := { name := "shareRefuses", fn := fun _ => fun
  | [d1, d2] => { results := [.lit (.bool false)], args := [d1, d2] }
  | _ => none }
def ShareRefusesWrongFalsely : Prop := shareRefusesRow.holds Try.pinned (OpenSpec.ofChange shareRefusesWrong)

/-- 'layoverlaw10.ShareClaims': WHATEVER THE INPUT: true; the input reads as it did. -/
def shareClaimsSpec : ChangeSpec := { name := "shareClaims", fn := fun _ => fun
  | [d1, d2, d3] => { results := [.lit (.bool true)], args := [d1, d2, d3] }
  | _ => none }
def shareClaimsRow : OpenClaim := { program := "ytobeffjdfhkjeaa", sum := "d3441b7b2f114f0bea669114fd48580dd496f4e3df7565c8e35ae67d9e82a0bf", func := "layover/layoverlaw10.ShareClaims", spec := "shareClaims", unfollowed := true, recurses := true, plainKeys := false, apart := false }
def ShareClaimsSaid : Prop := shareClaimsRow.holds Try.pinned (OpenSpec.ofChange shareClaimsSpec)

/-- ITS FALSE NEIGHBOUR: 'it returns false'. Refute it at one input. -/
def shareClaimsWrong : ChangeSpec := { name := "shareClaims", fn := fun _ => fun
  | [d1, d2, d3] => { results := [.lit (.bool false)], args := [d1, d2, d3] }
  | _ => none }
def ShareClaimsWrongFalsely : Prop := shareClaimsRow.holds Try.pinned (OpenSpec.ofChange shareClaimsWrong)

/-- 'layoverlaw10.ShareNeeds': WHATEVER THE INPUT: true; the input reads as it did. -/
def shareNeedsSpec : ChangeSpec := { name := "shareNeeds", fn := fun _ => fun
  | [d1, d2, d3] => { results := [.lit (.bool true)], args := [d1, d2, d3] }
  | _ => none }
def shareNeedsRow : OpenClaim := { program := "ytobeffjdfhkjeaa", sum := "d3441b7b2f114f0bea669114fd48580dd496f4e3df7565c8e35ae67d9e82a0bf", func := "layover/layoverlaw10.ShareNeeds", spec := "shareNeeds", unfollowed := true, recurses := true, plainKeys := false, apart := false }
def ShareNeedsSaid : Prop := shareNeedsRow.holds Try.pinned (OpenSpec.ofChange shareNeedsSpec)

/-- ITS FALSE NEIGHBOUR: 'it returns false'. Refute it at one input. -/
def shareNeedsWrong : ChangeSpec := { name := "shareNeeds", fn := fun _ => fun
  | [d1, d2, d3] => { results := [.lit (.bool false)], args := [d1, d2, d3] }
  | _ => none }
def ShareNeedsWrongFalsely : Prop := shareNeedsRow.holds Try.pinned (OpenSpec.ofChange shareNeedsWrong)

/-- 'layoverlaw10.ShareBounds': WHATEVER THE INPUT: true; the input reads as it did. -/
def shareBoundsSpec : ChangeSpec := { name := "shareBounds", fn := fun _ => fun
  | [d] => { results := [.lit (.bool true)], args := [d] }
  | _ => none }
def shareBoundsRow : OpenClaim := { program := "ytobeffjdfhkjeaa", sum := "d3441b7b2f114f0bea669114fd48580dd496f4e3df7565c8e35ae67d9e82a0bf", func := "layover/layoverlaw10.ShareBounds", spec := "shareBounds", unfollowed := true, recurses := true, plainKeys := false, apart := false }
def ShareBoundsSaid : Prop := shareBoundsRow.holds Try.pinned (OpenSpec.ofChange shareBoundsSpec)

/-- ITS FALSE NEIGHBOUR: 'it returns false'. Refute it at one input. -/
def shareBoundsWrong : ChangeSpec := { name := "shareBounds", fn := fun _ => fun
  | [d] => { results := [.lit (.bool false)], args := [d] }
  | _ => none }
def ShareBoundsWrongFalsely : Prop := shareBoundsRow.holds Try.pinned (OpenSpec.ofChange shareBoundsWrong)

/-- 'layoverlaw10.ShareSamples': WHATEVER THE INPUT: true; the input reads as it did. -/
def shareSamplesSpec : ChangeSpec := { name := "shareSamples", fn := fun _ => fun
  | [d1, d2, d3, d4] => { results := [.lit (.bool true)], args := [d1, d2, d3, d4] }
  | _ => none }
def shareSamplesRow : OpenClaim := { program := "ytobeffjdfhkjeaa", sum := "d3441b7b2f114f0bea669114fd48580dd496f4e3df7565c8e35ae67d9e82a0bf", func := "layover/layoverlaw10.ShareSamples", spec := "shareSamples", unfollowed := true, recurses := true, plainKeys := false, apart := false }
def ShareSamplesSaid : Prop := shareSamplesRow.holds Try.pinned (OpenSpec.ofChange shareSamplesSpec)

/-- ITS FALSE NEIGHBOUR: 'it returns false'. Refute it at one input. -/
def shareSamplesWrong : ChangeSpec := { name := "shareSamples", fn := fun _ => fun
  | [d1, d2, d3, d4] => { results := [.lit (.bool false)], args := [d1, d2, d3, d4] }
  | _ => none }
def ShareSamplesWrongFalsely : Prop := shareSamplesRow.holds Try.pinned (OpenSpec.ofChange shareSamplesWrong)

/-- 'layoverlaw10.ShareDivides': WHATEVER THE INPUT: true; the input reads as it did. -/
def shareDividesSpec : ChangeSpec := { name := "shareDivides", fn := fun _ => fun
  | [d1, d2] => { results := [.lit (.bool true)], args := [d1, d2] }
  | _ => none }
def shareDividesRow : OpenClaim := { program := "ytobeffjdfhkjeaa", sum := "d3441b7b2f114f0bea669114fd48580dd496f4e3df7565c8e35ae67d9e82a0bf", func := "layover/layoverlaw10.ShareDivides", spec := "shareDivides", unfollowed := true, recurses := true, plainKeys := false, apart := false }
def ShareDividesSaid : Prop := shareDividesRow.holds Try.pinned (OpenSpec.ofChange shareDividesSpec)

/-- ITS FALSE NEIGHBOUR: 'it returns false'. Refute it at one input. -/
def shareDividesWrong : ChangeSpec := { name := "shareDivides", fn := fun _ => fun
  | [d1, d2] => { results := [.lit (.bool false)], args := [d1, d2] }
  | _ => none }
def ShareDividesWrongFalsely : Prop := shareDividesRow.holds Try.pinned (OpenSpec.ofChange shareDividesWrong)

/-- 'layoverlaw10.ShareWhole': WHATEVER THE INPUT: true; the input reads as it did. -/
def shareWholeSpec : ChangeSpec := { name := "shareWhole", fn := fun _ => fun
  | [d1, d2] => { results := [.lit (.bool true)], args := [d1, d2] }
  | _ => none }
def shareWholeRow : OpenClaim := { program := "ytobeffjdfhkjeaa", sum := "d3441b7b2f114f0bea669114fd48580dd496f4e3df7565c8e35ae67d9e82a0bf", func := "layover/layoverlaw10.ShareWhole", spec := "shareWhole", unfollowed := true, recurses := true, plainKeys := false, apart := false }
def ShareWholeSaid : Prop := shareWholeRow.holds Try.pinned (OpenSpec.ofChange shareWholeSpec)

/-- ITS FALSE NEIGHBOUR: 'it returns false'. Refute it at one input. -/
def shareWholeWrong : ChangeSpec := { name := "shareWhole", fn := fun _ => fun
  | [d1, d2] => { results := [.lit (.bool false)], args := [d1, d2] }
  | _ => none }
def ShareWholeWrongFalsely : Prop := shareWholeRow.holds Try.pinned (OpenSpec.ofChange shareWholeWrong)

/-- 'layoverlaw10.ShareNames': WHATEVER THE INPUT: true; the input reads as it did. -/
def shareNamesSpec : ChangeSpec := { name := "shareNames", fn := fun _ => fun
  | [] => { results := [.lit (.bool true)], args := [] }
  | _ => none }
def shareNamesRow : OpenClaim := { program := "ytobeffjdfhkjeaa", sum := "d3441b7b2f114f0bea669114fd48580dd496f4e3df7565c8e35ae67d9e82a0bf", func := "layover/layoverlaw10.ShareNames", spec := "shareNames", unfollowed := true, recurses := true, plainKeys := false, apart := false }
def ShareNamesSaid : Prop := shareNamesRow.holds Try.pinned (OpenSpec.ofChange shareNamesSpec)

/-- ITS FALSE NEIGHBOUR: 'it returns false'. Refute it at one input. -/
def shareNamesWrong : ChangeSpec := { name := "shareNames", fn := fun _ => fun
  | [] => { results := [.lit (.bool false)], args := [] }
  | _ => none }
def ShareNamesWrongFalsely : Prop := shareNamesRow.holds Try.pinned (OpenSpec.ofChange shareNamesWrong)

/- THE SECOND FORM. 'bulk': how many values and letters a reading holds, each counted each time it is reached (what is shared counts as often as it is met; a slice's spare places count too). A statement '..UptoSaid' is the law's where the arguments, and the package variables that the reading takes, are together of bulk at most 1048576: NARROWER than '..Said'. Prove '..Said' where nothing that the law and all that it calls make is longer than what came in: it says more and counts as full. Else prove '..UptoSaid'. A law counts once. -/
mutual
def uptoBulk {H : Type} : DataW H → Nat
  | .lit (.string bytes) => bytes.length + 1
  | .lit _ => 1
  | .nil => 1
  | .ptr d => uptoBulk d + 1
  | .slice elems spare => uptoBulkAll elems + uptoBulkAll spare + 1
  | .agg parts => uptoBulkAll parts + 1
  | .iface _ d => uptoBulk d + 1
  | .map entries => uptoBulkEntries entries + 1
  | .held _ => 1
def uptoBulkAll {H : Type} : List (DataW H) → Nat
  | [] => 0
  | d :: r => uptoBulk d + uptoBulkAll r
def uptoBulkEntries {H : Type} : List (Lit × DataW H) → Nat
  | [] => 0
  | x :: r => uptoBulkEntry x + uptoBulkEntries r
def uptoBulkEntry {H : Type} : Lit × DataW H → Nat
  | (.string bytes, d) => bytes.length + uptoBulk d + 1
  | (_, d) => uptoBulk d + 1
 end
def uptoSmall : (H : Type) → List (DataW H) → Bool := fun _ ds => decide (uptoBulkAll ds ≤ 1048576)
def OpenSpec.upto (s : _root_.Go.ChangeSpec) : _root_.Go.OpenSpec := { _root_.Go.OpenSpec.ofChange s with cond := some uptoSmall }

/-- 'layoverlaw10.ShareGets', WHERE WHAT IT READS IS OF BULK AT MOST 1048576: true; the input reads as it did. -/
def shareGetsUptoRow : OpenClaim := { program := "ytobeffjdfhkjeaa", sum := "d3441b7b2f114f0bea669114fd48580dd496f4e3df7565c8e35ae67d9e82a0bf", func := "layover/layoverlaw10.ShareGets", spec := "shareGets", unfollowed := true, recurses := true, plainKeys := false, apart := false, narrowed := true }
def ShareGetsUptoSaid : Prop := shareGetsUptoRow.holds Try.pinned (OpenSpec.upto shareGetsSpec)

/-- 'layoverlaw10.ShareTruth', WHERE WHAT IT READS IS OF BULK AT MOST 1048576: true; the input reads as it did. -/
def shareTruthUptoRow : OpenClaim := { program := "ytobeffjdfhkjeaa", sum := "d3441b7b2f114f0bea669114fd48580dd496f4e3df7565c8e35ae67d9e82a0bf", func := "layover/layoverlaw10.ShareTruth", spec := "shareTruth", unfollowed := true, recurses := true, plainKeys := false, apart := false, narrowed := true }
def ShareTruthUptoSaid : Prop := shareTruthUptoRow.holds Try.pinned (OpenSpec.upto shareTruthSpec)

/-- 'layoverlaw10.ShareKept', WHERE WHAT IT READS IS OF BULK AT MOST 1048576: true; the input reads as it did. -/
def shareKeptUptoRow : OpenClaim := { program := "ytobeffjdfhkjeaa", sum := "d3441b7b2f114f0bea669114fd48580dd496f4e3df7565c8e35ae67d9e82a0bf", func := "layover/layoverlaw10.ShareKept", spec := "shareKept", unfollowed := true, recurses := true, plainKeys := false, apart := false, narrowed := true }
def ShareKeptUptoSaid : Prop := shareKeptUptoRow.holds Try.pinned (OpenSpec.upto shareKeptSpec)

/-- 'layoverlaw10.ShareSeen', WHERE WHAT IT READS IS OF BULK AT MOST 1048576: true; the input reads as it did. -/
def shareSeenUptoRow : OpenClaim := { program := "ytobeffjdfhkjeaa", sum := "d3441b7b2f114f0bea669114fd48580dd496f4e3df7565c8e35ae67d9e82a0bf", func := "layover/layoverlaw10.ShareSeen", spec := "shareSeen", unfollowed := true, recurses := true, plainKeys := false, apart := false, narrowed := true }
def ShareSeenUptoSaid : Prop := shareSeenUptoRow.holds Try.pinned (OpenSpec.upto shareSeenSpec)

/-- 'layoverlaw10.ShareOrder', WHERE WHAT IT READS IS OF BULK AT MOST 1048576: true; the input reads as it did. -/
def shareOrderUptoRow : OpenClaim := { program := "ytobeffjdfhkjeaa", sum := "d3441b7b2f114f0bea669114fd48580dd496f4e3df7565c8e35ae67d9e82a0bf", func := "layover/layoverlaw10.ShareOrder", spec := "shareOrder", unfollowed := true, recurses := true, plainKeys := false, apart := false, narrowed := true }
def ShareOrderUptoSaid : Prop := shareOrderUptoRow.holds Try.pinned (OpenSpec.upto shareOrderSpec)

/-- 'layoverlaw10.ShareRefuses', WHERE WHAT IT READS IS OF BULK AT MOST 1048576: true; the input reads as it did. -/
def shareRefusesUptoRow : OpenClaim := { program := "ytobeffjdfhkjeaa", sum := "d3441b7b2f114f0bea669114fd48580dd496f4e3df7565c8e35ae67d9e82a0bf", func := "layover/layoverlaw10.ShareRefuses", spec := "shareRefuses", unfollowed := true, recurses := true, plainKeys := false, apart := false, narrowed := true }
def ShareRefusesUptoSaid : Prop := shareRefusesUptoRow.holds Try.pinned (OpenSpec.upto shareRefusesSpec)

/-- 'layoverlaw10.ShareClaims', WHERE WHAT IT READS IS OF BULK AT MOST 1048576: true; the input reads as it did. -/
def shareClaimsUptoRow : OpenClaim := { program := "ytobeffjdfhkjeaa", sum := "d3441b7b2f114f0bea669114fd48580dd496f4e3df7565c8e35ae67d9e82a0bf", func := "layover/layoverlaw10.ShareClaims", spec := "shareClaims", unfollowed := true, recurses := true, plainKeys := false, apart := false, narrowed := true }
def ShareClaimsUptoSaid : Prop := shareClaimsUptoRow.holds Try.pinned (OpenSpec.upto shareClaimsSpec)

/-- 'layoverlaw10.ShareNeeds', WHERE WHAT IT READS IS OF BULK AT MOST 1048576: true; the input reads as it did. -/
def shareNeedsUptoRow : OpenClaim := { program := "ytobeffjdfhkjeaa", sum := "d3441b7b2f114f0bea669114fd48580dd496f4e3df7565c8e35ae67d9e82a0bf", func := "layover/layoverlaw10.ShareNeeds", spec := "shareNeeds", unfollowed := true, recurses := true, plainKeys := false, apart := false, narrowed := true }
def ShareNeedsUptoSaid : Prop := shareNeedsUptoRow.holds Try.pinned (OpenSpec.upto shareNeedsSpec)

/-- 'layoverlaw10.ShareBounds', WHERE WHAT IT READS IS OF BULK AT MOST 1048576: true; the input reads as it did. -/
def shareBoundsUptoRow : OpenClaim := { program := "ytobeffjdfhkjeaa", sum := "d3441b7b2f114f0bea669114fd48580dd496f4e3df7565c8e35ae67d9e82a0bf", func := "layover/layoverlaw10.ShareBounds", spec := "shareBounds", unfollowed := true, recurses := true, plainKeys := false, apart := false, narrowed := true }
def ShareBoundsUptoSaid : Prop := shareBoundsUptoRow.holds Try.pinned (OpenSpec.upto shareBoundsSpec)

/-- 'layoverlaw10.ShareSamples', WHERE WHAT IT READS IS OF BULK AT MOST 1048576: true; the input reads as it did. -/
def shareSamplesUptoRow : OpenClaim := { program := "ytobeffjdfhkjeaa", sum := "d3441b7b2f114f0bea669114fd48580dd496f4e3df7565c8e35ae67d9e82a0bf", func := "layover/layoverlaw10.ShareSamples", spec := "shareSamples", unfollowed := true, recurses := true, plainKeys := false, apart := false, narrowed := true }
def ShareSamplesUptoSaid : Prop := shareSamplesUptoRow.holds Try.pinned (OpenSpec.upto shareSamplesSpec)

/-- 'layoverlaw10.ShareDivides', WHERE WHAT IT READS IS OF BULK AT MOST 1048576: true; the input reads as it did. -/
def shareDividesUptoRow : OpenClaim := { program := "ytobeffjdfhkjeaa", sum := "d3441b7b2f114f0bea669114fd48580dd496f4e3df7565c8e35ae67d9e82a0bf", func := "layover/layoverlaw10.ShareDivides", spec := "shareDivides", unfollowed := true, recurses := true, plainKeys := false, apart := false, narrowed := true }
def ShareDividesUptoSaid : Prop := shareDividesUptoRow.holds Try.pinned (OpenSpec.upto shareDividesSpec)

/-- 'layoverlaw10.ShareWhole', WHERE WHAT IT READS IS OF BULK AT MOST 1048576: true; the input reads as it did. -/
def shareWholeUptoRow : OpenClaim := { program := "ytobeffjdfhkjeaa", sum := "d3441b7b2f114f0bea669114fd48580dd496f4e3df7565c8e35ae67d9e82a0bf", func := "layover/layoverlaw10.ShareWhole", spec := "shareWhole", unfollowed := true, recurses := true, plainKeys := false, apart := false, narrowed := true }
def ShareWholeUptoSaid : Prop := shareWholeUptoRow.holds Try.pinned (OpenSpec.upto shareWholeSpec)

/-- 'layoverlaw10.ShareNames', WHERE WHAT IT READS IS OF BULK AT MOST 1048576: true; the input reads as it did. -/
def shareNamesUptoRow : OpenClaim := { program := "ytobeffjdfhkjeaa", sum := "d3441b7b2f114f0bea669114fd48580dd496f4e3df7565c8e35ae67d9e82a0bf", func := "layover/layoverlaw10.ShareNames", spec := "shareNames", unfollowed := true, recurses := true, plainKeys := false, apart := false, narrowed := true }
def ShareNamesUptoSaid : Prop := shareNamesUptoRow.holds Try.pinned (OpenSpec.upto shareNamesSpec)

end Rows
end Go.Proofs.Ytobeffjdfhkjeaa
