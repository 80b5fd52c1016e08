/-
  No cell of these rows narrows 'for every input' (looked for: loops, veiled, ifaces, maps, wideKeys, modest, calm, conditions, laid).
  DERIVED. THE GIVEN ROWS OF THIS SEAT. 10 by the template 'for every input the law returns true; each argument reads behind the call as it read before'; 0 by the template 'total and deterministic' (their statements: YtlfalheciadklaaTotals.lean).
  GIVEN WITH THE SEED: the statements are not yours to turn. If you find one false, say at which input.
  Laid BY PROGRAM, IN A SANDBOX (cutbox-rows.mjs): the forced cells as the released guide's own fill.sh prints them over the translation 905c8c9ed6d1b025… (all of the seat's roots in one cut). By AI agents, Wed Nov 11 2026. No macro, syntax, notation, axiom, sorry.
-/
import Derived.Test.YtlfalheciadklaaChecked
import GoSem.Claim
import GoSem.ClaimJoined
import GoSem.ClaimMapViews
import Derived.JoinedTies
import Derived.KernelRfl
namespace Go.Proofs.Ytlfalheciadklaa
/- THE CELL 'sum', in the pinned program and in every row, IS THE sha256 OF THE DUMP (.gsa) THAT YtlfalheciadklaaProg.lean LOADS. Nothing in Lean hashes anything: it is a label: what it is worth is what the hold of that sum in a sandbox is worth. -/
noncomputable def Try.pinned : Pinned := { name := "ytlfalheciadklaa", sum := "905c8c9ed6d1b02548d6007391a2633c942c6c5d8e657f0b93e2a9fa60fa17ba", checked := Try.checked }
namespace Rows
def none {H : Type} : Left H := { results := [], args := [] }

/-- 'additivelaw56.InspectMissing': WHATEVER THE INPUT: true; the input reads as it did. -/
def inspectMissingSpec : ChangeSpec := { name := "inspectMissing", fn := fun _ => fun
  | [d1, d2, d3] => { results := [.lit (.bool true)], args := [d1, d2, d3] }
  | _ => none }
def inspectMissingRow : OpenClaim := { program := "ytlfalheciadklaa", sum := "905c8c9ed6d1b02548d6007391a2633c942c6c5d8e657f0b93e2a9fa60fa17ba", func := "additive/additivelaw56.InspectMissing", spec := "inspectMissing", unfollowed := true, recurses := true, apart := false }
def InspectMissingSaid : Prop := inspectMissingRow.holds Try.pinned (OpenSpec.ofChange inspectMissingSpec)

/-- ITS FALSE NEIGHBOUR: 'it returns false'. Refute it at one input. -/
def inspectMissingWrong : ChangeSpec := { name := "inspectMissing", fn := fun _ => fun
  | [d1, d2, d3] => { results := [.lit (.bool false)], args := [d1, d2, d3] }
  | _ => none }
def InspectMissingWrongFalsely : Prop := inspectMissingRow.holds Try.pinned (OpenSpec.ofChange inspectMissingWrong)

/-- 'additivelaw56.InspectLoose': WHATEVER THE INPUT: true; the input reads as it did. -/
def inspectLooseSpec : ChangeSpec := { name := "inspectLoose", fn := fun _ => fun
  | [d1, d2] => { results := [.lit (.bool true)], args := [d1, d2] }
  | _ => none }
def inspectLooseRow : OpenClaim := { program := "ytlfalheciadklaa", sum := "905c8c9ed6d1b02548d6007391a2633c942c6c5d8e657f0b93e2a9fa60fa17ba", func := "additive/additivelaw56.InspectLoose", spec := "inspectLoose", unfollowed := true, recurses := true, apart := false }
def InspectLooseSaid : Prop := inspectLooseRow.holds Try.pinned (OpenSpec.ofChange inspectLooseSpec)

/-- ITS FALSE NEIGHBOUR: 'it returns false'. Refute it at one input. -/
def inspectLooseWrong : ChangeSpec := { name := "inspectLoose", fn := fun _ => fun
  | [d1, d2] => { results := [.lit (.bool false)], args := [d1, d2] }
  | _ => none }
def InspectLooseWrongFalsely : Prop := inspectLooseRow.holds Try.pinned (OpenSpec.ofChange inspectLooseWrong)

/-- 'additivelaw56.InspectEqual': WHATEVER THE INPUT: true; the input reads as it did. -/
def inspectEqualSpec : ChangeSpec := { name := "inspectEqual", fn := fun _ => fun
  | [d1, d2] => { results := [.lit (.bool true)], args := [d1, d2] }
  | _ => none }
def inspectEqualRow : OpenClaim := { program := "ytlfalheciadklaa", sum := "905c8c9ed6d1b02548d6007391a2633c942c6c5d8e657f0b93e2a9fa60fa17ba", func := "additive/additivelaw56.InspectEqual", spec := "inspectEqual", unfollowed := true, recurses := true, apart := false }
def InspectEqualSaid : Prop := inspectEqualRow.holds Try.pinned (OpenSpec.ofChange inspectEqualSpec)

/-- ITS FALSE NEIGHBOUR: 'it returns false'. Refute it at one input. -/
def inspectEqualWrong : ChangeSpec := { name := "inspectEqual", fn := fun _ => fun
  | [d1, d2] => { results := [.lit (.bool false)], args := [d1, d2] }
  | _ => none }
def InspectEqualWrongFalsely : Prop := inspectEqualRow.holds Try.pinned (OpenSpec.ofChange inspectEqualWrong)

/-- 'additivelaw56.InspectLess': WHATEVER THE INPUT: true; the input reads as it did. -/
def inspectLessSpec : ChangeSpec := { name := "inspectLess", fn := fun _ => fun
  | [d1, d2, d3, d4] => { results := [.lit (.bool true)], args := [d1, d2, d3, d4] }
  | _ => none }
def inspectLessRow : OpenClaim := { program := "ytlfalheciadklaa", sum := "905c8c9ed6d1b02548d6007391a2633c942c6c5d8e657f0b93e2a9fa60fa17ba", func := "additive/additivelaw56.InspectLess", spec := "inspectLess", unfollowed := true, recurses := true, apart := false }
def InspectLessSaid : Prop := inspectLessRow.holds Try.pinned (OpenSpec.ofChange inspectLessSpec)

/-- ITS FALSE NEIGHBOUR: 'it returns false'. Refute it at one input. -/
def inspectLessWrong : ChangeSpec := { name := "inspectLess", fn := fun _ => fun
  | [d1, d2, d3, d4] => { results := [.lit (.bool false)], args := [d1, d2, d3, d4] }
  | _ => none }
def InspectLessWrongFalsely : Prop := inspectLessRow.holds Try.pinned (OpenSpec.ofChange inspectLessWrong)

/-- 'additivelaw56.InspectDilates': WHATEVER THE INPUT: true; the input reads as it did. -/
def inspectDilatesSpec : ChangeSpec := { name := "inspectDilates", fn := fun _ => fun
  | [d1, d2, d3] => { results := [.lit (.bool true)], args := [d1, d2, d3] }
  | _ => none }
def inspectDilatesRow : OpenClaim := { program := "ytlfalheciadklaa", sum := "905c8c9ed6d1b02548d6007391a2633c942c6c5d8e657f0b93e2a9fa60fa17ba", func := "additive/additivelaw56.InspectDilates", spec := "inspectDilates", unfollowed := true, recurses := true, apart := false }
def InspectDilatesSaid : Prop := inspectDilatesRow.holds Try.pinned (OpenSpec.ofChange inspectDilatesSpec)

/-- ITS FALSE NEIGHBOUR: 'it returns false'. Refute it at one input. -/
def inspectDilatesWrong : ChangeSpec := { name := "inspectDilates", fn := fun _ => fun
  | [d1, d2, d3] => { results := [.lit (.bool false)], args := [d1, d2, d3] }
  | _ => none }
def InspectDilatesWrongFalsely : Prop := inspectDilatesRow.holds Try.pinned (OpenSpec.ofChange inspectDilatesWrong)

/-- 'additivelaw56.InspectNear': WHATEVER THE INPUT: true; the input reads as it did. -/
def inspectNearSpec : ChangeSpec := { name := "inspectNear", fn := fun _ => fun
  | [d1, d2, d3] => { results := [.lit (.bool true)], args := [d1, d2, d3] }
  | _ => none }
def inspectNearRow : OpenClaim := { program := "ytlfalheciadklaa", sum := "905c8c9ed6d1b02548d6007391a2633c942c6c5d8e657f0b93e2a9fa60fa17ba", func := "additive/additivelaw56.InspectNear", spec := "inspectNear", unfollowed := true, recurses := true, apart := false }
def InspectNearSaid : Prop := inspectNearRow.holds Try.pinned (OpenSpec.ofChange inspectNearSpec)

/-- ITS FALSE NEIGHBOUR: 'it returns false'. Refute it at one input. -/
def inspectNearWrong : ChangeSpec := { name := "inspectNear", fn := fun _ => fun
  | [d1, d2, d3] => { results := [.lit (.bool false)], args := [d1, d2, d3] }
  | _ => none }
def InspectNearWrongFalsely : Prop := inspectNearRow.holds Try.pinned (OpenSpec.ofChange inspectNearWrong)

/-- 'additivelaw30.BridgeFlipped': WHATEVER THE INPUT: true; the input reads as it did. -/
def bridgeFlippedSpec : ChangeSpec := { name := "bridgeFlipped", fn := fun _ => fun
  | [d1, d2] => { results := [.lit (.bool true)], args := [d1, d2] }
  | _ => none }
def bridgeFlippedRow : OpenClaim := { program := "ytlfalheciadklaa", sum := "905c8c9ed6d1b02548d6007391a2633c942c6c5d8e657f0b93e2a9fa60fa17ba", func := "additive/additivelaw30.BridgeFlipped", spec := "bridgeFlipped", unfollowed := true, recurses := true, apart := false }
def BridgeFlippedSaid : Prop := bridgeFlippedRow.holds Try.pinned (OpenSpec.ofChange bridgeFlippedSpec)

/-- ITS FALSE NEIGHBOUR: 'it returns false'. Refute it at one input. -/
def bridgeFlippedWrong : ChangeSpec := { name := "bridgeFlipped", fn := fun _ => fun
  | [d1, d2] => { results := [.lit (.bool false)], args := [d1, d2] }
  | _ => none }
def BridgeFlippedWrongFalsely : Prop := bridgeFlippedRow.holds Try.pinned (OpenSpec.ofChange bridgeFlippedWrong)

/-- 'additivelaw25.ThinDivides': WHATEVER THE INPUT: true; the input reads as it did. -/
def thinDividesSpec : ChangeSpec := { name := "thinDivides", fn := fun _ => fun
  | [d1, d2] => { results := [.lit (.bool true)], args := [d1, d2] }
  | _ => none }
def thinDividesRow : OpenClaim := { program := "ytlfalheciadklaa", sum := "905c8c9ed6d1b02548d6007391a2633c942c6c5d8e657f0b93e2a9fa60fa17ba", func := "additive/additivelaw25.ThinDivides", spec := "thinDivides", unfollowed := true, recurses := true, apart := false }
def ThinDividesSaid : Prop := thinDividesRow.holds Try.pinned (OpenSpec.ofChange thinDividesSpec)

/-- ITS FALSE NEIGHBOUR: 'it returns false'. Refute it at one input. -/
def thinDividesWrong : ChangeSpec := { name := "thinDivides", fn := fun _ => fun
  | [d1, d2] => { results := [.lit (.bool false)], args := [d1, d2] }
  | _ => none }
def ThinDividesWrongFalsely : Prop := thinDividesRow.holds Try.pinned (OpenSpec.ofChange thinDividesWrong)

/-- 'additivelaw30.BridgeNothing': WHATEVER THE INPUT: true; the input reads as it did. -/
def bridgeNothingSpec : ChangeSpec := { name := "bridgeNothing", fn := fun _ => fun
  | [d1, d2] => { results := [.lit (.bool true)], args := [d1, d2] }
  | _ => none }
def bridgeNothingRow : OpenClaim := { program := "ytlfalheciadklaa", sum := "905c8c9ed6d1b02548d6007391a2633c942c6c5d8e657f0b93e2a9fa60fa17ba", func := "additive/additivelaw30.BridgeNothing", spec := "bridgeNothing", unfollowed := true, recurses := true, apart := false }
def BridgeNothingSaid : Prop := bridgeNothingRow.holds Try.pinned (OpenSpec.ofChange bridgeNothingSpec)

/-- ITS FALSE NEIGHBOUR: 'it returns false'. Refute it at one input. -/
def bridgeNothingWrong : ChangeSpec := { name := "bridgeNothing", fn := fun _ => fun
  | [d1, d2] => { results := [.lit (.bool false)], args := [d1, d2] }
  | _ => none }
def BridgeNothingWrongFalsely : Prop := bridgeNothingRow.holds Try.pinned (OpenSpec.ofChange bridgeNothingWrong)

/-- 'additivelaw30.BridgeAnchored': WHATEVER THE INPUT: true; the input reads as it did. -/
def bridgeAnchoredSpec : ChangeSpec := { name := "bridgeAnchored", fn := fun _ => fun
  | [d1, d2] => { results := [.lit (.bool true)], args := [d1, d2] }
  | _ => none }
def bridgeAnchoredRow : OpenClaim := { program := "ytlfalheciadklaa", sum := "905c8c9ed6d1b02548d6007391a2633c942c6c5d8e657f0b93e2a9fa60fa17ba", func := "additive/additivelaw30.BridgeAnchored", spec := "bridgeAnchored", unfollowed := true, recurses := true, apart := false }
def BridgeAnchoredSaid : Prop := bridgeAnchoredRow.holds Try.pinned (OpenSpec.ofChange bridgeAnchoredSpec)

/-- ITS FALSE NEIGHBOUR: 'it returns false'. Refute it at one input. -/
def bridgeAnchoredWrong : ChangeSpec := { name := "bridgeAnchored", fn := fun _ => fun
  | [d1, d2] => { results := [.lit (.bool false)], args := [d1, d2] }
  | _ => none }
def BridgeAnchoredWrongFalsely : Prop := bridgeAnchoredRow.holds Try.pinned (OpenSpec.ofChange bridgeAnchoredWrong)

/- THE SECOND FORM. 'bulk': how many values and letters a reading holds, each counted each time it is reached (what is shared counts as often as it is met; a slice's spare places count too). A statement '..UptoSaid' is the law's where the arguments, and the package variables that the reading takes, are together of bulk at most 1048576: NARROWER than '..Said'. Prove '..Said' where nothing that the law and all that it calls make is longer than what came in: it says more and counts as full. Else prove '..UptoSaid'. A law counts once. -/
mutual
def uptoBulk {H : Type} : DataW H → Nat
  | .lit (.string bytes) => bytes.length + 1
  | .lit _ => 1
  | .nil => 1
  | .ptr d => uptoBulk d + 1
  | .slice elems spare => uptoBulkAll elems + uptoBulkAll spare + 1
  | .agg parts => uptoBulkAll parts + 1
  | .iface _ d => uptoBulk d + 1
  | .map entries => uptoBulkEntries entries + 1
  | .held _ => 1
def uptoBulkAll {H : Type} : List (DataW H) → Nat
  | [] => 0
  | d :: r => uptoBulk d + uptoBulkAll r
def uptoBulkEntries {H : Type} : List (Lit × DataW H) → Nat
  | [] => 0
  | x :: r => uptoBulkEntry x + uptoBulkEntries r
def uptoBulkEntry {H : Type} : Lit × DataW H → Nat
  | (.string bytes, d) => bytes.length + uptoBulk d + 1
  | (_, d) => uptoBulk d + 1
 end
def uptoSmall : (H : Type) → List (DataW H) → Bool := fun _ ds => decide (uptoBulkAll ds ≤ 1048576)
def OpenSpec.upto (s : _root_.Go.ChangeSpec) : _root_.Go.OpenSpec := { _root_.Go.OpenSpec.ofChange s with cond := some uptoSmall }

/-- 'additivelaw56.InspectMissing', WHERE WHAT IT READS IS OF BULK AT MOST 1048576: true; the input reads as it did. -/
def inspectMissingUptoRow : OpenClaim := { program := "ytlfalheciadklaa", sum := "905c8c9ed6d1b02548d6007391a2633c942c6c5d8e657f0b93e2a9fa60fa17ba", func := "additive/additivelaw56.InspectMissing", spec := "inspectMissing", unfollowed := true, recurses := true, apart := false, narrowed := true }
def InspectMissingUptoSaid : Prop := inspectMissingUptoRow.holds Try.pinned (OpenSpec.upto inspectMissingSpec)

/-- 'additivelaw56.InspectLoose', WHERE WHAT IT READS IS OF BULK AT MOST 1048576: true; the input reads as it did. -/
def inspectLooseUptoRow : OpenClaim := { program := "ytlfalheciadklaa", sum := "905c8c9ed6d1b02548d6007391a2633c942c6c5d8e657f0b93e2a9fa60fa17ba", func := "additive/additivelaw56.InspectLoose", spec := "inspectLoose", unfollowed := true, recurses := true, apart := false, narrowed := true }
def InspectLooseUptoSaid : Prop := inspectLooseUptoRow.holds Try.pinned (OpenSpec.upto inspectLooseSpec)

/-- 'additivelaw56.InspectEqual', WHERE WHAT IT READS IS OF BULK AT MOST 1048576: true; the input reads as it did. -/
def inspectEqualUptoRow : OpenClaim := { program := "ytlfalheciadklaa", sum := "905c8c9ed6d1b02548d6007391a2633c942c6c5d8e657f0b93e2a9fa60fa17ba", func := "additive/additivelaw56.InspectEqual", spec := "inspectEqual", unfollowed := true, recurses := true, apart := false, narrowed := true }
def InspectEqualUptoSaid : Prop := inspectEqualUptoRow.holds Try.pinned (OpenSpec.upto inspectEqualSpec)

/-- 'additivelaw56.InspectLess', WHERE WHAT IT READS IS OF BULK AT MOST 1048576: true; the input reads as it did. -/
def inspectLessUptoRow : OpenClaim := { program := "ytlfalheciadklaa", sum := "905c8c9ed6d1b02548d6007391a2633c942c6c5d8e657f0b93e2a9fa60fa17ba", func := "additive/additivelaw56.InspectLess", spec := "inspectLess", unfollowed := true, recurses := true, apart := false, narrowed := true }
def InspectLessUptoSaid : Prop := inspectLessUptoRow.holds Try.pinned (OpenSpec.upto inspectLessSpec)

/-- 'additivelaw56.InspectDilates', WHERE WHAT IT READS IS OF BULK AT MOST 1048576: true; the input reads as it did. -/
def inspectDilatesUptoRow : OpenClaim := { program := "ytlfalheciadklaa", sum := "905c8c9ed6d1b02548d6007391a2633c942c6c5d8e657f0b93e2a9fa60fa17ba", func := "additive/additivelaw56.InspectDilates", spec := "inspectDilates", unfollowed := true, recurses := true, apart := false, narrowed := true }
def InspectDilatesUptoSaid : Prop := inspectDilatesUptoRow.holds Try.pinned (OpenSpec.upto inspectDilatesSpec)

/-- 'additivelaw56.InspectNear', WHERE WHAT IT READS IS OF BULK AT MOST 1048576: true; the input reads as it did. -/
def inspectNearUptoRow : OpenClaim := { program := "ytlfalheciadklaa", sum := "905c8c9ed6d1b02548d6007391a2633c942c6c5d8e657f0b93e2a9fa60fa17ba", func := "additive/additivelaw56.InspectNear", spec := "inspectNear", unfollowed := true, recurses := true, apart := false, narrowed := true }
def InspectNearUptoSaid : Prop := inspectNearUptoRow.holds Try.pinned (OpenSpec.upto inspectNearSpec)

/-- 'additivelaw30.BridgeFlipped', WHERE WHAT IT READS IS OF BULK AT MOST 1048576: true; the input reads as it did. -/
def bridgeFlippedUptoRow : OpenClaim := { program := "ytlfalheciadklaa", sum := "905c8c9ed6d1b02548d6007391a2633c942c6c5d8e657f0b93e2a9fa60fa17ba", func := "additive/additivelaw30.BridgeFlipped", spec := "bridgeFlipped", unfollowed := true, recurses := true, apart := false, narrowed := true }
def BridgeFlippedUptoSaid : Prop := bridgeFlippedUptoRow.holds Try.pinned (OpenSpec.upto bridgeFlippedSpec)

/-- 'additivelaw25.ThinDivides', WHERE WHAT IT READS IS OF BULK AT MOST 1048576: true; the input reads as it did. -/
def thinDividesUptoRow : OpenClaim := { program := "ytlfalheciadklaa", sum := "905c8c9ed6d1b02548d6007391a2633c942c6c5d8e657f0b93e2a9fa60fa17ba", func := "additive/additivelaw25.ThinDivides", spec := "thinDivides", unfollowed := true, recurses := true, apart := false, narrowed := true }
def ThinDividesUptoSaid : Prop := thinDividesUptoRow.holds Try.pinned (OpenSpec.upto thinDividesSpec)

/-- 'additivelaw30.BridgeNothing', WHERE WHAT IT READS IS OF BULK AT MOST 1048576: true; the input reads as it did. -/
def bridgeNothingUptoRow : OpenClaim := { program := "ytlfalheciadklaa", sum := "905c8c9ed6d1b02548d6007391a2633c942c6c5d8e657f0b93e2a9fa60fa17ba", func := "additive/additivelaw30.BridgeNothing", spec := "bridgeNothing", unfollowed := true, recurses := true, apart := false, narrowed := true }
def BridgeNothingUptoSaid : Prop := bridgeNothingUptoRow.holds Try.pinned (OpenSpec.upto bridgeNothingSpec)

/-- 'additivelaw30.BridgeAnchored', WHERE WHAT IT READS IS OF BULK AT MOST 1048576: true; the input reads as it did. -/
def bridgeAnchoredUptoRow : OpenClaim := { program := "ytlfalheciadklaa", sum := "905c8c9ed6d1b02548d6007391a2633c942c6c5d8e657f0b93e2a9fa60fa17ba", func := "additive/additivelaw30.BridgeAnchored", spec := "bridgeAnchored", unfollowed := true, recurses := true, apart := false, narrowed := true }
def BridgeAnchoredUptoSaid : Prop := bridgeAnchoredUptoRow.holds Try.pinned (OpenSpec.upto bridgeAnchoredSpec)

end Rows
end Go.Proofs.Ytlfalheciadklaa
