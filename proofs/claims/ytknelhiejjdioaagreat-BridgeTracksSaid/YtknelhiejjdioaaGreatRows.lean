/-
  No cell of these rows narrows 'for every input' (looked for: loops, veiled, ifaces, maps, wideKeys, modest, calm, conditions, laid).
  DERIVED. THE GIVEN ROWS OF THIS SEAT. 3 by the template 'for every input the law returns true; each argument reads behind the call as it read before'; 0 by the template 'total and deterministic' (their statements: YtknelhiejjdioaaGreatTotals.lean).
  GIVEN WITH THE SEED: the statements are not yours to turn. If you find one false, say at which input.
  Laid BY PROGRAM, IN A SANDBOX (cutbox-rows.mjs): the forced cells as the released guide's own fill.sh prints them over the translation 5189c8f5de0c15e0… (all of the seat's roots in one cut). By AI agents, Wed Nov 11 2026. No macro, syntax, notation, axiom, sorry.
-/
import Derived.Test.YtknelhiejjdioaaGreatChecked
import GoSem.Claim
import GoSem.ClaimJoined
import GoSem.ClaimMapViews
import Derived.JoinedTies
import Derived.KernelRfl
namespace Go.Proofs.YtknelhiejjdioaaGreat
/- THE CELL 'sum', in the pinned program and in every row, IS THE sha256 OF THE DUMP (.gsa) THAT YtknelhiejjdioaaGreatProg.lean LOADS. Nothing in Lean hashes anything: it is a label: what it is worth is what the hold of that sum in a sandbox is worth. -/
noncomputable def Tryz.pinned : Pinned := { name := "ytknelhiejjdioaagreat", sum := "5189c8f5de0c15e04b607e6720e9d6962950f862ec56b9a9b42a679afe2193f1", checked := Tryz.checked }
namespace Rows
def none {H : Type} : Left H := { results := [], args := [] }

/-- 'additivelaw25.ThinSplits': WHATEVER THE INPUT: true; the input reads as it did. -/
def thinSplitsSpec : ChangeSpec := { name := "thinSplits", fn := fun _ => fun
  | [d] => { results := [.lit (.bool true)], args := [d] }
  | _ => none }
def thinSplitsRow : OpenClaim := { program := "ytknelhiejjdioaagreat", sum := "5189c8f5de0c15e04b607e6720e9d6962950f862ec56b9a9b42a679afe2193f1", func := "additive/additivelaw25.ThinSplits", spec := "thinSplits", unfollowed := true, recurses := true, apart := false }
def ThinSplitsSaid : Prop := thinSplitsRow.holds Tryz.pinned (OpenSpec.ofChange thinSplitsSpec)

/-- ITS FALSE NEIGHBOUR: 'it returns false'. Refute it at one input. -/
def thinSplitsWrong : ChangeSpec := { name := "thinSplits", fn := fun _ => fun
  | [d] => { results := [.lit (.bool false)], args := [d] }
  | _ => none }
def ThinSplitsWrongFalsely : Prop := thinSplitsRow.holds Tryz.pinned (OpenSpec.ofChange thinSplitsWrong)

/-- 'additivelaw30.BridgeTracks': WHATEVER THE INPUT: true; the input reads as it did. -/
def bridgeTracksSpec : ChangeSpec := { name := "bridgeTracks", fn := fun _ => fun
  | [d1, d2] => { results := [.lit (.bool true)], args := [d1, d2] }
  | _ => none }
def bridgeTracksRow : OpenClaim := { program := "ytknelhiejjdioaagreat", sum := "5189c8f5de0c15e04b607e6720e9d6962950f862ec56b9a9b42a679afe2193f1", func := "additive/additivelaw30.BridgeTracks", spec := "bridgeTracks", unfollowed := true, recurses := true, apart := false }
def BridgeTracksSaid : Prop := bridgeTracksRow.holds Tryz.pinned (OpenSpec.ofChange bridgeTracksSpec)

/-- ITS FALSE NEIGHBOUR: 'it returns false'. Refute it at one input. -/
def bridgeTracksWrong : ChangeSpec := { name := "bridgeTracks", fn := fun _ => fun
  | [d1, d2] => { results := [.lit (.bool false)], args := [d1, d2] }
  | _ => none }
def BridgeTracksWrongFalsely : Prop := bridgeTracksRow.holds Tryz.pinned (OpenSpec.ofChange bridgeTracksWrong)

/-- 'additivelaw30.BridgeLoose': WHATEVER THE INPUT: true; the input reads as it did. -/
def bridgeLooseSpec : ChangeSpec := { name := "bridgeLoose", fn := fun _ => fun
  | [d1, d2, d3] => { results := [.lit (.bool true)], args := [d1, d2, d3] }
  | _ => none }
def bridgeLooseRow : OpenClaim := { program := "ytknelhiejjdioaagreat", sum := "5189c8f5de0c15e04b607e6720e9d6962950f862ec56b9a9b42a679afe2193f1", func := "additive/additivelaw30.BridgeLoose", spec := "bridgeLoose", unfollowed := true, recurses := true, apart := false }
def BridgeLooseSaid : Prop := bridgeLooseRow.holds Tryz.pinned (OpenSpec.ofChange bridgeLooseSpec)

/-- ITS FALSE NEIGHBOUR: 'it returns false'. Refute it at one input. -/
def bridgeLooseWrong : ChangeSpec := { name := "bridgeLoose", fn := fun _ => fun
  | [d1, d2, d3] => { results := [.lit (.bool false)], args := [d1, d2, d3] }
  | _ => none }
def BridgeLooseWrongFalsely : Prop := bridgeLooseRow.holds Tryz.pinned (OpenSpec.ofChange bridgeLooseWrong)

/- THE SECOND FORM. 'bulk': how many values and letters a reading holds, each counted each time it is reached (what is shared counts as often as it is met; a slice's spare places count too). A statement '..UptoSaid' is the law's where the arguments, and the package variables that the reading takes, are together of bulk at most 1048576: NARROWER than '..Said'. Prove '..Said' where nothing that the law and all that it calls make is longer than what came in: it says more and counts as full. Else prove '..UptoSaid'. A law counts once. -/
mutual
def uptoBulk {H : Type} : DataW H → Nat
  | .lit (.string bytes) => bytes.length + 1
  | .lit _ => 1
  | .nil => 1
  | .ptr d => uptoBulk d + 1
  | .slice elems spare => uptoBulkAll elems + uptoBulkAll spare + 1
  | .agg parts => uptoBulkAll parts + 1
  | .iface _ d => uptoBulk d + 1
  | .map entries => uptoBulkEntries entries + 1
  | .held _ => 1
def uptoBulkAll {H : Type} : List (DataW H) → Nat
  | [] => 0
  | d :: r => uptoBulk d + uptoBulkAll r
def uptoBulkEntries {H : Type} : List (Lit × DataW H) → Nat
  | [] => 0
  | x :: r => uptoBulkEntry x + uptoBulkEntries r
def uptoBulkEntry {H : Type} : Lit × DataW H → Nat
  | (.string bytes, d) => bytes.length + uptoBulk d + 1
  | (_, d) => uptoBulk d + 1
 end
def uptoSmall : (H : Type) → List (DataW H) → Bool := fun _ ds => decide (uptoBulkAll ds ≤ 1048576)
def OpenSpec.upto (s : _root_.Go.ChangeSpec) : _root_.Go.OpenSpec := { _root_.Go.OpenSpec.ofChange s with cond := some uptoSmall }

/-- 'additivelaw25.ThinSplits', WHERE WHAT IT READS IS OF BULK AT MOST 1048576: true; the input reads as it did. -/
def thinSplitsUptoRow : OpenClaim := { program := "ytknelhiejjdioaagreat", sum := "5189c8f5de0c15e04b607e6720e9d6962950f862ec56b9a9b42a679afe2193f1", func := "additive/additivelaw25.ThinSplits", spec := "thinSplits", unfollowed := true, recurses := true, apart := false, narrowed := true }
def ThinSplitsUptoSaid : Prop := thinSplitsUptoRow.holds Tryz.pinned (OpenSpec.upto thinSplitsSpec)

/-- 'additivelaw30.BridgeTracks', WHERE WHAT IT READS IS OF BULK AT MOST 1048576: true; the input reads as it did. -/
def bridgeTracksUptoRow : OpenClaim := { program := "ytknelhiejjdioaagreat", sum := "5189c8f5de0c15e04b607e6720e9d6962950f862ec56b9a9b42a679afe2193f1", func := "additive/additivelaw30.BridgeTracks", spec := "bridgeTracks", unfollowed := true, recurses := true, apart := false, narrowed := true }
def BridgeTracksUptoSaid : Prop := bridgeTracksUptoRow.holds Tryz.pinned (OpenSpec.upto bridgeTracksSpec)

/-- 'additivelaw30.BridgeLoose', WHERE WHAT IT READS IS OF BULK AT MOST 1048576: true; the input reads as it did. -/
def bridgeLooseUptoRow : OpenClaim := { program := "ytknelhiejjdioaagreat", sum := "5189c8f5de0c15e04b607e6720e9d6962950f862ec56b9a9b42a679afe2193f1", func := "additive/additivelaw30.BridgeLoose", spec := "bridgeLoose", unfollowed := true, recurses := true, apart := false, narrowed := true }
def BridgeLooseUptoSaid : Prop := bridgeLooseUptoRow.holds Tryz.pinned (OpenSpec.upto bridgeLooseSpec)

end Rows
end Go.Proofs.YtknelhiejjdioaaGreat
