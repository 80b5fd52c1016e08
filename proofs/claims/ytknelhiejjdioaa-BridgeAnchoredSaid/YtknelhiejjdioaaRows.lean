/-
  No cell of these rows narrows 'for every input' (looked for: loops, veiled, ifaces, maps, wideKeys, modest, calm, conditions, laid).
  DERIVED. THE GIVEN ROWS OF THIS SEAT. 4 by the template 'for every input the law returns true; each argument reads behind the call as it read before'; 0 by the template 'total and deterministic' (their statements: YtknelhiejjdioaaTotals.lean).
  GIVEN WITH THE SEED: the statements are not yours to turn. If you find one false, say at which input.
  Laid BY PROGRAM, IN A SANDBOX (cutbox-rows.mjs): the forced cells as the released guide's own fill.sh prints them over the translation df64376e30bcd0b3… (all of the seat's roots in one cut). By AI agents, Wed Nov 11 2026. No macro, syntax, notation, axiom, sorry.
-/
import Derived.Test.YtknelhiejjdioaaChecked
import GoSem.Claim
import GoSem.ClaimJoined
import GoSem.ClaimMapViews
import Derived.JoinedTies
import Derived.KernelRfl
namespace Go.Proofs.Ytknelhiejjdioaa
/- THE CELL 'sum', in the pinned program and in every row, IS THE sha256 OF THE DUMP (.gsa) THAT YtknelhiejjdioaaProg.lean LOADS. Nothing in Lean hashes anything: it is a label: what it is worth is what the hold of that sum in a sandbox is worth. -/
noncomputable def Try.pinned : Pinned := { name := "ytknelhiejjdioaa", sum := "df64376e30bcd0b3032cda12bbbcc243e1da0002c8e3c0a33063955a09a246e8", checked := Try.checked }
namespace Rows
def none {H : Type} : Left H := { results := [], args := [] }

/-- 'additivelaw30.BridgeFlipped': WHATEVER THE INPUT: true; the input reads as it did. -/
def bridgeFlippedSpec : ChangeSpec := { name := "bridgeFlipped", fn := fun _ => fun
  | [d1, d2] => { results := [.lit (.bool true)], args := [d1, d2] }
  | _ => none }
def bridgeFlippedRow : OpenClaim := { program := "ytknelhiejjdioaa", sum := "df64376e30bcd0b3032cda12bbbcc243e1da0002c8e3c0a33063955a09a246e8", func := "additive/additivelaw30.BridgeFlipped", spec := "bridgeFlipped", unfollowed := true, recurses := true, apart := false }
def BridgeFlippedSaid : Prop := bridgeFlippedRow.holds Try.pinned (OpenSpec.ofChange bridgeFlippedSpec)

/-- ITS FALSE NEIGHBOUR: 'it returns false'. Refute it at one input. -/
def bridgeFlippedWrong : ChangeSpec := { name := "bridgeFlipped", fn := fun _ => fun
  | [d1, d2] => { results := [.lit (.bool false)], args := [d1, d2] }
  | _ => none }
def BridgeFlippedWrongFalsely : Prop := bridgeFlippedRow.holds Try.pinned (OpenSpec.ofChange bridgeFlippedWrong)

/-- 'additivelaw25.ThinDivides': WHATEVER THE INPUT: true; the input reads as it did. -/
def thinDividesSpec : ChangeSpec := { name := "thinDivides", fn := fun _ => fun
  | [d1, d2] => { results := [.lit (.bool true)], args := [d1, d2] }
  | _ => none }
def thinDividesRow : OpenClaim := { program := "ytknelhiejjdioaa", sum := "df64376e30bcd0b3032cda12bbbcc243e1da0002c8e3c0a33063955a09a246e8", func := "additive/additivelaw25.ThinDivides", spec := "thinDivides", unfollowed := true, recurses := true, apart := false }
def ThinDividesSaid : Prop := thinDividesRow.holds Try.pinned (OpenSpec.ofChange thinDividesSpec)

/-- ITS FALSE NEIGHBOUR: 'it returns false'. Refute it at one input. -/
def thinDividesWrong : ChangeSpec := { name := "thinDivides", fn := fun _ => fun
  | [d1, d2] => { results := [.lit (.bool false)], args := [d1, d2] }
  | _ => none }
def ThinDividesWrongFalsely : Prop := thinDividesRow.holds Try.pinned (OpenSpec.ofChange thinDividesWrong)

/-- 'additivelaw30.BridgeNothing': WHATEVER THE INPUT: true; the input reads as it did. -/
def bridgeNothingSpec : ChangeSpec := { name := "bridgeNothing", fn := fun _ => fun
  | [d1, d2] => { results := [.lit (.bool true)], args := [d1, d2] }
  | _ => none }
def bridgeNothingRow : OpenClaim := { program := "ytknelhiejjdioaa", sum := "df64376e30bcd0b3032cda12bbbcc243e1da0002c8e3c0a33063955a09a246e8", func := "additive/additivelaw30.BridgeNothing", spec := "bridgeNothing", unfollowed := true, recurses := true, apart := false }
def BridgeNothingSaid : Prop := bridgeNothingRow.holds Try.pinned (OpenSpec.ofChange bridgeNothingSpec)

/-- ITS FALSE NEIGHBOUR: 'it returns false'. Refute it at one input. -/
def bridgeNothingWrong : ChangeSpec := { name := "bridgeNothing", fn := fun _ => fun
  | [d1, d2] => { results := [.lit (.bool false)], args := [d1, d2] }
  | _ => none }
def BridgeNothingWrongFalsely : Prop := bridgeNothingRow.holds Try.pinned (OpenSpec.ofChange bridgeNothingWrong)

/-- 'additivelaw30.BridgeAnchored': WHATEVER THE INPUT: true; the input reads as it did. -/
def bridgeAnchoredSpec : ChangeSpec := { name := "bridgeAnchored", fn := fun _ => fun
  | [d1, d2] => { results := [.lit (.bool true)], args := [d1, d2] }
  | _ => none }
def bridgeAnchoredRow : OpenClaim := { program := "ytknelhiejjdioaa", sum := "df64376e30bcd0b3032cda12bbbcc243e1da0002c8e3c0a33063955a09a246e8", func := "additive/additivelaw30.BridgeAnchored", spec := "bridgeAnchored", unfollowed := true, recurses := true, apart := false }
def BridgeAnchoredSaid : Prop := bridgeAnchoredRow.holds Try.pinned (OpenSpec.ofChange bridgeAnchoredSpec)

/-- ITS FALSE NEIGHBOUR: 'it returns false'. Refute it at one input. -/
def bridgeAnchoredWrong : ChangeSpec := { name := "bridgeAnchored", fn := fun _ => fun
  | [d1, d2] => { results := [.lit (.bool false)], args := [d1, d2] }
  | _ => none }
def BridgeAnchoredWrongFalsely : Prop := bridgeAnchoredRow.holds Try.pinned (OpenSpec.ofChange bridgeAnchoredWrong)

/- THE SECOND FORM. 'bulk': how many values and letters a reading holds, each counted each time it is reached (what is shared counts as often as it is met; a slice's spare places count too). A statement '..UptoSaid' is the law's where the arguments, and the package variables that the reading takes, are together of bulk at most 1048576: NARROWER than '..Said'. Prove '..Said' where nothing that the law and all that it calls make is longer than what came in: it says more and counts as full. Else prove '..UptoSaid'. A law counts once. -/
mutual
def uptoBulk {H : Type} : DataW H → Nat
  | .lit (.string bytes) => bytes.length + 1
  | .lit _ => 1
  | .nil => 1
  | .ptr d => uptoBulk d + 1
  | .slice elems spare => uptoBulkAll elems + uptoBulkAll spare + 1
  | .agg parts => uptoBulkAll parts + 1
  | .iface _ d => uptoBulk d + 1
  | .map entries => uptoBulkEntries entries + 1
  | .held _ => 1
def uptoBulkAll {H : Type} : List (DataW H) → Nat
  | [] => 0
  | d :: r => uptoBulk d + uptoBulkAll r
def uptoBulkEntries {H : Type} : List (Lit × DataW H) → Nat
  | [] => 0
  | x :: r => uptoBulkEntry x + uptoBulkEntries r
def uptoBulkEntry {H : Type} : Lit × DataW H → Nat
  | (.string bytes, d) => bytes.length + uptoBulk d + 1
  | (_, d) => uptoBulk d + 1
 end
def uptoSmall : (H : Type) → List (DataW H) → Bool := fun _ ds => decide (uptoBulkAll ds ≤ 1048576)
def OpenSpec.upto (s : _root_.Go.ChangeSpec) : _root_.Go.OpenSpec := { _root_.Go.OpenSpec.ofChange s with cond := some uptoSmall }

/-- 'additivelaw30.BridgeFlipped', WHERE WHAT IT READS IS OF BULK AT MOST 1048576: true; the input reads as it did. -/
def bridgeFlippedUptoRow : OpenClaim := { program := "ytknelhiejjdioaa", sum := "df64376e30bcd0b3032cda12bbbcc243e1da0002c8e3c0a33063955a09a246e8", func := "additive/additivelaw30.BridgeFlipped", spec := "bridgeFlipped", unfollowed := true, recurses := true, apart := false, narrowed := true }
def BridgeFlippedUptoSaid : Prop := bridgeFlippedUptoRow.holds Try.pinned (OpenSpec.upto bridgeFlippedSpec)

/-- 'additivelaw25.ThinDivides', WHERE WHAT IT READS IS OF BULK AT MOST 1048576: true; the input reads as it did. -/
def thinDividesUptoRow : OpenClaim := { program := "ytknelhiejjdioaa", sum := "df64376e30bcd0b3032cda12bbbcc243e1da0002c8e3c0a33063955a09a246e8", func := "additive/additivelaw25.ThinDivides", spec := "thinDivides", unfollowed := true, recurses := true, apart := false, narrowed := true }
def ThinDividesUptoSaid : Prop := thinDividesUptoRow.holds Try.pinned (OpenSpec.upto thinDividesSpec)

/-- 'additivelaw30.BridgeNothing', WHERE WHAT IT READS IS OF BULK AT MOST 1048576: true; the input reads as it did. -/
def bridgeNothingUptoRow : OpenClaim := { program := "ytknelhiejjdioaa", sum := "df64376e30bcd0b3032cda12bbbcc243e1da0002c8e3c0a33063955a09a246e8", func := "additive/additivelaw30.BridgeNothing", spec := "bridgeNothing", unfollowed := true, recurses := true, apart := false, narrowed := true }
def BridgeNothingUptoSaid : Prop := bridgeNothingUptoRow.holds Try.pinned (OpenSpec.upto bridgeNothingSpec)

/-- 'additivelaw30.BridgeAnchored', WHERE WHAT IT READS IS OF BULK AT MOST 1048576: true; the input reads as it did. -/
def bridgeAnchoredUptoRow : OpenClaim := { program := "ytknelhiejjdioaa", sum := "df64376e30bcd0b3032cda12bbbcc243e1da0002c8e3c0a33063955a09a246e8", func := "additive/additivelaw30.BridgeAnchored", spec := "bridgeAnchored", unfollowed := true, recurses := true, apart := false, narrowed := true }
def BridgeAnchoredUptoSaid : Prop := bridgeAnchoredUptoRow.holds Try.pinned (OpenSpec.upto bridgeAnchoredSpec)

end Rows
end Go.Proofs.Ytknelhiejjdioaa
