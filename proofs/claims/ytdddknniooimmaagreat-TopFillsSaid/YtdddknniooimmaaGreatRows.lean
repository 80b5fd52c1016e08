/-
  No cell of these rows narrows 'for every input' (looked for: loops, veiled, ifaces, maps, wideKeys, modest, calm, conditions, laid).
  DERIVED. THE GIVEN ROWS OF THIS SEAT. 7 by the template 'for every input the law returns true; each argument reads behind the call as it read before'; 0 by the template 'total and deterministic' (their statements: YtdddknniooimmaaGreatTotals.lean).
  GIVEN WITH THE SEED: the statements are not yours to turn. If you find one false, say at which input.
  Laid BY PROGRAM, IN A SANDBOX (cutbox-rows.mjs): the forced cells as the released guide's own fill.sh prints them over the translation 3866791fe1bb8458… (all of the seat's roots in one cut). By AI agents, Wed Nov 11 2026. No macro, syntax, notation, axiom, sorry.
-/
import Derived.Test.YtdddknniooimmaaGreatChecked
import GoSem.Claim
import GoSem.ClaimJoined
import GoSem.ClaimMapViews
import Derived.JoinedTies
import Derived.KernelRfl
namespace Go.Proofs.YtdddknniooimmaaGreat
/- THE CELL 'sum', in the pinned program and in every row, IS THE sha256 OF THE DUMP (.gsa) THAT YtdddknniooimmaaGreatProg.lean LOADS. Nothing in Lean hashes anything: it is a label: what it is worth is what the hold of that sum in a sandbox is worth. -/
noncomputable def Tryz.pinned : Pinned := { name := "ytdddknniooimmaagreat", sum := "3866791fe1bb84580830042594889e060ea914180b28902e38d737f7cd9271c3", checked := Tryz.checked }
namespace Rows
def none {H : Type} : Left H := { results := [], args := [] }

/-- 'additivetop.TopParts': WHATEVER THE INPUT: true; the input reads as it did. -/
def topPartsSpec : ChangeSpec := { name := "topParts", fn := fun _ => fun
  | [d] => { results := [.lit (.bool true)], args := [d] }
  | _ => none }
def topPartsRow : OpenClaim := { program := "ytdddknniooimmaagreat", sum := "3866791fe1bb84580830042594889e060ea914180b28902e38d737f7cd9271c3", func := "additive/additivetop.TopParts", spec := "topParts", unfollowed := true, recurses := true, plainKeys := false, apart := false }
def TopPartsSaid : Prop := topPartsRow.holds Tryz.pinned (OpenSpec.ofChange topPartsSpec)

/-- ITS FALSE NEIGHBOUR: 'it returns false'. Refute it at one input. -/
def topPartsWrong : ChangeSpec := { name := "topParts", fn := fun _ => fun
  | [d] => { results := [.lit (.bool false)], args := [d] }
  | _ => none }
def TopPartsWrongFalsely : Prop := topPartsRow.holds Tryz.pinned (OpenSpec.ofChange topPartsWrong)

/-- 'additivetop.TopFills': WHATEVER THE INPUT: true; the input reads as it did. -/
def topFillsSpec : ChangeSpec := { name := "topFills", fn := fun _ => fun
  | [d1, d2] => { results := [.lit (.bool true)], args := [d1, d2] }
  | _ => none }
def topFillsRow : OpenClaim := { program := "ytdddknniooimmaagreat", sum := "3866791fe1bb84580830042594889e060ea914180b28902e38d737f7cd9271c3", func := "additive/additivetop.TopFills", spec := "topFills", unfollowed := true, recurses := true, plainKeys := false, apart := false }
def TopFillsSaid : Prop := topFillsRow.holds Tryz.pinned (OpenSpec.ofChange topFillsSpec)

/-- ITS FALSE NEIGHBOUR: 'it returns false'. Refute it at one input. -/
def topFillsWrong : ChangeSpec := { name := "topFills", fn := fun _ => fun
  | [d1, d2] => { results := [.lit (.bool false)], args := [d1, d2] }
  | _ => none }
def TopFillsWrongFalsely : Prop := topFillsRow.holds Tryz.pinned (OpenSpec.ofChange topFillsWrong)

/-- 'additivelaw22.BoundaryTraces': WHATEVER THE INPUT: true; the input reads as it did. -/
def boundaryTracesSpec : ChangeSpec := { name := "boundaryTraces", fn := fun _ => fun
  | [d] => { results := [.lit (.bool true)], args := [d] }
  | _ => none }
def boundaryTracesRow : OpenClaim := { program := "ytdddknniooimmaagreat", sum := "3866791fe1bb84580830042594889e060ea914180b28902e38d737f7cd9271c3", func := "additive/additivelaw22.BoundaryTraces", spec := "boundaryTraces", unfollowed := true, recurses := true, plainKeys := false, apart := false }
def BoundaryTracesSaid : Prop := boundaryTracesRow.holds Tryz.pinned (OpenSpec.ofChange boundaryTracesSpec)

/-- ITS FALSE NEIGHBOUR: 'it returns false'. Refute it at one input. -/
def boundaryTracesWrong : ChangeSpec := { name := "boundaryTraces", fn := fun _ => fun
  | [d] => { results := [.lit (.bool false)], args := [d] }
  | _ => none }
def BoundaryTracesWrongFalsely : Prop := boundaryTracesRow.holds Tryz.pinned (OpenSpec.ofChange boundaryTracesWrong)

/-- 'additivelaw22.BoundaryBacks': WHATEVER THE INPUT: true; the input reads as it did. -/
def boundaryBacksSpec : ChangeSpec := { name := "boundaryBacks", fn := fun _ => fun
  | [d] => { results := [.lit (.bool true)], args := [d] }
  | _ => none }
def boundaryBacksRow : OpenClaim := { program := "ytdddknniooimmaagreat", sum := "3866791fe1bb84580830042594889e060ea914180b28902e38d737f7cd9271c3", func := "additive/additivelaw22.BoundaryBacks", spec := "boundaryBacks", unfollowed := true, recurses := true, plainKeys := false, apart := false }
def BoundaryBacksSaid : Prop := boundaryBacksRow.holds Tryz.pinned (OpenSpec.ofChange boundaryBacksSpec)

/-- ITS FALSE NEIGHBOUR: 'it returns false'. Refute it at one input. -/
def boundaryBacksWrong : ChangeSpec := { name := "boundaryBacks", fn := fun _ => fun
  | [d] => { results := [.lit (.bool false)], args := [d] }
  | _ => none }
def BoundaryBacksWrongFalsely : Prop := boundaryBacksRow.holds Tryz.pinned (OpenSpec.ofChange boundaryBacksWrong)

/-- 'additivelaw22.BoundaryBack': WHATEVER THE INPUT: true; the input reads as it did. -/
def boundaryBackSpec : ChangeSpec := { name := "boundaryBack", fn := fun _ => fun
  | [d] => { results := [.lit (.bool true)], args := [d] }
  | _ => none }
def boundaryBackRow : OpenClaim := { program := "ytdddknniooimmaagreat", sum := "3866791fe1bb84580830042594889e060ea914180b28902e38d737f7cd9271c3", func := "additive/additivelaw22.BoundaryBack", spec := "boundaryBack", unfollowed := true, recurses := true, plainKeys := false, apart := false }
def BoundaryBackSaid : Prop := boundaryBackRow.holds Tryz.pinned (OpenSpec.ofChange boundaryBackSpec)

/-- ITS FALSE NEIGHBOUR: 'it returns false'. Refute it at one input. -/
def boundaryBackWrong : ChangeSpec := { name := "boundaryBack", fn := fun _ => fun
  | [d] => { results := [.lit (.bool false)], args := [d] }
  | _ => none }
def BoundaryBackWrongFalsely : Prop := boundaryBackRow.holds Tryz.pinned (OpenSpec.ofChange boundaryBackWrong)

/-- 'additivelaw22.BoundaryEdges': WHATEVER THE INPUT: true; the input reads as it did. -/
def boundaryEdgesSpec : ChangeSpec := { name := "boundaryEdges", fn := fun _ => fun
  | [d] => { results := [.lit (.bool true)], args := [d] }
  | _ => none }
def boundaryEdgesRow : OpenClaim := { program := "ytdddknniooimmaagreat", sum := "3866791fe1bb84580830042594889e060ea914180b28902e38d737f7cd9271c3", func := "additive/additivelaw22.BoundaryEdges", spec := "boundaryEdges", unfollowed := true, recurses := true, plainKeys := false, apart := false }
def BoundaryEdgesSaid : Prop := boundaryEdgesRow.holds Tryz.pinned (OpenSpec.ofChange boundaryEdgesSpec)

/-- ITS FALSE NEIGHBOUR: 'it returns false'. Refute it at one input. -/
def boundaryEdgesWrong : ChangeSpec := { name := "boundaryEdges", fn := fun _ => fun
  | [d] => { results := [.lit (.bool false)], args := [d] }
  | _ => none }
def BoundaryEdgesWrongFalsely : Prop := boundaryEdgesRow.holds Tryz.pinned (OpenSpec.ofChange boundaryEdgesWrong)

/-- 'additivelaw22.BoundaryMoves': WHATEVER THE INPUT: true; the input reads as it did. -/
def boundaryMovesSpec : ChangeSpec := { name := "boundaryMoves", fn := fun _ => fun
  | [d1, d2, d3] => { results := [.lit (.bool true)], args := [d1, d2, d3] }
  | _ => none }
def boundaryMovesRow : OpenClaim := { program := "ytdddknniooimmaagreat", sum := "3866791fe1bb84580830042594889e060ea914180b28902e38d737f7cd9271c3", func := "additive/additivelaw22.BoundaryMoves", spec := "boundaryMoves", unfollowed := true, recurses := true, plainKeys := false, apart := false }
def BoundaryMovesSaid : Prop := boundaryMovesRow.holds Tryz.pinned (OpenSpec.ofChange boundaryMovesSpec)

/-- ITS FALSE NEIGHBOUR: 'it returns false'. Refute it at one input. -/
def boundaryMovesWrong : ChangeSpec := { name := "boundaryMoves", fn := fun _ => fun
  | [d1, d2, d3] => { results := [.lit (.bool false)], args := [d1, d2, d3] }
  | _ => none }
def BoundaryMovesWrongFalsely : Prop := boundaryMovesRow.holds Tryz.pinned (OpenSpec.ofChange boundaryMovesWrong)

/- THE SECOND FORM. 'bulk': how many values and letters a reading holds, each counted each time it is reached (what is shared counts as often as it is met; a slice's spare places count too). A statement '..UptoSaid' is the law's where the arguments, and the package variables that the reading takes, are together of bulk at most 1048576: NARROWER than '..Said'. Prove '..Said' where nothing that the law and all that it calls make is longer than what came in: it says more and counts as full. Else prove '..UptoSaid'. A law counts once. -/
mutual
def uptoBulk {H : Type} : DataW H → Nat
  | .lit (.string bytes) => bytes.length + 1
  | .lit _ => 1
  | .nil => 1
  | .ptr d => uptoBulk d + 1
  | .slice elems spare => uptoBulkAll elems + uptoBulkAll spare + 1
  | .agg parts => uptoBulkAll parts + 1
  | .iface _ d => uptoBulk d + 1
  | .map entries => uptoBulkEntries entries + 1
  | .held _ => 1
def uptoBulkAll {H : Type} : List (DataW H) → Nat
  | [] => 0
  | d :: r => uptoBulk d + uptoBulkAll r
def uptoBulkEntries {H : Type} : List (Lit × DataW H) → Nat
  | [] => 0
  | x :: r => uptoBulkEntry x + uptoBulkEntries r
def uptoBulkEntry {H : Type} : Lit × DataW H → Nat
  | (.string bytes, d) => bytes.length + uptoBulk d + 1
  | (_, d) => uptoBulk d + 1
 end
def uptoSmall : (H : Type) → List (DataW H) → Bool := fun _ ds => decide (uptoBulkAll ds ≤ 1048576)
def OpenSpec.upto (s : _root_.Go.ChangeSpec) : _root_.Go.OpenSpec := { _root_.Go.OpenSpec.ofChange s with cond := some uptoSmall }

/-- 'additivetop.TopParts', WHERE WHAT IT READS IS OF BULK AT MOST 1048576: true; the input reads as it did. -/
def topPartsUptoRow : OpenClaim := { program := "ytdddknniooimmaagreat", sum := "3866791fe1bb84580830042594889e060ea914180b28902e38d737f7cd9271c3", func := "additive/additivetop.TopParts", spec := "topParts", unfollowed := true, recurses := true, plainKeys := false, apart := false, narrowed := true }
def TopPartsUptoSaid : Prop := topPartsUptoRow.holds Tryz.pinned (OpenSpec.upto topPartsSpec)

/-- 'additivetop.TopFills', WHERE WHAT IT READS IS OF BULK AT MOST 1048576: true; the input reads as it did. -/
def topFillsUptoRow : OpenClaim := { program := "ytdddknniooimmaagreat", sum := "3866791fe1bb84580830042594889e060ea914180b28902e38d737f7cd9271c3", func := "additive/additivetop.TopFills", spec := "topFills", unfollowed := true, recurses := true, plainKeys := false, apart := false, narrowed := true }
def TopFillsUptoSaid : Prop := topFillsUptoRow.holds Tryz.pinned (OpenSpec.upto topFillsSpec)

/-- 'additivelaw22.BoundaryTraces', WHERE WHAT IT READS IS OF BULK AT MOST 1048576: true; the input reads as it did. -/
def boundaryTracesUptoRow : OpenClaim := { program := "ytdddknniooimmaagreat", sum := "3866791fe1bb84580830042594889e060ea914180b28902e38d737f7cd9271c3", func := "additive/additivelaw22.BoundaryTraces", spec := "boundaryTraces", unfollowed := true, recurses := true, plainKeys := false, apart := false, narrowed := true }
def BoundaryTracesUptoSaid : Prop := boundaryTracesUptoRow.holds Tryz.pinned (OpenSpec.upto boundaryTracesSpec)

/-- 'additivelaw22.BoundaryBacks', WHERE WHAT IT READS IS OF BULK AT MOST 1048576: true; the input reads as it did. -/
def boundaryBacksUptoRow : OpenClaim := { program := "ytdddknniooimmaagreat", sum := "3866791fe1bb84580830042594889e060ea914180b28902e38d737f7cd9271c3", func := "additive/additivelaw22.BoundaryBacks", spec := "boundaryBacks", unfollowed := true, recurses := true, plainKeys := false, apart := false, narrowed := true }
def BoundaryBacksUptoSaid : Prop := boundaryBacksUptoRow.holds Tryz.pinned (OpenSpec.upto boundaryBacksSpec)

/-- 'additivelaw22.BoundaryBack', WHERE WHAT IT READS IS OF BULK AT MOST 1048576: true; the input reads as it did. -/
def boundaryBackUptoRow : OpenClaim := { program := "ytdddknniooimmaagreat", sum := "3866791fe1bb84580830042594889e060ea914180b28902e38d737f7cd9271c3", func := "additive/additivelaw22.BoundaryBack", spec := "boundaryBack", unfollowed := true, recurses := true, plainKeys := false, apart := false, narrowed := true }
def BoundaryBackUptoSaid : Prop := boundaryBackUptoRow.holds Tryz.pinned (OpenSpec.upto boundaryBackSpec)

/-- 'additivelaw22.BoundaryEdges', WHERE WHAT IT READS IS OF BULK AT MOST 1048576: true; the input reads as it did. -/
def boundaryEdgesUptoRow : OpenClaim := { program := "ytdddknniooimmaagreat", sum := "3866791fe1bb84580830042594889e060ea914180b28902e38d737f7cd9271c3", func := "additive/additivelaw22.BoundaryEdges", spec := "boundaryEdges", unfollowed := true, recurses := true, plainKeys := false, apart := false, narrowed := true }
def BoundaryEdgesUptoSaid : Prop := boundaryEdgesUptoRow.holds Tryz.pinned (OpenSpec.upto boundaryEdgesSpec)

/-- 'additivelaw22.BoundaryMoves', WHERE WHAT IT READS IS OF BULK AT MOST 1048576: true; the input reads as it did. -/
def boundaryMovesUptoRow : OpenClaim := { program := "ytdddknniooimmaagreat", sum := "3866791fe1bb84580830042594889e060ea914180b28902e38d737f7cd9271c3", func := "additive/additivelaw22.BoundaryMoves", spec := "boundaryMoves", unfollowed := true, recurses := true, plainKeys := false, apart := false, narrowed := true }
def BoundaryMovesUptoSaid : Prop := boundaryMovesUptoRow.holds Tryz.pinned (OpenSpec.upto boundaryMovesSpec)

end Rows
end Go.Proofs.YtdddknniooimmaaGreat
