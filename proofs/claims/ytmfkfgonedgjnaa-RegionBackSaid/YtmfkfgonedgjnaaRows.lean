/-
  No cell of these rows narrows 'for every input' (looked for: loops, veiled, ifaces, maps, wideKeys, modest, calm, conditions, laid).
  DERIVED. THE GIVEN ROWS OF THIS SEAT. 11 by the template 'for every input the law returns true; each argument reads behind the call as it read before'; 0 by the template 'total and deterministic' (their statements: YtmfkfgonedgjnaaTotals.lean).
  GIVEN WITH THE SEED: the statements are not yours to turn. If you find one false, say at which input.
  Laid BY PROGRAM, IN A SANDBOX (cutbox-rows.mjs): the forced cells as the released guide's own fill.sh prints them over the translation d54eb22797df3e94… (all of the seat's roots in one cut). By AI agents, Wed Nov 11 2026. No macro, syntax, notation, axiom, sorry.
-/
import Derived.Test.YtmfkfgonedgjnaaChecked
import GoSem.Claim
import GoSem.ClaimJoined
import GoSem.ClaimMapViews
import Derived.JoinedTies
import Derived.KernelRfl
namespace Go.Proofs.Ytmfkfgonedgjnaa
/- THE CELL 'sum', in the pinned program and in every row, IS THE sha256 OF THE DUMP (.gsa) THAT YtmfkfgonedgjnaaProg.lean LOADS. Nothing in Lean hashes anything: it is a label: what it is worth is what the hold of that sum in a sandbox is worth. -/
noncomputable def Try.pinned : Pinned := { name := "ytmfkfgonedgjnaa", sum := "d54eb22797df3e94191aacd5060c43cca87f07f8ec31e278ab0071bc9c055c3b", checked := Try.checked }
namespace Rows
def none {H : Type} : Left H := { results := [], args := [] }

/-- 'additivelaw25.ThinLines': WHATEVER THE INPUT: true; the input reads as it did. -/
def thinLinesSpec : ChangeSpec := { name := "thinLines", fn := fun _ => fun
  | [d] => { results := [.lit (.bool true)], args := [d] }
  | _ => none }
def thinLinesRow : OpenClaim := { program := "ytmfkfgonedgjnaa", sum := "d54eb22797df3e94191aacd5060c43cca87f07f8ec31e278ab0071bc9c055c3b", func := "additive/additivelaw25.ThinLines", spec := "thinLines", unfollowed := true, recurses := true, apart := false }
def ThinLinesSaid : Prop := thinLinesRow.holds Try.pinned (OpenSpec.ofChange thinLinesSpec)

/-- ITS FALSE NEIGHBOUR: 'it returns false'. Refute it at one input. -/
def thinLinesWrong : ChangeSpec := { name := "thinLines", fn := fun _ => fun
  | [d] => { results := [.lit (.bool false)], args := [d] }
  | _ => none }
def ThinLinesWrongFalsely : Prop := thinLinesRow.holds Try.pinned (OpenSpec.ofChange thinLinesWrong)

/-- 'additivelaw25.ThinSingles': WHATEVER THE INPUT: true; the input reads as it did. -/
def thinSinglesSpec : ChangeSpec := { name := "thinSingles", fn := fun _ => fun
  | [d] => { results := [.lit (.bool true)], args := [d] }
  | _ => none }
def thinSinglesRow : OpenClaim := { program := "ytmfkfgonedgjnaa", sum := "d54eb22797df3e94191aacd5060c43cca87f07f8ec31e278ab0071bc9c055c3b", func := "additive/additivelaw25.ThinSingles", spec := "thinSingles", unfollowed := true, recurses := true, apart := false }
def ThinSinglesSaid : Prop := thinSinglesRow.holds Try.pinned (OpenSpec.ofChange thinSinglesSpec)

/-- ITS FALSE NEIGHBOUR: 'it returns false'. Refute it at one input. -/
def thinSinglesWrong : ChangeSpec := { name := "thinSingles", fn := fun _ => fun
  | [d] => { results := [.lit (.bool false)], args := [d] }
  | _ => none }
def ThinSinglesWrongFalsely : Prop := thinSinglesRow.holds Try.pinned (OpenSpec.ofChange thinSinglesWrong)

/-- 'additivelaw18.RegionOf': WHATEVER THE INPUT: true; the input reads as it did. -/
def regionOfSpec : ChangeSpec := { name := "regionOf", fn := fun _ => fun
  | [d] => { results := [.lit (.bool true)], args := [d] }
  | _ => none }
def regionOfRow : OpenClaim := { program := "ytmfkfgonedgjnaa", sum := "d54eb22797df3e94191aacd5060c43cca87f07f8ec31e278ab0071bc9c055c3b", func := "additive/additivelaw18.RegionOf", spec := "regionOf", unfollowed := true, recurses := true, apart := false }
def RegionOfSaid : Prop := regionOfRow.holds Try.pinned (OpenSpec.ofChange regionOfSpec)

/-- ITS FALSE NEIGHBOUR: 'it returns false'. Refute it at one input. -/
def regionOfWrong : ChangeSpec := { name := "regionOf", fn := fun _ => fun
  | [d] => { results := [.lit (.bool false)], args := [d] }
  | _ => none }
def RegionOfWrongFalsely : Prop := regionOfRow.holds Try.pinned (OpenSpec.ofChange regionOfWrong)

/-- 'additivelaw18.RegionShift': WHATEVER THE INPUT: true; the input reads as it did. -/
def regionShiftSpec : ChangeSpec := { name := "regionShift", fn := fun _ => fun
  | [d1, d2, d3] => { results := [.lit (.bool true)], args := [d1, d2, d3] }
  | _ => none }
def regionShiftRow : OpenClaim := { program := "ytmfkfgonedgjnaa", sum := "d54eb22797df3e94191aacd5060c43cca87f07f8ec31e278ab0071bc9c055c3b", func := "additive/additivelaw18.RegionShift", spec := "regionShift", unfollowed := true, recurses := true, apart := false }
def RegionShiftSaid : Prop := regionShiftRow.holds Try.pinned (OpenSpec.ofChange regionShiftSpec)

/-- ITS FALSE NEIGHBOUR: 'it returns false'. Refute it at one input. -/
def regionShiftWrong : ChangeSpec := { name := "regionShift", fn := fun _ => fun
  | [d1, d2, d3] => { results := [.lit (.bool false)], args := [d1, d2, d3] }
  | _ => none }
def RegionShiftWrongFalsely : Prop := regionShiftRow.holds Try.pinned (OpenSpec.ofChange regionShiftWrong)

/-- 'additivelaw18.RegionCells': WHATEVER THE INPUT: true; the input reads as it did. -/
def regionCellsSpec : ChangeSpec := { name := "regionCells", fn := fun _ => fun
  | [d1, d2] => { results := [.lit (.bool true)], args := [d1, d2] }
  | _ => none }
def regionCellsRow : OpenClaim := { program := "ytmfkfgonedgjnaa", sum := "d54eb22797df3e94191aacd5060c43cca87f07f8ec31e278ab0071bc9c055c3b", func := "additive/additivelaw18.RegionCells", spec := "regionCells", unfollowed := true, recurses := true, apart := false }
def RegionCellsSaid : Prop := regionCellsRow.holds Try.pinned (OpenSpec.ofChange regionCellsSpec)

/-- ITS FALSE NEIGHBOUR: 'it returns false'. Refute it at one input. -/
def regionCellsWrong : ChangeSpec := { name := "regionCells", fn := fun _ => fun
  | [d1, d2] => { results := [.lit (.bool false)], args := [d1, d2] }
  | _ => none }
def RegionCellsWrongFalsely : Prop := regionCellsRow.holds Try.pinned (OpenSpec.ofChange regionCellsWrong)

/-- 'additivelaw25.ThinCovers': WHATEVER THE INPUT: true; the input reads as it did. -/
def thinCoversSpec : ChangeSpec := { name := "thinCovers", fn := fun _ => fun
  | [d] => { results := [.lit (.bool true)], args := [d] }
  | _ => none }
def thinCoversRow : OpenClaim := { program := "ytmfkfgonedgjnaa", sum := "d54eb22797df3e94191aacd5060c43cca87f07f8ec31e278ab0071bc9c055c3b", func := "additive/additivelaw25.ThinCovers", spec := "thinCovers", unfollowed := true, recurses := true, apart := false }
def ThinCoversSaid : Prop := thinCoversRow.holds Try.pinned (OpenSpec.ofChange thinCoversSpec)

/-- ITS FALSE NEIGHBOUR: 'it returns false'. Refute it at one input. -/
def thinCoversWrong : ChangeSpec := { name := "thinCovers", fn := fun _ => fun
  | [d] => { results := [.lit (.bool false)], args := [d] }
  | _ => none }
def ThinCoversWrongFalsely : Prop := thinCoversRow.holds Try.pinned (OpenSpec.ofChange thinCoversWrong)

/-- 'additivelaw18.RegionBack': WHATEVER THE INPUT: true; the input reads as it did. -/
def regionBackSpec : ChangeSpec := { name := "regionBack", fn := fun _ => fun
  | [d1, d2, d3] => { results := [.lit (.bool true)], args := [d1, d2, d3] }
  | _ => none }
def regionBackRow : OpenClaim := { program := "ytmfkfgonedgjnaa", sum := "d54eb22797df3e94191aacd5060c43cca87f07f8ec31e278ab0071bc9c055c3b", func := "additive/additivelaw18.RegionBack", spec := "regionBack", unfollowed := true, recurses := true, apart := false }
def RegionBackSaid : Prop := regionBackRow.holds Try.pinned (OpenSpec.ofChange regionBackSpec)

/-- ITS FALSE NEIGHBOUR: 'it returns false'. Refute it at one input. -/
def regionBackWrong : ChangeSpec := { name := "regionBack", fn := fun _ => fun
  | [d1, d2, d3] => { results := [.lit (.bool false)], args := [d1, d2, d3] }
  | _ => none }
def RegionBackWrongFalsely : Prop := regionBackRow.holds Try.pinned (OpenSpec.ofChange regionBackWrong)

/-- 'additivelaw18.RegionSets': WHATEVER THE INPUT: true; the input reads as it did. -/
def regionSetsSpec : ChangeSpec := { name := "regionSets", fn := fun _ => fun
  | [d1, d2, d3] => { results := [.lit (.bool true)], args := [d1, d2, d3] }
  | _ => none }
def regionSetsRow : OpenClaim := { program := "ytmfkfgonedgjnaa", sum := "d54eb22797df3e94191aacd5060c43cca87f07f8ec31e278ab0071bc9c055c3b", func := "additive/additivelaw18.RegionSets", spec := "regionSets", unfollowed := true, recurses := true, apart := false }
def RegionSetsSaid : Prop := regionSetsRow.holds Try.pinned (OpenSpec.ofChange regionSetsSpec)

/-- ITS FALSE NEIGHBOUR: 'it returns false'. Refute it at one input. -/
def regionSetsWrong : ChangeSpec := { name := "regionSets", fn := fun _ => fun
  | [d1, d2, d3] => { results := [.lit (.bool false)], args := [d1, d2, d3] }
  | _ => none }
def RegionSetsWrongFalsely : Prop := regionSetsRow.holds Try.pinned (OpenSpec.ofChange regionSetsWrong)

/-- 'additivelaw18.RegionOps': WHATEVER THE INPUT: true; the input reads as it did. -/
def regionOpsSpec : ChangeSpec := { name := "regionOps", fn := fun _ => fun
  | [d1, d2] => { results := [.lit (.bool true)], args := [d1, d2] }
  | _ => none }
def regionOpsRow : OpenClaim := { program := "ytmfkfgonedgjnaa", sum := "d54eb22797df3e94191aacd5060c43cca87f07f8ec31e278ab0071bc9c055c3b", func := "additive/additivelaw18.RegionOps", spec := "regionOps", unfollowed := true, recurses := true, apart := false }
def RegionOpsSaid : Prop := regionOpsRow.holds Try.pinned (OpenSpec.ofChange regionOpsSpec)

/-- ITS FALSE NEIGHBOUR: 'it returns false'. Refute it at one input. -/
def regionOpsWrong : ChangeSpec := { name := "regionOps", fn := fun _ => fun
  | [d1, d2] => { results := [.lit (.bool false)], args := [d1, d2] }
  | _ => none }
def RegionOpsWrongFalsely : Prop := regionOpsRow.holds Try.pinned (OpenSpec.ofChange regionOpsWrong)

/-- 'additivelaw18.RegionAlgebra': WHATEVER THE INPUT: true; the input reads as it did. -/
def regionAlgebraSpec : ChangeSpec := { name := "regionAlgebra", fn := fun _ => fun
  | [d1, d2, d3] => { results := [.lit (.bool true)], args := [d1, d2, d3] }
  | _ => none }
def regionAlgebraRow : OpenClaim := { program := "ytmfkfgonedgjnaa", sum := "d54eb22797df3e94191aacd5060c43cca87f07f8ec31e278ab0071bc9c055c3b", func := "additive/additivelaw18.RegionAlgebra", spec := "regionAlgebra", unfollowed := true, recurses := true, apart := false }
def RegionAlgebraSaid : Prop := regionAlgebraRow.holds Try.pinned (OpenSpec.ofChange regionAlgebraSpec)

/-- ITS FALSE NEIGHBOUR: 'it returns false'. Refute it at one input. -/
def regionAlgebraWrong : ChangeSpec := { name := "regionAlgebra", fn := fun _ => fun
  | [d1, d2, d3] => { results := [.lit (.bool false)], args := [d1, d2, d3] }
  | _ => none }
def RegionAlgebraWrongFalsely : Prop := regionAlgebraRow.holds Try.pinned (OpenSpec.ofChange regionAlgebraWrong)

/-- 'additivelaw25.ThinDivides': WHATEVER THE INPUT: true; the input reads as it did. -/
def thinDividesSpec : ChangeSpec := { name := "thinDivides", fn := fun _ => fun
  | [d1, d2] => { results := [.lit (.bool true)], args := [d1, d2] }
  | _ => none }
def thinDividesRow : OpenClaim := { program := "ytmfkfgonedgjnaa", sum := "d54eb22797df3e94191aacd5060c43cca87f07f8ec31e278ab0071bc9c055c3b", func := "additive/additivelaw25.ThinDivides", spec := "thinDivides", unfollowed := true, recurses := true, apart := false }
def ThinDividesSaid : Prop := thinDividesRow.holds Try.pinned (OpenSpec.ofChange thinDividesSpec)

/-- ITS FALSE NEIGHBOUR: 'it returns false'. Refute it at one input. -/
def thinDividesWrong : ChangeSpec := { name := "thinDivides", fn := fun _ => fun
  | [d1, d2] => { results := [.lit (.bool false)], args := [d1, d2] }
  | _ => none }
def ThinDividesWrongFalsely : Prop := thinDividesRow.holds Try.pinned (OpenSpec.ofChange thinDividesWrong)

/- THE SECOND FORM. 'bulk': how many values and letters a reading holds, each counted each time it is reached (what is shared counts as often as it is met; a slice's spare places count too). A statement '..UptoSaid' is the law's where the arguments, and the package variables that the reading takes, are together of bulk at most 1048576: NARROWER than '..Said'. Prove '..Said' where nothing that the law and all that it calls make is longer than what came in: it says more and counts as full. Else prove '..UptoSaid'. A law counts once. -/
mutual
def uptoBulk {H : Type} : DataW H → Nat
  | .lit (.string bytes) => bytes.length + 1
  | .lit _ => 1
  | .nil => 1
  | .ptr d => uptoBulk d + 1
  | .slice elems spare => uptoBulkAll elems + uptoBulkAll spare + 1
  | .agg parts => uptoBulkAll parts + 1
  | .iface _ d => uptoBulk d + 1
  | .map entries => uptoBulkEntries entries + 1
  | .held _ => 1
def uptoBulkAll {H : Type} : List (DataW H) → Nat
  | [] => 0
  | d :: r => uptoBulk d + uptoBulkAll r
def uptoBulkEntries {H : Type} : List (Lit × DataW H) → Nat
  | [] => 0
  | x :: r => uptoBulkEntry x + uptoBulkEntries r
def uptoBulkEntry {H : Type} : Lit × DataW H → Nat
  | (.string bytes, d) => bytes.length + uptoBulk d + 1
  | (_, d) => uptoBulk d + 1
 end
def uptoSmall : (H : Type) → List (DataW H) → Bool := fun _ ds => decide (uptoBulkAll ds ≤ 1048576)
def OpenSpec.upto (s : _root_.Go.ChangeSpec) : _root_.Go.OpenSpec := { _root_.Go.OpenSpec.ofChange s with cond := some uptoSmall }

/-- 'additivelaw25.ThinLines', WHERE WHAT IT READS IS OF BULK AT MOST 1048576: true; the input reads as it did. -/
def thinLinesUptoRow : OpenClaim := { program := "ytmfkfgonedgjnaa", sum := "d54eb22797df3e94191aacd5060c43cca87f07f8ec31e278ab0071bc9c055c3b", func := "additive/additivelaw25.ThinLines", spec := "thinLines", unfollowed := true, recurses := true, apart := false, narrowed := true }
def ThinLinesUptoSaid : Prop := thinLinesUptoRow.holds Try.pinned (OpenSpec.upto thinLinesSpec)

/-- 'additivelaw25.ThinSingles', WHERE WHAT IT READS IS OF BULK AT MOST 1048576: true; the input reads as it did. -/
def thinSinglesUptoRow : OpenClaim := { program := "ytmfkfgonedgjnaa", sum := "d54eb22797df3e94191aacd5060c43cca87f07f8ec31e278ab0071bc9c055c3b", func := "additive/additivelaw25.ThinSingles", spec := "thinSingles", unfollowed := true, recurses := true, apart := false, narrowed := true }
def ThinSinglesUptoSaid : Prop := thinSinglesUptoRow.holds Try.pinned (OpenSpec.upto thinSinglesSpec)

/-- 'additivelaw18.RegionOf', WHERE WHAT IT READS IS OF BULK AT MOST 1048576: true; the input reads as it did. -/
def regionOfUptoRow : OpenClaim := { program := "ytmfkfgonedgjnaa", sum := "d54eb22797df3e94191aacd5060c43cca87f07f8ec31e278ab0071bc9c055c3b", func := "additive/additivelaw18.RegionOf", spec := "regionOf", unfollowed := true, recurses := true, apart := false, narrowed := true }
def RegionOfUptoSaid : Prop := regionOfUptoRow.holds Try.pinned (OpenSpec.upto regionOfSpec)

/-- 'additivelaw18.RegionShift', WHERE WHAT IT READS IS OF BULK AT MOST 1048576: true; the input reads as it did. -/
def regionShiftUptoRow : OpenClaim := { program := "ytmfkfgonedgjnaa", sum := "d54eb22797df3e94191aacd5060c43cca87f07f8ec31e278ab0071bc9c055c3b", func := "additive/additivelaw18.RegionShift", spec := "regionShift", unfollowed := true, recurses := true, apart := false, narrowed := true }
def RegionShiftUptoSaid : Prop := regionShiftUptoRow.holds Try.pinned (OpenSpec.upto regionShiftSpec)

/-- 'additivelaw18.RegionCells', WHERE WHAT IT READS IS OF BULK AT MOST 1048576: true; the input reads as it did. -/
def regionCellsUptoRow : OpenClaim := { program := "ytmfkfgonedgjnaa", sum := "d54eb22797df3e94191aacd5060c43cca87f07f8ec31e278ab0071bc9c055c3b", func := "additive/additivelaw18.RegionCells", spec := "regionCells", unfollowed := true, recurses := true, apart := false, narrowed := true }
def RegionCellsUptoSaid : Prop := regionCellsUptoRow.holds Try.pinned (OpenSpec.upto regionCellsSpec)

/-- 'additivelaw25.ThinCovers', WHERE WHAT IT READS IS OF BULK AT MOST 1048576: true; the input reads as it did. -/
def thinCoversUptoRow : OpenClaim := { program := "ytmfkfgonedgjnaa", sum := "d54eb22797df3e94191aacd5060c43cca87f07f8ec31e278ab0071bc9c055c3b", func := "additive/additivelaw25.ThinCovers", spec := "thinCovers", unfollowed := true, recurses := true, apart := false, narrowed := true }
def ThinCoversUptoSaid : Prop := thinCoversUptoRow.holds Try.pinned (OpenSpec.upto thinCoversSpec)

/-- 'additivelaw18.RegionBack', WHERE WHAT IT READS IS OF BULK AT MOST 1048576: true; the input reads as it did. -/
def regionBackUptoRow : OpenClaim := { program := "ytmfkfgonedgjnaa", sum := "d54eb22797df3e94191aacd5060c43cca87f07f8ec31e278ab0071bc9c055c3b", func := "additive/additivelaw18.RegionBack", spec := "regionBack", unfollowed := true, recurses := true, apart := false, narrowed := true }
def RegionBackUptoSaid : Prop := regionBackUptoRow.holds Try.pinned (OpenSpec.upto regionBackSpec)

/-- 'additivelaw18.RegionSets', WHERE WHAT IT READS IS OF BULK AT MOST 1048576: true; the input reads as it did. -/
def regionSetsUptoRow : OpenClaim := { program := "ytmfkfgonedgjnaa", sum := "d54eb22797df3e94191aacd5060c43cca87f07f8ec31e278ab0071bc9c055c3b", func := "additive/additivelaw18.RegionSets", spec := "regionSets", unfollowed := true, recurses := true, apart := false, narrowed := true }
def RegionSetsUptoSaid : Prop := regionSetsUptoRow.holds Try.pinned (OpenSpec.upto regionSetsSpec)

/-- 'additivelaw18.RegionOps', WHERE WHAT IT READS IS OF BULK AT MOST 1048576: true; the input reads as it did. -/
def regionOpsUptoRow : OpenClaim := { program := "ytmfkfgonedgjnaa", sum := "d54eb22797df3e94191aacd5060c43cca87f07f8ec31e278ab0071bc9c055c3b", func := "additive/additivelaw18.RegionOps", spec := "regionOps", unfollowed := true, recurses := true, apart := false, narrowed := true }
def RegionOpsUptoSaid : Prop := regionOpsUptoRow.holds Try.pinned (OpenSpec.upto regionOpsSpec)

/-- 'additivelaw18.RegionAlgebra', WHERE WHAT IT READS IS OF BULK AT MOST 1048576: true; the input reads as it did. -/
def regionAlgebraUptoRow : OpenClaim := { program := "ytmfkfgonedgjnaa", sum := "d54eb22797df3e94191aacd5060c43cca87f07f8ec31e278ab0071bc9c055c3b", func := "additive/additivelaw18.RegionAlgebra", spec := "regionAlgebra", unfollowed := true, recurses := true, apart := false, narrowed := true }
def RegionAlgebraUptoSaid : Prop := regionAlgebraUptoRow.holds Try.pinned (OpenSpec.upto regionAlgebraSpec)

/-- 'additivelaw25.ThinDivides', WHERE WHAT IT READS IS OF BULK AT MOST 1048576: true; the input reads as it did. -/
def thinDividesUptoRow : OpenClaim := { program := "ytmfkfgonedgjnaa", sum := "d54eb22797df3e94191aacd5060c43cca87f07f8ec31e278ab0071bc9c055c3b", func := "additive/additivelaw25.ThinDivides", spec := "thinDivides", unfollowed := true, recurses := true, apart := false, narrowed := true }
def ThinDividesUptoSaid : Prop := thinDividesUptoRow.holds Try.pinned (OpenSpec.upto thinDividesSpec)

end Rows
end Go.Proofs.Ytmfkfgonedgjnaa
