/-
  No cell of these rows narrows 'for every input' (looked for: loops, veiled, ifaces, maps, wideKeys, modest, calm, conditions, laid).
  DERIVED. THE GIVEN ROWS OF THIS SEAT. 9 by the template 'for every input the law returns true; each argument reads behind the call as it read before'; 0 by the template 'total and deterministic' (their statements: YtdoedfheagkloaaTotals.lean).
  GIVEN WITH THE SEED: the statements are not yours to turn. If you find one false, say at which input.
  Laid BY PROGRAM, IN A SANDBOX (cutbox-rows.mjs): the forced cells as the released guide's own fill.sh prints them over the translation 8306f1fe1dbcff71… (all of the seat's roots in one cut). By AI agents, Wed Nov 11 2026. No macro, syntax, notation, axiom, sorry.
-/
import Derived.Test.YtdoedfheagkloaaChecked
import GoSem.Claim
import GoSem.ClaimJoined
import GoSem.ClaimMapViews
import Derived.JoinedTies
import Derived.KernelRfl
namespace Go.Proofs.Ytdoedfheagkloaa
/- THE CELL 'sum', in the pinned program and in every row, IS THE sha256 OF THE DUMP (.gsa) THAT YtdoedfheagkloaaProg.lean LOADS. Nothing in Lean hashes anything: it is a label: what it is worth is what the hold of that sum in a sandbox is worth. -/
noncomputable def Try.pinned : Pinned := { name := "ytdoedfheagkloaa", sum := "8306f1fe1dbcff71f333269e3f5d542505cd0dfca54ac629f24474b33f25cc7a", checked := Try.checked }
namespace Rows
def none {H : Type} : Left H := { results := [], args := [] }

/-- 'additivelaw33.OrderCosts': WHATEVER THE INPUT: true; the input reads as it did. -/
def orderCostsSpec : ChangeSpec := { name := "orderCosts", fn := fun _ => fun
  | [d1, d2] => { results := [.lit (.bool true)], args := [d1, d2] }
  | _ => none }
def orderCostsRow : OpenClaim := { program := "ytdoedfheagkloaa", sum := "8306f1fe1dbcff71f333269e3f5d542505cd0dfca54ac629f24474b33f25cc7a", func := "additive/additivelaw33.OrderCosts", spec := "orderCosts", recurses := true, apart := false }
def OrderCostsSaid : Prop := orderCostsRow.holds Try.pinned (OpenSpec.ofChange orderCostsSpec)

/-- ITS FALSE NEIGHBOUR: 'it returns false'. Refute it at one input. -/
def orderCostsWrong : ChangeSpec := { name := "orderCosts", fn := fun _ => fun
  | [d1, d2] => { results := [.lit (.bool false)], args := [d1, d2] }
  | _ => none }
def OrderCostsWrongFalsely : Prop := orderCostsRow.holds Try.pinned (OpenSpec.ofChange orderCostsWrong)

/-- 'additivelaw33.OrderGreedy': WHATEVER THE INPUT: true; the input reads as it did. -/
def orderGreedySpec : ChangeSpec := { name := "orderGreedy", fn := fun _ => fun
  | [d1, d2] => { results := [.lit (.bool true)], args := [d1, d2] }
  | _ => none }
def orderGreedyRow : OpenClaim := { program := "ytdoedfheagkloaa", sum := "8306f1fe1dbcff71f333269e3f5d542505cd0dfca54ac629f24474b33f25cc7a", func := "additive/additivelaw33.OrderGreedy", spec := "orderGreedy", recurses := true, apart := false }
def OrderGreedySaid : Prop := orderGreedyRow.holds Try.pinned (OpenSpec.ofChange orderGreedySpec)

/-- ITS FALSE NEIGHBOUR: 'it returns false'. Refute it at one input. -/
def orderGreedyWrong : ChangeSpec := { name := "orderGreedy", fn := fun _ => fun
  | [d1, d2] => { results := [.lit (.bool false)], args := [d1, d2] }
  | _ => none }
def OrderGreedyWrongFalsely : Prop := orderGreedyRow.holds Try.pinned (OpenSpec.ofChange orderGreedyWrong)

/-- 'additivelaw33.OrderImproves': WHATEVER THE INPUT: true; the input reads as it did. -/
def orderImprovesSpec : ChangeSpec := { name := "orderImproves", fn := fun _ => fun
  | [d1, d2, d3] => { results := [.lit (.bool true)], args := [d1, d2, d3] }
  | _ => none }
def orderImprovesRow : OpenClaim := { program := "ytdoedfheagkloaa", sum := "8306f1fe1dbcff71f333269e3f5d542505cd0dfca54ac629f24474b33f25cc7a", func := "additive/additivelaw33.OrderImproves", spec := "orderImproves", recurses := true, apart := false }
def OrderImprovesSaid : Prop := orderImprovesRow.holds Try.pinned (OpenSpec.ofChange orderImprovesSpec)

/-- ITS FALSE NEIGHBOUR: 'it returns false'. Refute it at one input. -/
def orderImprovesWrong : ChangeSpec := { name := "orderImproves", fn := fun _ => fun
  | [d1, d2, d3] => { results := [.lit (.bool false)], args := [d1, d2, d3] }
  | _ => none }
def OrderImprovesWrongFalsely : Prop := orderImprovesRow.holds Try.pinned (OpenSpec.ofChange orderImprovesWrong)

/-- 'additivelaw33.OrderKeeps': WHATEVER THE INPUT: true; the input reads as it did. -/
def orderKeepsSpec : ChangeSpec := { name := "orderKeeps", fn := fun _ => fun
  | [d1, d2, d3] => { results := [.lit (.bool true)], args := [d1, d2, d3] }
  | _ => none }
def orderKeepsRow : OpenClaim := { program := "ytdoedfheagkloaa", sum := "8306f1fe1dbcff71f333269e3f5d542505cd0dfca54ac629f24474b33f25cc7a", func := "additive/additivelaw33.OrderKeeps", spec := "orderKeeps", recurses := true, apart := false }
def OrderKeepsSaid : Prop := orderKeepsRow.holds Try.pinned (OpenSpec.ofChange orderKeepsSpec)

/-- ITS FALSE NEIGHBOUR: 'it returns false'. Refute it at one input. -/
def orderKeepsWrong : ChangeSpec := { name := "orderKeeps", fn := fun _ => fun
  | [d1, d2, d3] => { results := [.lit (.bool false)], args := [d1, d2, d3] }
  | _ => none }
def OrderKeepsWrongFalsely : Prop := orderKeepsRow.holds Try.pinned (OpenSpec.ofChange orderKeepsWrong)

/-- 'additivelaw33.OrderFirst': WHATEVER THE INPUT: true; the input reads as it did. -/
def orderFirstSpec : ChangeSpec := { name := "orderFirst", fn := fun _ => fun
  | [d1, d2] => { results := [.lit (.bool true)], args := [d1, d2] }
  | _ => none }
def orderFirstRow : OpenClaim := { program := "ytdoedfheagkloaa", sum := "8306f1fe1dbcff71f333269e3f5d542505cd0dfca54ac629f24474b33f25cc7a", func := "additive/additivelaw33.OrderFirst", spec := "orderFirst", recurses := true, apart := false }
def OrderFirstSaid : Prop := orderFirstRow.holds Try.pinned (OpenSpec.ofChange orderFirstSpec)

/-- ITS FALSE NEIGHBOUR: 'it returns false'. Refute it at one input. -/
def orderFirstWrong : ChangeSpec := { name := "orderFirst", fn := fun _ => fun
  | [d1, d2] => { results := [.lit (.bool false)], args := [d1, d2] }
  | _ => none }
def OrderFirstWrongFalsely : Prop := orderFirstRow.holds Try.pinned (OpenSpec.ofChange orderFirstWrong)

/-- 'additivelaw33.OrderRounds': WHATEVER THE INPUT: true; the input reads as it did. -/
def orderRoundsSpec : ChangeSpec := { name := "orderRounds", fn := fun _ => fun
  | [d1, d2, d3, d4] => { results := [.lit (.bool true)], args := [d1, d2, d3, d4] }
  | _ => none }
def orderRoundsRow : OpenClaim := { program := "ytdoedfheagkloaa", sum := "8306f1fe1dbcff71f333269e3f5d542505cd0dfca54ac629f24474b33f25cc7a", func := "additive/additivelaw33.OrderRounds", spec := "orderRounds", recurses := true, apart := false }
def OrderRoundsSaid : Prop := orderRoundsRow.holds Try.pinned (OpenSpec.ofChange orderRoundsSpec)

/-- ITS FALSE NEIGHBOUR: 'it returns false'. Refute it at one input. -/
def orderRoundsWrong : ChangeSpec := { name := "orderRounds", fn := fun _ => fun
  | [d1, d2, d3, d4] => { results := [.lit (.bool false)], args := [d1, d2, d3, d4] }
  | _ => none }
def OrderRoundsWrongFalsely : Prop := orderRoundsRow.holds Try.pinned (OpenSpec.ofChange orderRoundsWrong)

/-- 'additivelaw33.OrderBest': WHATEVER THE INPUT: true; the input reads as it did. -/
def orderBestSpec : ChangeSpec := { name := "orderBest", fn := fun _ => fun
  | [d1, d2] => { results := [.lit (.bool true)], args := [d1, d2] }
  | _ => none }
def orderBestRow : OpenClaim := { program := "ytdoedfheagkloaa", sum := "8306f1fe1dbcff71f333269e3f5d542505cd0dfca54ac629f24474b33f25cc7a", func := "additive/additivelaw33.OrderBest", spec := "orderBest", recurses := true, apart := false }
def OrderBestSaid : Prop := orderBestRow.holds Try.pinned (OpenSpec.ofChange orderBestSpec)

/-- ITS FALSE NEIGHBOUR: 'it returns false'. Refute it at one input. -/
def orderBestWrong : ChangeSpec := { name := "orderBest", fn := fun _ => fun
  | [d1, d2] => { results := [.lit (.bool false)], args := [d1, d2] }
  | _ => none }
def OrderBestWrongFalsely : Prop := orderBestRow.holds Try.pinned (OpenSpec.ofChange orderBestWrong)

/-- 'additivelaw33.OrderLeast': WHATEVER THE INPUT: true; the input reads as it did. -/
def orderLeastSpec : ChangeSpec := { name := "orderLeast", fn := fun _ => fun
  | [d1, d2, d3] => { results := [.lit (.bool true)], args := [d1, d2, d3] }
  | _ => none }
def orderLeastRow : OpenClaim := { program := "ytdoedfheagkloaa", sum := "8306f1fe1dbcff71f333269e3f5d542505cd0dfca54ac629f24474b33f25cc7a", func := "additive/additivelaw33.OrderLeast", spec := "orderLeast", recurses := true, apart := false }
def OrderLeastSaid : Prop := orderLeastRow.holds Try.pinned (OpenSpec.ofChange orderLeastSpec)

/-- ITS FALSE NEIGHBOUR: 'it returns false'. Refute it at one input. -/
def orderLeastWrong : ChangeSpec := { name := "orderLeast", fn := fun _ => fun
  | [d1, d2, d3] => { results := [.lit (.bool false)], args := [d1, d2, d3] }
  | _ => none }
def OrderLeastWrongFalsely : Prop := orderLeastRow.holds Try.pinned (OpenSpec.ofChange orderLeastWrong)

/-- 'additivelaw33.OrderTail': WHATEVER THE INPUT: true; the input reads as it did. -/
def orderTailSpec : ChangeSpec := { name := "orderTail", fn := fun _ => fun
  | [d1, d2] => { results := [.lit (.bool true)], args := [d1, d2] }
  | _ => none }
def orderTailRow : OpenClaim := { program := "ytdoedfheagkloaa", sum := "8306f1fe1dbcff71f333269e3f5d542505cd0dfca54ac629f24474b33f25cc7a", func := "additive/additivelaw33.OrderTail", spec := "orderTail", recurses := true, apart := false }
def OrderTailSaid : Prop := orderTailRow.holds Try.pinned (OpenSpec.ofChange orderTailSpec)

/-- ITS FALSE NEIGHBOUR: 'it returns false'. Refute it at one input. -/
def orderTailWrong : ChangeSpec := { name := "orderTail", fn := fun _ => fun
  | [d1, d2] => { results := [.lit (.bool false)], args := [d1, d2] }
  | _ => none }
def OrderTailWrongFalsely : Prop := orderTailRow.holds Try.pinned (OpenSpec.ofChange orderTailWrong)

/- THE SECOND FORM. 'bulk': how many values and letters a reading holds, each counted each time it is reached (what is shared counts as often as it is met; a slice's spare places count too). A statement '..UptoSaid' is the law's where the arguments, and the package variables that the reading takes, are together of bulk at most 1048576: NARROWER than '..Said'. Prove '..Said' where nothing that the law and all that it calls make is longer than what came in: it says more and counts as full. Else prove '..UptoSaid'. A law counts once. -/
mutual
def uptoBulk {H : Type} : DataW H → Nat
  | .lit (.string bytes) => bytes.length + 1
  | .lit _ => 1
  | .nil => 1
  | .ptr d => uptoBulk d + 1
  | .slice elems spare => uptoBulkAll elems + uptoBulkAll spare + 1
  | .agg parts => uptoBulkAll parts + 1
  | .iface _ d => uptoBulk d + 1
  | .map entries => uptoBulkEntries entries + 1
  | .held _ => 1
def uptoBulkAll {H : Type} : List (DataW H) → Nat
  | [] => 0
  | d :: r => uptoBulk d + uptoBulkAll r
def uptoBulkEntries {H : Type} : List (Lit × DataW H) → Nat
  | [] => 0
  | x :: r => uptoBulkEntry x + uptoBulkEntries r
def uptoBulkEntry {H : Type} : Lit × DataW H → Nat
  | (.string bytes, d) => bytes.length + uptoBulk d + 1
  | (_, d) => uptoBulk d + 1
 end
def uptoSmall : (H : Type) → List (DataW H) → Bool := fun _ ds => decide (uptoBulkAll ds ≤ 1048576)
def OpenSpec.upto (s : _root_.Go.ChangeSpec) : _root_.Go.OpenSpec := { _root_.Go.OpenSpec.ofChange s with cond := some uptoSmall }

/-- 'additivelaw33.OrderCosts', WHERE WHAT IT READS IS OF BULK AT MOST 1048576: true; the input reads as it did. -/
def orderCostsUptoRow : OpenClaim := { program := "ytdoedfheagkloaa", sum := "8306f1fe1dbcff71f333269e3f5d542505cd0dfca54ac629f24474b33f25cc7a", func := "additive/additivelaw33.OrderCosts", spec := "orderCosts", recurses := true, apart := false, narrowed := true }
def OrderCostsUptoSaid : Prop := orderCostsUptoRow.holds Try.pinned (OpenSpec.upto orderCostsSpec)

/-- 'additivelaw33.OrderGreedy', WHERE WHAT IT READS IS OF BULK AT MOST 1048576: true; the input reads as it did. -/
def orderGreedyUptoRow : OpenClaim := { program := "ytdoedfheagkloaa", sum := "8306f1fe1dbcff71f333269e3f5d542505cd0dfca54ac629f24474b33f25cc7a", func := "additive/additivelaw33.OrderGreedy", spec := "orderGreedy", recurses := true, apart := false, narrowed := true }
def OrderGreedyUptoSaid : Prop := orderGreedyUptoRow.holds Try.pinned (OpenSpec.upto orderGreedySpec)

/-- 'additivelaw33.OrderImproves', WHERE WHAT IT READS IS OF BULK AT MOST 1048576: true; the input reads as it did. -/
def orderImprovesUptoRow : OpenClaim := { program := "ytdoedfheagkloaa", sum := "8306f1fe1dbcff71f333269e3f5d542505cd0dfca54ac629f24474b33f25cc7a", func := "additive/additivelaw33.OrderImproves", spec := "orderImproves", recurses := true, apart := false, narrowed := true }
def OrderImprovesUptoSaid : Prop := orderImprovesUptoRow.holds Try.pinned (OpenSpec.upto orderImprovesSpec)

/-- 'additivelaw33.OrderKeeps', WHERE WHAT IT READS IS OF BULK AT MOST 1048576: true; the input reads as it did. -/
def orderKeepsUptoRow : OpenClaim := { program := "ytdoedfheagkloaa", sum := "8306f1fe1dbcff71f333269e3f5d542505cd0dfca54ac629f24474b33f25cc7a", func := "additive/additivelaw33.OrderKeeps", spec := "orderKeeps", recurses := true, apart := false, narrowed := true }
def OrderKeepsUptoSaid : Prop := orderKeepsUptoRow.holds Try.pinned (OpenSpec.upto orderKeepsSpec)

/-- 'additivelaw33.OrderFirst', WHERE WHAT IT READS IS OF BULK AT MOST 1048576: true; the input reads as it did. -/
def orderFirstUptoRow : OpenClaim := { program := "ytdoedfheagkloaa", sum := "8306f1fe1dbcff71f333269e3f5d542505cd0dfca54ac629f24474b33f25cc7a", func := "additive/additivelaw33.OrderFirst", spec := "orderFirst", recurses := true, apart := false, narrowed := true }
def OrderFirstUptoSaid : Prop := orderFirstUptoRow.holds Try.pinned (OpenSpec.upto orderFirstSpec)

/-- 'additivelaw33.OrderRounds', WHERE WHAT IT READS IS OF BULK AT MOST 1048576: true; the input reads as it did. -/
def orderRoundsUptoRow : OpenClaim := { program := "ytdoedfheagkloaa", sum := "8306f1fe1dbcff71f333269e3f5d542505cd0dfca54ac629f24474b33f25cc7a", func := "additive/additivelaw33.OrderRounds", spec := "orderRounds", recurses := true, apart := false, narrowed := true }
def OrderRoundsUptoSaid : Prop := orderRoundsUptoRow.holds Try.pinned (OpenSpec.upto orderRoundsSpec)

/-- 'additivelaw33.OrderBest', WHERE WHAT IT READS IS OF BULK AT MOST 1048576: true; the input reads as it did. -/
def orderBestUptoRow : OpenClaim := { program := "ytdoedfheagkloaa", sum := "8306f1fe1dbcff71f333269e3f5d542505cd0dfca54ac629f24474b33f25cc7a", func := "additive/additivelaw33.OrderBest", spec := "orderBest", recurses := true, apart := false, narrowed := true }
def OrderBestUptoSaid : Prop := orderBestUptoRow.holds Try.pinned (OpenSpec.upto orderBestSpec)

/-- 'additivelaw33.OrderLeast', WHERE WHAT IT READS IS OF BULK AT MOST 1048576: true; the input reads as it did. -/
def orderLeastUptoRow : OpenClaim := { program := "ytdoedfheagkloaa", sum := "8306f1fe1dbcff71f333269e3f5d542505cd0dfca54ac629f24474b33f25cc7a", func := "additive/additivelaw33.OrderLeast", spec := "orderLeast", recurses := true, apart := false, narrowed := true }
def OrderLeastUptoSaid : Prop := orderLeastUptoRow.holds Try.pinned (OpenSpec.upto orderLeastSpec)

/-- 'additivelaw33.OrderTail', WHERE WHAT IT READS IS OF BULK AT MOST 1048576: true; the input reads as it did. -/
def orderTailUptoRow : OpenClaim := { program := "ytdoedfheagkloaa", sum := "8306f1fe1dbcff71f333269e3f5d542505cd0dfca54ac629f24474b33f25cc7a", func := "additive/additivelaw33.OrderTail", spec := "orderTail", recurses := true, apart := false, narrowed := true }
def OrderTailUptoSaid : Prop := orderTailUptoRow.holds Try.pinned (OpenSpec.upto orderTailSpec)

end Rows
end Go.Proofs.Ytdoedfheagkloaa
