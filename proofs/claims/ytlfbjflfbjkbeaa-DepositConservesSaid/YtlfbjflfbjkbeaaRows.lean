/-
  No cell of these rows narrows 'for every input' (looked for: loops, veiled, ifaces, maps, wideKeys, modest, calm, conditions, laid).
  DERIVED. THE GIVEN ROWS OF THIS SEAT. 4 by the template 'for every input the law returns true; each argument reads behind the call as it read before'; 0 by the template 'total and deterministic' (their statements: YtlfbjflfbjkbeaaTotals.lean).
  GIVEN WITH THE SEED: the statements are not yours to turn. If you find one false, say at which input.
  Laid BY PROGRAM, IN A SANDBOX (cutbox-rows.mjs): the forced cells as the released guide's own fill.sh prints them over the translation c237518f67713f45… (all of the seat's roots in one cut). By AI agents, Wed Nov 11 2026. No macro, syntax, notation, axiom, sorry.
-/
import Derived.Test.YtlfbjflfbjkbeaaChecked
import GoSem.Claim
import GoSem.ClaimJoined
import GoSem.ClaimMapViews
import Derived.JoinedTies
import Derived.KernelRfl
namespace Go.Proofs.Ytlfbjflfbjkbeaa
/- THE CELL 'sum', in the pinned program and in every row, IS THE sha256 OF THE DUMP (.gsa) THAT YtlfbjflfbjkbeaaProg.lean LOADS. Nothing in Lean hashes anything: it is a label: what it is worth is what the hold of that sum in a sandbox is worth. -/
noncomputable def Try.pinned : Pinned := { name := "ytlfbjflfbjkbeaa", sum := "c237518f67713f457548e5ed7338478016d76e2239c5654fdfdb77f37ea89916", checked := Try.checked }
namespace Rows
def none {H : Type} : Left H := { results := [], args := [] }

/-- 'additivelaw55.DepositUnder': WHATEVER THE INPUT: true; the input reads as it did. -/
def depositUnderSpec : ChangeSpec := { name := "depositUnder", fn := fun _ => fun
  | [d1, d2, d3] => { results := [.lit (.bool true)], args := [d1, d2, d3] }
  | _ => none }
def depositUnderRow : OpenClaim := { program := "ytlfbjflfbjkbeaa", sum := "c237518f67713f457548e5ed7338478016d76e2239c5654fdfdb77f37ea89916", func := "additive/additivelaw55.DepositUnder", spec := "depositUnder", unfollowed := true, recurses := true, apart := false }
def DepositUnderSaid : Prop := depositUnderRow.holds Try.pinned (OpenSpec.ofChange depositUnderSpec)

/-- ITS FALSE NEIGHBOUR: 'it returns false'. Refute it at one input. -/
def depositUnderWrong : ChangeSpec := { name := "depositUnder", fn := fun _ => fun
  | [d1, d2, d3] => { results := [.lit (.bool false)], args := [d1, d2, d3] }
  | _ => none }
def DepositUnderWrongFalsely : Prop := depositUnderRow.holds Try.pinned (OpenSpec.ofChange depositUnderWrong)

/-- 'additivelaw55.DepositStill': WHATEVER THE INPUT: true; the input reads as it did. -/
def depositStillSpec : ChangeSpec := { name := "depositStill", fn := fun _ => fun
  | [d1, d2, d3, d4] => { results := [.lit (.bool true)], args := [d1, d2, d3, d4] }
  | _ => none }
def depositStillRow : OpenClaim := { program := "ytlfbjflfbjkbeaa", sum := "c237518f67713f457548e5ed7338478016d76e2239c5654fdfdb77f37ea89916", func := "additive/additivelaw55.DepositStill", spec := "depositStill", unfollowed := true, recurses := true, apart := false }
def DepositStillSaid : Prop := depositStillRow.holds Try.pinned (OpenSpec.ofChange depositStillSpec)

/-- ITS FALSE NEIGHBOUR: 'it returns false'. Refute it at one input. -/
def depositStillWrong : ChangeSpec := { name := "depositStill", fn := fun _ => fun
  | [d1, d2, d3, d4] => { results := [.lit (.bool false)], args := [d1, d2, d3, d4] }
  | _ => none }
def DepositStillWrongFalsely : Prop := depositStillRow.holds Try.pinned (OpenSpec.ofChange depositStillWrong)

/-- 'additivelaw55.DepositWarms': WHATEVER THE INPUT: true; the input reads as it did. -/
def depositWarmsSpec : ChangeSpec := { name := "depositWarms", fn := fun _ => fun
  | [d] => { results := [.lit (.bool true)], args := [d] }
  | _ => none }
def depositWarmsRow : OpenClaim := { program := "ytlfbjflfbjkbeaa", sum := "c237518f67713f457548e5ed7338478016d76e2239c5654fdfdb77f37ea89916", func := "additive/additivelaw55.DepositWarms", spec := "depositWarms", unfollowed := true, recurses := true, apart := false }
def DepositWarmsSaid : Prop := depositWarmsRow.holds Try.pinned (OpenSpec.ofChange depositWarmsSpec)

/-- ITS FALSE NEIGHBOUR: 'it returns false'. Refute it at one input. -/
def depositWarmsWrong : ChangeSpec := { name := "depositWarms", fn := fun _ => fun
  | [d] => { results := [.lit (.bool false)], args := [d] }
  | _ => none }
def DepositWarmsWrongFalsely : Prop := depositWarmsRow.holds Try.pinned (OpenSpec.ofChange depositWarmsWrong)

/-- 'additivelaw55.DepositConserves': WHATEVER THE INPUT: true; the input reads as it did. -/
def depositConservesSpec : ChangeSpec := { name := "depositConserves", fn := fun _ => fun
  | [d1, d2, d3, d4] => { results := [.lit (.bool true)], args := [d1, d2, d3, d4] }
  | _ => none }
def depositConservesRow : OpenClaim := { program := "ytlfbjflfbjkbeaa", sum := "c237518f67713f457548e5ed7338478016d76e2239c5654fdfdb77f37ea89916", func := "additive/additivelaw55.DepositConserves", spec := "depositConserves", unfollowed := true, recurses := true, apart := false }
def DepositConservesSaid : Prop := depositConservesRow.holds Try.pinned (OpenSpec.ofChange depositConservesSpec)

/-- ITS FALSE NEIGHBOUR: 'it returns false'. Refute it at one input. -/
def depositConservesWrong : ChangeSpec := { name := "depositConserves", fn := fun _ => fun
  | [d1, d2, d3, d4] => { results := [.lit (.bool false)], args := [d1, d2, d3, d4] }
  | _ => none }
def DepositConservesWrongFalsely : Prop := depositConservesRow.holds Try.pinned (OpenSpec.ofChange depositConservesWrong)

/- THE SECOND FORM. 'bulk': how many values and letters a reading holds, each counted each time it is reached (what is shared counts as often as it is met; a slice's spare places count too). A statement '..UptoSaid' is the law's where the arguments, and the package variables that the reading takes, are together of bulk at most 1048576: NARROWER than '..Said'. Prove '..Said' where nothing that the law and all that it calls make is longer than what came in: it says more and counts as full. Else prove '..UptoSaid'. A law counts once. -/
mutual
def uptoBulk {H : Type} : DataW H → Nat
  | .lit (.string bytes) => bytes.length + 1
  | .lit _ => 1
  | .nil => 1
  | .ptr d => uptoBulk d + 1
  | .slice elems spare => uptoBulkAll elems + uptoBulkAll spare + 1
  | .agg parts => uptoBulkAll parts + 1
  | .iface _ d => uptoBulk d + 1
  | .map entries => uptoBulkEntries entries + 1
  | .held _ => 1
def uptoBulkAll {H : Type} : List (DataW H) → Nat
  | [] => 0
  | d :: r => uptoBulk d + uptoBulkAll r
def uptoBulkEntries {H : Type} : List (Lit × DataW H) → Nat
  | [] => 0
  | x :: r => uptoBulkEntry x + uptoBulkEntries r
def uptoBulkEntry {H : Type} : Lit × DataW H → Nat
  | (.string bytes, d) => bytes.length + uptoBulk d + 1
  | (_, d) => uptoBulk d + 1
 end
def uptoSmall : (H : Type) → List (DataW H) → Bool := fun _ ds => decide (uptoBulkAll ds ≤ 1048576)
def OpenSpec.upto (s : _root_.Go.ChangeSpec) : _root_.Go.OpenSpec := { _root_.Go.OpenSpec.ofChange s with cond := some uptoSmall }

/-- 'additivelaw55.DepositUnder', WHERE WHAT IT READS IS OF BULK AT MOST 1048576: true; the input reads as it did. -/
def depositUnderUptoRow : OpenClaim := { program := "ytlfbjflfbjkbeaa", sum := "c237518f67713f457548e5ed7338478016d76e2239c5654fdfdb77f37ea89916", func := "additive/additivelaw55.DepositUnder", spec := "depositUnder", unfollowed := true, recurses := true, apart := false, narrowed := true }
def DepositUnderUptoSaid : Prop := depositUnderUptoRow.holds Try.pinned (OpenSpec.upto depositUnderSpec)

/-- 'additivelaw55.DepositStill', WHERE WHAT IT READS IS OF BULK AT MOST 1048576: true; the input reads as it did. -/
def depositStillUptoRow : OpenClaim := { program := "ytlfbjflfbjkbeaa", sum := "c237518f67713f457548e5ed7338478016d76e2239c5654fdfdb77f37ea89916", func := "additive/additivelaw55.DepositStill", spec := "depositStill", unfollowed := true, recurses := true, apart := false, narrowed := true }
def DepositStillUptoSaid : Prop := depositStillUptoRow.holds Try.pinned (OpenSpec.upto depositStillSpec)

/-- 'additivelaw55.DepositWarms', WHERE WHAT IT READS IS OF BULK AT MOST 1048576: true; the input reads as it did. -/
def depositWarmsUptoRow : OpenClaim := { program := "ytlfbjflfbjkbeaa", sum := "c237518f67713f457548e5ed7338478016d76e2239c5654fdfdb77f37ea89916", func := "additive/additivelaw55.DepositWarms", spec := "depositWarms", unfollowed := true, recurses := true, apart := false, narrowed := true }
def DepositWarmsUptoSaid : Prop := depositWarmsUptoRow.holds Try.pinned (OpenSpec.upto depositWarmsSpec)

/-- 'additivelaw55.DepositConserves', WHERE WHAT IT READS IS OF BULK AT MOST 1048576: true; the input reads as it did. -/
def depositConservesUptoRow : OpenClaim := { program := "ytlfbjflfbjkbeaa", sum := "c237518f67713f457548e5ed7338478016d76e2239c5654fdfdb77f37ea89916", func := "additive/additivelaw55.DepositConserves", spec := "depositConserves", unfollowed := true, recurses := true, apart := false, narrowed := true }
def DepositConservesUptoSaid : Prop := depositConservesUptoRow.holds Try.pinned (OpenSpec.upto depositConservesSpec)

end Rows
end Go.Proofs.Ytlfbjflfbjkbeaa
