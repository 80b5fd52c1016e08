/-
  No cell of these rows narrows 'for every input' (looked for: loops, veiled, ifaces, maps, wideKeys, modest, calm, conditions, laid).
  DERIVED. THE GIVEN ROWS OF THIS SEAT. 5 by the template 'for every input the law returns true; each argument reads behind the call as it read before'; 0 by the template 'total and deterministic' (their statements: YtnnpmkeojfmclaaTotals.lean).
  GIVEN WITH THE SEED: the statements are not yours to turn. If you find one false, say at which input.
  Laid BY PROGRAM, IN A SANDBOX (cutbox-rows.mjs): the forced cells as the released guide's own fill.sh prints them over the translation 52177421916a615c… (all of the seat's roots in one cut). By AI agents, Wed Nov 11 2026. No macro, syntax, notation, axiom, sorry.
-/
import Derived.Test.YtnnpmkeojfmclaaChecked
import GoSem.Claim
import GoSem.ClaimJoined
import GoSem.ClaimMapViews
import Derived.JoinedTies
import Derived.KernelRfl
namespace Go.Proofs.Ytnnpmkeojfmclaa
/- THE CELL 'sum', in the pinned program and in every row, IS THE sha256 OF THE DUMP (.gsa) THAT YtnnpmkeojfmclaaProg.lean LOADS. Nothing in Lean hashes anything: it is a label: what it is worth is what the hold of that sum in a sandbox is worth. -/
noncomputable def Try.pinned : Pinned := { name := "ytnnpmkeojfmclaa", sum := "52177421916a615c3d0cb5ce16ef2324f3755365994c20b66fad0ff2d5b5a6a7", checked := Try.checked }
namespace Rows
def none {H : Type} : Left H := { results := [], args := [] }

/-- 'additivelaw36.CoolTimes': WHATEVER THE INPUT: true; the input reads as it did. -/
def coolTimesSpec : ChangeSpec := { name := "coolTimes", fn := fun _ => fun
  | [d1, d2] => { results := [.lit (.bool true)], args := [d1, d2] }
  | _ => none }
def coolTimesRow : OpenClaim := { program := "ytnnpmkeojfmclaa", sum := "52177421916a615c3d0cb5ce16ef2324f3755365994c20b66fad0ff2d5b5a6a7", func := "additive/additivelaw36.CoolTimes", spec := "coolTimes", unfollowed := true, recurses := true, apart := false }
def CoolTimesSaid : Prop := coolTimesRow.holds Try.pinned (OpenSpec.ofChange coolTimesSpec)

/-- ITS FALSE NEIGHBOUR: 'it returns false'. Refute it at one input. -/
def coolTimesWrong : ChangeSpec := { name := "coolTimes", fn := fun _ => fun
  | [d1, d2] => { results := [.lit (.bool false)], args := [d1, d2] }
  | _ => none }
def CoolTimesWrongFalsely : Prop := coolTimesRow.holds Try.pinned (OpenSpec.ofChange coolTimesWrong)

/-- 'additivelaw36.CoolSlows': WHATEVER THE INPUT: true; the input reads as it did. -/
def coolSlowsSpec : ChangeSpec := { name := "coolSlows", fn := fun _ => fun
  | [d1, d2] => { results := [.lit (.bool true)], args := [d1, d2] }
  | _ => none }
def coolSlowsRow : OpenClaim := { program := "ytnnpmkeojfmclaa", sum := "52177421916a615c3d0cb5ce16ef2324f3755365994c20b66fad0ff2d5b5a6a7", func := "additive/additivelaw36.CoolSlows", spec := "coolSlows", unfollowed := true, recurses := true, apart := false }
def CoolSlowsSaid : Prop := coolSlowsRow.holds Try.pinned (OpenSpec.ofChange coolSlowsSpec)

/-- ITS FALSE NEIGHBOUR: 'it returns false'. Refute it at one input. -/
def coolSlowsWrong : ChangeSpec := { name := "coolSlows", fn := fun _ => fun
  | [d1, d2] => { results := [.lit (.bool false)], args := [d1, d2] }
  | _ => none }
def CoolSlowsWrongFalsely : Prop := coolSlowsRow.holds Try.pinned (OpenSpec.ofChange coolSlowsWrong)

/-- 'additivelaw36.CoolMeets': WHATEVER THE INPUT: true; the input reads as it did. -/
def coolMeetsSpec : ChangeSpec := { name := "coolMeets", fn := fun _ => fun
  | [d1, d2] => { results := [.lit (.bool true)], args := [d1, d2] }
  | _ => none }
def coolMeetsRow : OpenClaim := { program := "ytnnpmkeojfmclaa", sum := "52177421916a615c3d0cb5ce16ef2324f3755365994c20b66fad0ff2d5b5a6a7", func := "additive/additivelaw36.CoolMeets", spec := "coolMeets", unfollowed := true, recurses := true, apart := false }
def CoolMeetsSaid : Prop := coolMeetsRow.holds Try.pinned (OpenSpec.ofChange coolMeetsSpec)

/-- ITS FALSE NEIGHBOUR: 'it returns false'. Refute it at one input. -/
def coolMeetsWrong : ChangeSpec := { name := "coolMeets", fn := fun _ => fun
  | [d1, d2] => { results := [.lit (.bool false)], args := [d1, d2] }
  | _ => none }
def CoolMeetsWrongFalsely : Prop := coolMeetsRow.holds Try.pinned (OpenSpec.ofChange coolMeetsWrong)

/-- 'additivelaw36.CoolAgain': WHATEVER THE INPUT: true; the input reads as it did. -/
def coolAgainSpec : ChangeSpec := { name := "coolAgain", fn := fun _ => fun
  | [d1, d2, d3] => { results := [.lit (.bool true)], args := [d1, d2, d3] }
  | _ => none }
def coolAgainRow : OpenClaim := { program := "ytnnpmkeojfmclaa", sum := "52177421916a615c3d0cb5ce16ef2324f3755365994c20b66fad0ff2d5b5a6a7", func := "additive/additivelaw36.CoolAgain", spec := "coolAgain", unfollowed := true, recurses := true, apart := false }
def CoolAgainSaid : Prop := coolAgainRow.holds Try.pinned (OpenSpec.ofChange coolAgainSpec)

/-- ITS FALSE NEIGHBOUR: 'it returns false'. Refute it at one input. -/
def coolAgainWrong : ChangeSpec := { name := "coolAgain", fn := fun _ => fun
  | [d1, d2, d3] => { results := [.lit (.bool false)], args := [d1, d2, d3] }
  | _ => none }
def CoolAgainWrongFalsely : Prop := coolAgainRow.holds Try.pinned (OpenSpec.ofChange coolAgainWrong)

/-- 'additivelaw36.CoolOthers': WHATEVER THE INPUT: true; the input reads as it did. -/
def coolOthersSpec : ChangeSpec := { name := "coolOthers", fn := fun _ => fun
  | [d1, d2] => { results := [.lit (.bool true)], args := [d1, d2] }
  | _ => none }
def coolOthersRow : OpenClaim := { program := "ytnnpmkeojfmclaa", sum := "52177421916a615c3d0cb5ce16ef2324f3755365994c20b66fad0ff2d5b5a6a7", func := "additive/additivelaw36.CoolOthers", spec := "coolOthers", unfollowed := true, recurses := true, apart := false }
def CoolOthersSaid : Prop := coolOthersRow.holds Try.pinned (OpenSpec.ofChange coolOthersSpec)

/-- ITS FALSE NEIGHBOUR: 'it returns false'. Refute it at one input. -/
def coolOthersWrong : ChangeSpec := { name := "coolOthers", fn := fun _ => fun
  | [d1, d2] => { results := [.lit (.bool false)], args := [d1, d2] }
  | _ => none }
def CoolOthersWrongFalsely : Prop := coolOthersRow.holds Try.pinned (OpenSpec.ofChange coolOthersWrong)

/- THE SECOND FORM. 'bulk': how many values and letters a reading holds, each counted each time it is reached (what is shared counts as often as it is met; a slice's spare places count too). A statement '..UptoSaid' is the law's where the arguments, and the package variables that the reading takes, are together of bulk at most 1048576: NARROWER than '..Said'. Prove '..Said' where nothing that the law and all that it calls make is longer than what came in: it says more and counts as full. Else prove '..UptoSaid'. A law counts once. -/
mutual
def uptoBulk {H : Type} : DataW H → Nat
  | .lit (.string bytes) => bytes.length + 1
  | .lit _ => 1
  | .nil => 1
  | .ptr d => uptoBulk d + 1
  | .slice elems spare => uptoBulkAll elems + uptoBulkAll spare + 1
  | .agg parts => uptoBulkAll parts + 1
  | .iface _ d => uptoBulk d + 1
  | .map entries => uptoBulkEntries entries + 1
  | .held _ => 1
def uptoBulkAll {H : Type} : List (DataW H) → Nat
  | [] => 0
  | d :: r => uptoBulk d + uptoBulkAll r
def uptoBulkEntries {H : Type} : List (Lit × DataW H) → Nat
  | [] => 0
  | x :: r => uptoBulkEntry x + uptoBulkEntries r
def uptoBulkEntry {H : Type} : Lit × DataW H → Nat
  | (.string bytes, d) => bytes.length + uptoBulk d + 1
  | (_, d) => uptoBulk d + 1
 end
def uptoSmall : (H : Type) → List (DataW H) → Bool := fun _ ds => decide (uptoBulkAll ds ≤ 1048576)
def OpenSpec.upto (s : _root_.Go.ChangeSpec) : _root_.Go.OpenSpec := { _root_.Go.OpenSpec.ofChange s with cond := some uptoSmall }

/-- 'additivelaw36.CoolTimes', WHERE WHAT IT READS IS OF BULK AT MOST 1048576: true; the input reads as it did. -/
def coolTimesUptoRow : OpenClaim := { program := "ytnnpmkeojfmclaa", sum := "52177421916a615c3d0cb5ce16ef2324f3755365994c20b66fad0ff2d5b5a6a7", func := "additive/additivelaw36.CoolTimes", spec := "coolTimes", unfollowed := true, recurses := true, apart := false, narrowed := true }
def CoolTimesUptoSaid : Prop := coolTimesUptoRow.holds Try.pinned (OpenSpec.upto coolTimesSpec)

/-- 'additivelaw36.CoolSlows', WHERE WHAT IT READS IS OF BULK AT MOST 1048576: true; the input reads as it did. -/
def coolSlowsUptoRow : OpenClaim := { program := "ytnnpmkeojfmclaa", sum := "52177421916a615c3d0cb5ce16ef2324f3755365994c20b66fad0ff2d5b5a6a7", func := "additive/additivelaw36.CoolSlows", spec := "coolSlows", unfollowed := true, recurses := true, apart := false, narrowed := true }
def CoolSlowsUptoSaid : Prop := coolSlowsUptoRow.holds Try.pinned (OpenSpec.upto coolSlowsSpec)

/-- 'additivelaw36.CoolMeets', WHERE WHAT IT READS IS OF BULK AT MOST 1048576: true; the input reads as it did. -/
def coolMeetsUptoRow : OpenClaim := { program := "ytnnpmkeojfmclaa", sum := "52177421916a615c3d0cb5ce16ef2324f3755365994c20b66fad0ff2d5b5a6a7", func := "additive/additivelaw36.CoolMeets", spec := "coolMeets", unfollowed := true, recurses := true, apart := false, narrowed := true }
def CoolMeetsUptoSaid : Prop := coolMeetsUptoRow.holds Try.pinned (OpenSpec.upto coolMeetsSpec)

/-- 'additivelaw36.CoolAgain', WHERE WHAT IT READS IS OF BULK AT MOST 1048576: true; the input reads as it did. -/
def coolAgainUptoRow : OpenClaim := { program := "ytnnpmkeojfmclaa", sum := "52177421916a615c3d0cb5ce16ef2324f3755365994c20b66fad0ff2d5b5a6a7", func := "additive/additivelaw36.CoolAgain", spec := "coolAgain", unfollowed := true, recurses := true, apart := false, narrowed := true }
def CoolAgainUptoSaid : Prop := coolAgainUptoRow.holds Try.pinned (OpenSpec.upto coolAgainSpec)

/-- 'additivelaw36.CoolOthers', WHERE WHAT IT READS IS OF BULK AT MOST 1048576: true; the input reads as it did. -/
def coolOthersUptoRow : OpenClaim := { program := "ytnnpmkeojfmclaa", sum := "52177421916a615c3d0cb5ce16ef2324f3755365994c20b66fad0ff2d5b5a6a7", func := "additive/additivelaw36.CoolOthers", spec := "coolOthers", unfollowed := true, recurses := true, apart := false, narrowed := true }
def CoolOthersUptoSaid : Prop := coolOthersUptoRow.holds Try.pinned (OpenSpec.upto coolOthersSpec)

end Rows
end Go.Proofs.Ytnnpmkeojfmclaa
