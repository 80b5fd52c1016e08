/-
  NARROWER THAN 'FOR EVERY INPUT', by the rows' own cells (each row's printed sentence says how): RegionPictures: laid · RegionReads: laid · RegionLarge: laid · RegionDrawn: laid.
  DERIVED. THE GIVEN ROWS OF THIS SEAT. 4 by the template 'for every input the law returns true; each argument reads behind the call as it read before'; 0 by the template 'total and deterministic' (their statements: YtgicofpllopjmaaDoorTotals.lean).
  GIVEN WITH THE SEED: the statements are not yours to turn. If you find one false, say at which input.
  Laid BY PROGRAM, IN A SANDBOX (cutbox-rows.mjs): the forced cells as the released guide's own fill.sh prints them over the translation ddb5243f50290bc0… (all of the seat's roots in one cut). By AI agents, Wed Nov 11 2026. No macro, syntax, notation, axiom, sorry.
-/
import Derived.Test.YtgicofpllopjmaaDoorChecked
import GoSem.PinnedTables
import GoSem.Claim
import GoSem.ClaimJoined
import GoSem.ClaimMapViews
import Derived.JoinedTies
import Derived.KernelRfl
namespace Go.Proofs.YtgicofpllopjmaaDoor
/- THE CELL 'sum', in the pinned program and in every row, IS THE sha256 OF THE DUMP (.gsa) THAT YtgicofpllopjmaaDoorProg.lean LOADS. Nothing in Lean hashes anything: it is a label: what it is worth is what the hold of that sum in a sandbox is worth. -/
noncomputable def Tryd.pinned : Pinned := { name := "ytgicofpllopjmaadoor", sum := "ddb5243f50290bc0522698a805a79faa68d2f4e5f906bf57b6ab082c20e9aef0", checked := Tryd.checked }
namespace Rows
def none {H : Type} : Left H := { results := [], args := [] }

/- WHAT THE LISTED PACKAGE-LEVEL VARIABLES READ AS WHEN THE CALL BEGINS. Each datum BY PROGRAM (the guide's laid-datum.mjs) off the statement by which the dump's own 'gosem.cut.vars' lays the variable. In a bare row this is a premise. The card (YtgicofpllopjmaaDoorCards.lean) ties it to the program's text. -/
def laid_unicode_utf8_acceptRanges {H : Type} : DataW H := .agg [.agg [.lit (.int .u8 128), .lit (.int .u8 191)], .agg [.lit (.int .u8 160), .lit (.int .u8 191)], .agg [.lit (.int .u8 128), .lit (.int .u8 159)], .agg [.lit (.int .u8 144), .lit (.int .u8 191)], .agg [.lit (.int .u8 128), .lit (.int .u8 143)], .agg [.lit (.int .u8 0), .lit (.int .u8 0)], .agg [.lit (.int .u8 0), .lit (.int .u8 0)], .agg [.lit (.int .u8 0), .lit (.int .u8 0)], .agg [.lit (.int .u8 0), .lit (.int .u8 0)], .agg [.lit (.int .u8 0), .lit (.int .u8 0)], .agg [.lit (.int .u8 0), .lit (.int .u8 0)], .agg [.lit (.int .u8 0), .lit (.int .u8 0)], .agg [.lit (.int .u8 0), .lit (.int .u8 0)], .agg [.lit (.int .u8 0), .lit (.int .u8 0)], .agg [.lit (.int .u8 0), .lit (.int .u8 0)], .agg [.lit (.int .u8 0), .lit (.int .u8 0)]]
/-- One of Go's own tables, pinned by name: the form's constant. -/
def laid_unicode_utf8_first : DataW Unit := Go.Pinned.utf8First

/-- 'additivelaw18.RegionPictures': WHATEVER THE INPUT: true; the input reads as it did. -/
def regionPicturesSpec : ChangeSpec := { name := "regionPictures", fn := fun _ => fun
  | [d] => { results := [.lit (.bool true)], args := [d] }
  | _ => none }
def regionPicturesRow : OpenClaim := { program := "ytgicofpllopjmaadoor", sum := "ddb5243f50290bc0522698a805a79faa68d2f4e5f906bf57b6ab082c20e9aef0", func := "additive/additivelaw18.RegionPictures", spec := "regionPictures", inPlace := ["internal/abi.NoEscape", "internal/bytealg.MakeNoZero", "internal/bytealg.CountString", "internal/bytealg.IndexByteString", "internal/bytealg.IndexString"], unfollowed := true, recurses := true, named := ["unicode/utf8.first", "unicode/utf8.acceptRanges", "internal/bytealg.MaxLen"], apart := false, laid := [("unicode/utf8.acceptRanges", laid_unicode_utf8_acceptRanges), ("unicode/utf8.first", laid_unicode_utf8_first)] }
def RegionPicturesSaid : Prop := regionPicturesRow.holds Tryd.pinned (OpenSpec.ofChange regionPicturesSpec)

/-- ITS FALSE NEIGHBOUR: 'it returns false'. Refute it at one input. -/
def regionPicturesWrong : ChangeSpec := { name := "regionPictures", fn := fun _ => fun
  | [d] => { results := [.lit (.bool false)], args := [d] }
  | _ => none }
def RegionPicturesWrongFalsely : Prop := regionPicturesRow.holds Tryd.pinned (OpenSpec.ofChange regionPicturesWrong)

/-- 'additivelaw18.RegionReads': WHATEVER THE INPUT: true; the input reads as it did. -/
def regionReadsSpec : ChangeSpec := { name := "regionReads", fn := fun _ => fun
  | [d1, d2] => { results := [.lit (.bool true)], args := [d1, d2] }
  | _ => none }
def regionReadsRow : OpenClaim := { program := "ytgicofpllopjmaadoor", sum := "ddb5243f50290bc0522698a805a79faa68d2f4e5f906bf57b6ab082c20e9aef0", func := "additive/additivelaw18.RegionReads", spec := "regionReads", inPlace := ["internal/bytealg.CountString", "internal/bytealg.IndexByteString", "internal/bytealg.IndexString", "internal/abi.NoEscape", "internal/bytealg.MakeNoZero"], unfollowed := true, recurses := true, named := ["unicode/utf8.first", "unicode/utf8.acceptRanges", "internal/bytealg.MaxLen"], apart := false, laid := [("unicode/utf8.acceptRanges", laid_unicode_utf8_acceptRanges), ("unicode/utf8.first", laid_unicode_utf8_first)] }
def RegionReadsSaid : Prop := regionReadsRow.holds Tryd.pinned (OpenSpec.ofChange regionReadsSpec)

/-- ITS FALSE NEIGHBOUR: 'it returns false'. Refute it at one input. -/
def regionReadsWrong : ChangeSpec := { name := "regionReads", fn := fun _ => fun
  | [d1, d2] => { results := [.lit (.bool false)], args := [d1, d2] }
  | _ => none }
def RegionReadsWrongFalsely : Prop := regionReadsRow.holds Tryd.pinned (OpenSpec.ofChange regionReadsWrong)

/-- 'additivelaw18.RegionLarge': WHATEVER THE INPUT: true; the input reads as it did. -/
def regionLargeSpec : ChangeSpec := { name := "regionLarge", fn := fun _ => fun
  | [d1, d2] => { results := [.lit (.bool true)], args := [d1, d2] }
  | _ => none }
def regionLargeRow : OpenClaim := { program := "ytgicofpllopjmaadoor", sum := "ddb5243f50290bc0522698a805a79faa68d2f4e5f906bf57b6ab082c20e9aef0", func := "additive/additivelaw18.RegionLarge", spec := "regionLarge", inPlace := ["internal/abi.NoEscape", "internal/bytealg.MakeNoZero", "internal/bytealg.CountString", "internal/bytealg.IndexByteString", "internal/bytealg.IndexString"], unfollowed := true, recurses := true, named := ["unicode/utf8.first", "unicode/utf8.acceptRanges", "internal/bytealg.MaxLen"], apart := false, laid := [("unicode/utf8.acceptRanges", laid_unicode_utf8_acceptRanges), ("unicode/utf8.first", laid_unicode_utf8_first)] }
def RegionLargeSaid : Prop := regionLargeRow.holds Tryd.pinned (OpenSpec.ofChange regionLargeSpec)

/-- ITS FALSE NEIGHBOUR: 'it returns false'. Refute it at one input. -/
def regionLargeWrong : ChangeSpec := { name := "regionLarge", fn := fun _ => fun
  | [d1, d2] => { results := [.lit (.bool false)], args := [d1, d2] }
  | _ => none }
def RegionLargeWrongFalsely : Prop := regionLargeRow.holds Tryd.pinned (OpenSpec.ofChange regionLargeWrong)

/-- 'additivelaw18.RegionDrawn': WHATEVER THE INPUT: true; the input reads as it did. -/
def regionDrawnSpec : ChangeSpec := { name := "regionDrawn", fn := fun _ => fun
  | [d1, d2, d3] => { results := [.lit (.bool true)], args := [d1, d2, d3] }
  | _ => none }
def regionDrawnRow : OpenClaim := { program := "ytgicofpllopjmaadoor", sum := "ddb5243f50290bc0522698a805a79faa68d2f4e5f906bf57b6ab082c20e9aef0", func := "additive/additivelaw18.RegionDrawn", spec := "regionDrawn", inPlace := ["internal/bytealg.CountString", "internal/bytealg.IndexByteString", "internal/bytealg.IndexString", "internal/abi.NoEscape", "internal/bytealg.MakeNoZero"], unfollowed := true, recurses := true, named := ["unicode/utf8.first", "unicode/utf8.acceptRanges", "internal/bytealg.MaxLen"], apart := false, laid := [("unicode/utf8.acceptRanges", laid_unicode_utf8_acceptRanges), ("unicode/utf8.first", laid_unicode_utf8_first)] }
def RegionDrawnSaid : Prop := regionDrawnRow.holds Tryd.pinned (OpenSpec.ofChange regionDrawnSpec)

/-- ITS FALSE NEIGHBOUR: 'it returns false'. Refute it at one input. -/
def regionDrawnWrong : ChangeSpec := { name := "regionDrawn", fn := fun _ => fun
  | [d1, d2, d3] => { results := [.lit (.bool false)], args := [d1, d2, d3] }
  | _ => none }
def RegionDrawnWrongFalsely : Prop := regionDrawnRow.holds Tryd.pinned (OpenSpec.ofChange regionDrawnWrong)

/- THE SECOND FORM. 'bulk': how many values and letters a reading holds, each counted each time it is reached (what is shared counts as often as it is met; a slice's spare places count too). A statement '..UptoSaid' is the law's where the arguments, and the package variables that the reading takes, are together of bulk at most 1048576: NARROWER than '..Said'. Prove '..Said' where nothing that the law and all that it calls make is longer than what came in: it says more and counts as full. Else prove '..UptoSaid'. A law counts once. -/
mutual
def uptoBulk {H : Type} : DataW H → Nat
  | .lit (.string bytes) => bytes.length + 1
  | .lit _ => 1
  | .nil => 1
  | .ptr d => uptoBulk d + 1
  | .slice elems spare => uptoBulkAll elems + uptoBulkAll spare + 1
  | .agg parts => uptoBulkAll parts + 1
  | .iface _ d => uptoBulk d + 1
  | .map entries => uptoBulkEntries entries + 1
  | .held _ => 1
def uptoBulkAll {H : Type} : List (DataW H) → Nat
  | [] => 0
  | d :: r => uptoBulk d + uptoBulkAll r
def uptoBulkEntries {H : Type} : List (Lit × DataW H) → Nat
  | [] => 0
  | x :: r => uptoBulkEntry x + uptoBulkEntries r
def uptoBulkEntry {H : Type} : Lit × DataW H → Nat
  | (.string bytes, d) => bytes.length + uptoBulk d + 1
  | (_, d) => uptoBulk d + 1
 end
def uptoSmall : (H : Type) → List (DataW H) → Bool := fun _ ds => decide (uptoBulkAll ds ≤ 1048576)
def OpenSpec.upto (s : _root_.Go.ChangeSpec) : _root_.Go.OpenSpec := { _root_.Go.OpenSpec.ofChange s with cond := some uptoSmall }

/-- 'additivelaw18.RegionPictures', WHERE WHAT IT READS IS OF BULK AT MOST 1048576: true; the input reads as it did. -/
def regionPicturesUptoRow : OpenClaim := { program := "ytgicofpllopjmaadoor", sum := "ddb5243f50290bc0522698a805a79faa68d2f4e5f906bf57b6ab082c20e9aef0", func := "additive/additivelaw18.RegionPictures", spec := "regionPictures", inPlace := ["internal/abi.NoEscape", "internal/bytealg.MakeNoZero", "internal/bytealg.CountString", "internal/bytealg.IndexByteString", "internal/bytealg.IndexString"], unfollowed := true, recurses := true, named := ["unicode/utf8.first", "unicode/utf8.acceptRanges", "internal/bytealg.MaxLen"], apart := false, laid := [("unicode/utf8.acceptRanges", laid_unicode_utf8_acceptRanges), ("unicode/utf8.first", laid_unicode_utf8_first)], narrowed := true }
def RegionPicturesUptoSaid : Prop := regionPicturesUptoRow.holds Tryd.pinned (OpenSpec.upto regionPicturesSpec)

/-- 'additivelaw18.RegionReads', WHERE WHAT IT READS IS OF BULK AT MOST 1048576: true; the input reads as it did. -/
def regionReadsUptoRow : OpenClaim := { program := "ytgicofpllopjmaadoor", sum := "ddb5243f50290bc0522698a805a79faa68d2f4e5f906bf57b6ab082c20e9aef0", func := "additive/additivelaw18.RegionReads", spec := "regionReads", inPlace := ["internal/bytealg.CountString", "internal/bytealg.IndexByteString", "internal/bytealg.IndexString", "internal/abi.NoEscape", "internal/bytealg.MakeNoZero"], unfollowed := true, recurses := true, named := ["unicode/utf8.first", "unicode/utf8.acceptRanges", "internal/bytealg.MaxLen"], apart := false, laid := [("unicode/utf8.acceptRanges", laid_unicode_utf8_acceptRanges), ("unicode/utf8.first", laid_unicode_utf8_first)], narrowed := true }
def RegionReadsUptoSaid : Prop := regionReadsUptoRow.holds Tryd.pinned (OpenSpec.upto regionReadsSpec)

/-- 'additivelaw18.RegionLarge', WHERE WHAT IT READS IS OF BULK AT MOST 1048576: true; the input reads as it did. -/
def regionLargeUptoRow : OpenClaim := { program := "ytgicofpllopjmaadoor", sum := "ddb5243f50290bc0522698a805a79faa68d2f4e5f906bf57b6ab082c20e9aef0", func := "additive/additivelaw18.RegionLarge", spec := "regionLarge", inPlace := ["internal/abi.NoEscape", "internal/bytealg.MakeNoZero", "internal/bytealg.CountString", "internal/bytealg.IndexByteString", "internal/bytealg.IndexString"], unfollowed := true, recurses := true, named := ["unicode/utf8.first", "unicode/utf8.acceptRanges", "internal/bytealg.MaxLen"], apart := false, laid := [("unicode/utf8.acceptRanges", laid_unicode_utf8_acceptRanges), ("unicode/utf8.first", laid_unicode_utf8_first)], narrowed := true }
def RegionLargeUptoSaid : Prop := regionLargeUptoRow.holds Tryd.pinned (OpenSpec.upto regionLargeSpec)

/-- 'additivelaw18.RegionDrawn', WHERE WHAT IT READS IS OF BULK AT MOST 1048576: true; the input reads as it did. -/
def regionDrawnUptoRow : OpenClaim := { program := "ytgicofpllopjmaadoor", sum := "ddb5243f50290bc0522698a805a79faa68d2f4e5f906bf57b6ab082c20e9aef0", func := "additive/additivelaw18.RegionDrawn", spec := "regionDrawn", inPlace := ["internal/bytealg.CountString", "internal/bytealg.IndexByteString", "internal/bytealg.IndexString", "internal/abi.NoEscape", "internal/bytealg.MakeNoZero"], unfollowed := true, recurses := true, named := ["unicode/utf8.first", "unicode/utf8.acceptRanges", "internal/bytealg.MaxLen"], apart := false, laid := [("unicode/utf8.acceptRanges", laid_unicode_utf8_acceptRanges), ("unicode/utf8.first", laid_unicode_utf8_first)], narrowed := true }
def RegionDrawnUptoSaid : Prop := regionDrawnUptoRow.holds Tryd.pinned (OpenSpec.upto regionDrawnSpec)

end Rows
end Go.Proofs.YtgicofpllopjmaaDoor
