/-
  No cell of these rows narrows 'for every input' (looked for: loops, veiled, ifaces, maps, wideKeys, modest, calm, conditions, laid).
  DERIVED. THE GIVEN ROWS OF THIS SEAT. 6 by the template 'for every input the law returns true; each argument reads behind the call as it read before'; 0 by the template 'total and deterministic' (their statements: YtagakfaiimaifaaTotals.lean).
  GIVEN WITH THE SEED: the statements are not yours to turn. If you find one false, say at which input.
  Laid BY PROGRAM, IN A SANDBOX (cutbox-rows.mjs): the forced cells as the released guide's own fill.sh prints them over the translation bf09b0e339ca15f9… (all of the seat's roots in one cut). By AI agents, Wed Nov 11 2026. No macro, syntax, notation, axiom, sorry.
-/
import Derived.Test.YtagakfaiimaifaaChecked
import GoSem.Claim
import GoSem.ClaimJoined
import GoSem.ClaimMapViews
import Derived.JoinedTies
import Derived.KernelRfl
namespace Go.Proofs.Ytagakfaiimaifaa
/- THE CELL 'sum', in the pinned program and in every row, IS THE sha256 OF THE DUMP (.gsa) THAT YtagakfaiimaifaaProg.lean LOADS. Nothing in Lean hashes anything: it is a label: what it is worth is what the hold of that sum in a sandbox is worth. -/
noncomputable def Try.pinned : Pinned := { name := "ytagakfaiimaifaa", sum := "bf09b0e339ca15f987a1e6e50507780615424e8e1e2c3ad5b5fbafb1afd71099", checked := Try.checked }
namespace Rows
def none {H : Type} : Left H := { results := [], args := [] }

/-- 'additivelaw21.PartsComponents': WHATEVER THE INPUT: true; the input reads as it did. -/
def partsComponentsSpec : ChangeSpec := { name := "partsComponents", fn := fun _ => fun
  | [d] => { results := [.lit (.bool true)], args := [d] }
  | _ => none }
def partsComponentsRow : OpenClaim := { program := "ytagakfaiimaifaa", sum := "bf09b0e339ca15f987a1e6e50507780615424e8e1e2c3ad5b5fbafb1afd71099", func := "additive/additivelaw21.PartsComponents", spec := "partsComponents", unfollowed := true, recurses := true, plainKeys := false, apart := false }
def PartsComponentsSaid : Prop := partsComponentsRow.holds Try.pinned (OpenSpec.ofChange partsComponentsSpec)

/-- ITS FALSE NEIGHBOUR: 'it returns false'. Refute it at one input. -/
def partsComponentsWrong : ChangeSpec := { name := "partsComponents", fn := fun _ => fun
  | [d] => { results := [.lit (.bool false)], args := [d] }
  | _ => none }
def PartsComponentsWrongFalsely : Prop := partsComponentsRow.holds Try.pinned (OpenSpec.ofChange partsComponentsWrong)

/-- 'additivelaw21.PartsHoles': WHATEVER THE INPUT: true; the input reads as it did. -/
def partsHolesSpec : ChangeSpec := { name := "partsHoles", fn := fun _ => fun
  | [d] => { results := [.lit (.bool true)], args := [d] }
  | _ => none }
def partsHolesRow : OpenClaim := { program := "ytagakfaiimaifaa", sum := "bf09b0e339ca15f987a1e6e50507780615424e8e1e2c3ad5b5fbafb1afd71099", func := "additive/additivelaw21.PartsHoles", spec := "partsHoles", unfollowed := true, recurses := true, plainKeys := false, apart := false }
def PartsHolesSaid : Prop := partsHolesRow.holds Try.pinned (OpenSpec.ofChange partsHolesSpec)

/-- ITS FALSE NEIGHBOUR: 'it returns false'. Refute it at one input. -/
def partsHolesWrong : ChangeSpec := { name := "partsHoles", fn := fun _ => fun
  | [d] => { results := [.lit (.bool false)], args := [d] }
  | _ => none }
def PartsHolesWrongFalsely : Prop := partsHolesRow.holds Try.pinned (OpenSpec.ofChange partsHolesWrong)

/-- 'additivelaw21.PartsDepths': WHATEVER THE INPUT: true; the input reads as it did. -/
def partsDepthsSpec : ChangeSpec := { name := "partsDepths", fn := fun _ => fun
  | [d1, d2] => { results := [.lit (.bool true)], args := [d1, d2] }
  | _ => none }
def partsDepthsRow : OpenClaim := { program := "ytagakfaiimaifaa", sum := "bf09b0e339ca15f987a1e6e50507780615424e8e1e2c3ad5b5fbafb1afd71099", func := "additive/additivelaw21.PartsDepths", spec := "partsDepths", unfollowed := true, recurses := true, plainKeys := false, apart := false }
def PartsDepthsSaid : Prop := partsDepthsRow.holds Try.pinned (OpenSpec.ofChange partsDepthsSpec)

/-- ITS FALSE NEIGHBOUR: 'it returns false'. Refute it at one input. -/
def partsDepthsWrong : ChangeSpec := { name := "partsDepths", fn := fun _ => fun
  | [d1, d2] => { results := [.lit (.bool false)], args := [d1, d2] }
  | _ => none }
def PartsDepthsWrongFalsely : Prop := partsDepthsRow.holds Try.pinned (OpenSpec.ofChange partsDepthsWrong)

/-- 'additivelaw21.PartsDivide': WHATEVER THE INPUT: true; the input reads as it did. -/
def partsDivideSpec : ChangeSpec := { name := "partsDivide", fn := fun _ => fun
  | [d] => { results := [.lit (.bool true)], args := [d] }
  | _ => none }
def partsDivideRow : OpenClaim := { program := "ytagakfaiimaifaa", sum := "bf09b0e339ca15f987a1e6e50507780615424e8e1e2c3ad5b5fbafb1afd71099", func := "additive/additivelaw21.PartsDivide", spec := "partsDivide", unfollowed := true, recurses := true, plainKeys := false, apart := false }
def PartsDivideSaid : Prop := partsDivideRow.holds Try.pinned (OpenSpec.ofChange partsDivideSpec)

/-- ITS FALSE NEIGHBOUR: 'it returns false'. Refute it at one input. -/
def partsDivideWrong : ChangeSpec := { name := "partsDivide", fn := fun _ => fun
  | [d] => { results := [.lit (.bool false)], args := [d] }
  | _ => none }
def PartsDivideWrongFalsely : Prop := partsDivideRow.holds Try.pinned (OpenSpec.ofChange partsDivideWrong)

/-- 'additivelaw21.PartsFilled': WHATEVER THE INPUT: true; the input reads as it did. -/
def partsFilledSpec : ChangeSpec := { name := "partsFilled", fn := fun _ => fun
  | [d] => { results := [.lit (.bool true)], args := [d] }
  | _ => none }
def partsFilledRow : OpenClaim := { program := "ytagakfaiimaifaa", sum := "bf09b0e339ca15f987a1e6e50507780615424e8e1e2c3ad5b5fbafb1afd71099", func := "additive/additivelaw21.PartsFilled", spec := "partsFilled", unfollowed := true, recurses := true, plainKeys := false, apart := false }
def PartsFilledSaid : Prop := partsFilledRow.holds Try.pinned (OpenSpec.ofChange partsFilledSpec)

/-- ITS FALSE NEIGHBOUR: 'it returns false'. Refute it at one input. -/
def partsFilledWrong : ChangeSpec := { name := "partsFilled", fn := fun _ => fun
  | [d] => { results := [.lit (.bool false)], args := [d] }
  | _ => none }
def PartsFilledWrongFalsely : Prop := partsFilledRow.holds Try.pinned (OpenSpec.ofChange partsFilledWrong)

/-- 'additivelaw21.PartsEroded': WHATEVER THE INPUT: true; the input reads as it did. -/
def partsErodedSpec : ChangeSpec := { name := "partsEroded", fn := fun _ => fun
  | [d1, d2, d3] => { results := [.lit (.bool true)], args := [d1, d2, d3] }
  | _ => none }
def partsErodedRow : OpenClaim := { program := "ytagakfaiimaifaa", sum := "bf09b0e339ca15f987a1e6e50507780615424e8e1e2c3ad5b5fbafb1afd71099", func := "additive/additivelaw21.PartsEroded", spec := "partsEroded", unfollowed := true, recurses := true, plainKeys := false, apart := false }
def PartsErodedSaid : Prop := partsErodedRow.holds Try.pinned (OpenSpec.ofChange partsErodedSpec)

/-- ITS FALSE NEIGHBOUR: 'it returns false'. Refute it at one input. -/
def partsErodedWrong : ChangeSpec := { name := "partsEroded", fn := fun _ => fun
  | [d1, d2, d3] => { results := [.lit (.bool false)], args := [d1, d2, d3] }
  | _ => none }
def PartsErodedWrongFalsely : Prop := partsErodedRow.holds Try.pinned (OpenSpec.ofChange partsErodedWrong)

/- THE SECOND FORM. 'bulk': how many values and letters a reading holds, each counted each time it is reached (what is shared counts as often as it is met; a slice's spare places count too). A statement '..UptoSaid' is the law's where the arguments, and the package variables that the reading takes, are together of bulk at most 1048576: NARROWER than '..Said'. Prove '..Said' where nothing that the law and all that it calls make is longer than what came in: it says more and counts as full. Else prove '..UptoSaid'. A law counts once. -/
mutual
def uptoBulk {H : Type} : DataW H → Nat
  | .lit (.string bytes) => bytes.length + 1
  | .lit _ => 1
  | .nil => 1
  | .ptr d => uptoBulk d + 1
  | .slice elems spare => uptoBulkAll elems + uptoBulkAll spare + 1
  | .agg parts => uptoBulkAll parts + 1
  | .iface _ d => uptoBulk d + 1
  | .map entries => uptoBulkEntries entries + 1
  | .held _ => 1
def uptoBulkAll {H : Type} : List (DataW H) → Nat
  | [] => 0
  | d :: r => uptoBulk d + uptoBulkAll r
def uptoBulkEntries {H : Type} : List (Lit × DataW H) → Nat
  | [] => 0
  | x :: r => uptoBulkEntry x + uptoBulkEntries r
def uptoBulkEntry {H : Type} : Lit × DataW H → Nat
  | (.string bytes, d) => bytes.length + uptoBulk d + 1
  | (_, d) => uptoBulk d + 1
 end
def uptoSmall : (H : Type) → List (DataW H) → Bool := fun _ ds => decide (uptoBulkAll ds ≤ 1048576)
def OpenSpec.upto (s : _root_.Go.ChangeSpec) : _root_.Go.OpenSpec := { _root_.Go.OpenSpec.ofChange s with cond := some uptoSmall }

/-- 'additivelaw21.PartsComponents', WHERE WHAT IT READS IS OF BULK AT MOST 1048576: true; the input reads as it did. -/
def partsComponentsUptoRow : OpenClaim := { program := "ytagakfaiimaifaa", sum := "bf09b0e339ca15f987a1e6e50507780615424e8e1e2c3ad5b5fbafb1afd71099", func := "additive/additivelaw21.PartsComponents", spec := "partsComponents", unfollowed := true, recurses := true, plainKeys := false, apart := false, narrowed := true }
def PartsComponentsUptoSaid : Prop := partsComponentsUptoRow.holds Try.pinned (OpenSpec.upto partsComponentsSpec)

/-- 'additivelaw21.PartsHoles', WHERE WHAT IT READS IS OF BULK AT MOST 1048576: true; the input reads as it did. -/
def partsHolesUptoRow : OpenClaim := { program := "ytagakfaiimaifaa", sum := "bf09b0e339ca15f987a1e6e50507780615424e8e1e2c3ad5b5fbafb1afd71099", func := "additive/additivelaw21.PartsHoles", spec := "partsHoles", unfollowed := true, recurses := true, plainKeys := false, apart := false, narrowed := true }
def PartsHolesUptoSaid : Prop := partsHolesUptoRow.holds Try.pinned (OpenSpec.upto partsHolesSpec)

/-- 'additivelaw21.PartsDepths', WHERE WHAT IT READS IS OF BULK AT MOST 1048576: true; the input reads as it did. -/
def partsDepthsUptoRow : OpenClaim := { program := "ytagakfaiimaifaa", sum := "bf09b0e339ca15f987a1e6e50507780615424e8e1e2c3ad5b5fbafb1afd71099", func := "additive/additivelaw21.PartsDepths", spec := "partsDepths", unfollowed := true, recurses := true, plainKeys := false, apart := false, narrowed := true }
def PartsDepthsUptoSaid : Prop := partsDepthsUptoRow.holds Try.pinned (OpenSpec.upto partsDepthsSpec)

/-- 'additivelaw21.PartsDivide', WHERE WHAT IT READS IS OF BULK AT MOST 1048576: true; the input reads as it did. -/
def partsDivideUptoRow : OpenClaim := { program := "ytagakfaiimaifaa", sum := "bf09b0e339ca15f987a1e6e50507780615424e8e1e2c3ad5b5fbafb1afd71099", func := "additive/additivelaw21.PartsDivide", spec := "partsDivide", unfollowed := true, recurses := true, plainKeys := false, apart := false, narrowed := true }
def PartsDivideUptoSaid : Prop := partsDivideUptoRow.holds Try.pinned (OpenSpec.upto partsDivideSpec)

/-- 'additivelaw21.PartsFilled', WHERE WHAT IT READS IS OF BULK AT MOST 1048576: true; the input reads as it did. -/
def partsFilledUptoRow : OpenClaim := { program := "ytagakfaiimaifaa", sum := "bf09b0e339ca15f987a1e6e50507780615424e8e1e2c3ad5b5fbafb1afd71099", func := "additive/additivelaw21.PartsFilled", spec := "partsFilled", unfollowed := true, recurses := true, plainKeys := false, apart := false, narrowed := true }
def PartsFilledUptoSaid : Prop := partsFilledUptoRow.holds Try.pinned (OpenSpec.upto partsFilledSpec)

/-- 'additivelaw21.PartsEroded', WHERE WHAT IT READS IS OF BULK AT MOST 1048576: true; the input reads as it did. -/
def partsErodedUptoRow : OpenClaim := { program := "ytagakfaiimaifaa", sum := "bf09b0e339ca15f987a1e6e50507780615424e8e1e2c3ad5b5fbafb1afd71099", func := "additive/additivelaw21.PartsEroded", spec := "partsEroded", unfollowed := true, recurses := true, plainKeys := false, apart := false, narrowed := true }
def PartsErodedUptoSaid : Prop := partsErodedUptoRow.holds Try.pinned (OpenSpec.upto partsErodedSpec)

end Rows
end Go.Proofs.Ytagakfaiimaifaa
