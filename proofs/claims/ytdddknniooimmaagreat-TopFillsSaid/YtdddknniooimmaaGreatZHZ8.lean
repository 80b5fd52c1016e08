/-
  Texts of this seat put together: HZ8.
-/
import Derived.Test.YtdddknniooimmaaGreatJF17
set_option linter.unusedVariables false
set_option linter.unusedSimpArgs false
set_option maxRecDepth 100000
namespace Go.Proofs.YtdddknniooimmaaGreat
open Go.Abs Go.ChangeShapes Go.WideShapes Go.ChangeAt Go.RowKit

theorem arg_intB {x : D} (h : hasV Tryz.prog 3 x) : ∃ n : {n : Int // -9223372036854775808 <= n /\ n < 9223372036854775808}, x = .int .i64 n.1 := by
 obtain ⟨n, rfl, hw⟩ := hasV_int Tryz.underlying3 h;refine ⟨⟨n, ?_⟩, rfl⟩;simp [Lit.wf, IntKind.min, IntKind.max, IntKind.bits, IntKind.signed] at hw;omega
set_option maxRecDepth 100000 in
theorem zja (os : Os) (started : os.Started) (H : Type) (enc : TypeId × Value -> H) :
  ReturnsInHanded {} Tryz.checked os 4 .any (Rows.topFillsSpec.pre6 enc Tryz.prog Tryz.f4 Rows.topFillsRow.domain false) (Rows.topFillsSpec.post enc Tryz.prog Tryz.f4 false true false false) := by
 refine returnsInHanded_of_change (C := Tryz.checked) own started (by kernel_rfl) Tryz.func4
  (ChangeSpec.witness6 (enc := enc) (C := Tryz.checked) false ⟨#[], #[zeroReg, .int .i64 0], []⟩ 8 (by kernel_rfl) (by kernel_rfl) (by kernel_rfl) (by kernel_rfl)) ?_
 intro W base args ds gs before hval hW _ _;exact zvf rfl (fun ds h => by match ds, h with | [a0, a1], _ => rfl) laidOut (by simp only [Tryz.params4]; intro t ht; simp at ht; rcases ht with rfl | rfl <;> exact ⟨by kernel_rfl, of_decide_eq_true (by kernel_rfl)⟩) (by kernel_rfl) rfl Tryz.underlying4
  (fun xs hx => by
   simp only [Tryz.params4, hasVs] at hx;obtain ⟨x0, r0, rfl, h0, x1, r1, rfl, h1, rfl⟩ := hx;obtain ⟨⟨R, hR⟩, rfl⟩ := arg_regionT h0;obtain ⟨⟨n, hn⟩, rfl⟩ := arg_intB h1;exact topfills_ok R n hR hn) W base args ds gs before hval hW

theorem topFills_holds : Rows.TopFillsSaid :=
 OpenClaim.holds_of_wide 4 Tryz.f4 rfl rfl rfl rfl rfl rfl rfl ⟨rfl, rfl, rfl, rfl, rfl⟩ rfl rfl rfl rfl rfl (by kernel_rfl) Tryz.func4 (by kernel_rfl)
  (of_decide_eq_true (by kernel_rfl)) (by unfold Func.isWrapper; first | (rw [if_pos (by decide +kernel)]; kernel_rfl) | (rw [if_neg (by decide +kernel)]; exact ⟨rfl, rfl⟩))
  (fun os started H enc _ => zja os started H enc)

end Go.Proofs.YtdddknniooimmaaGreat
