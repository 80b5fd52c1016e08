/-
  Texts of this seat put together: P25.
-/
import Derived.Test.YtlfbjflfbjkbeaaGreatI6
import Derived.Test.YtlfbjflfbjkbeaaGreatI7
import Derived.Test.YtlfbjflfbjkbeaaGreatI8
set_option linter.unusedVariables false
set_option linter.unusedSimpArgs false
set_option maxRecDepth 100000
namespace Go.Proofs.YtlfbjflfbjkbeaaGreat
open Go.Abs Go.ChangeShapes Go.WideShapes Go.ChangeAt Go.RowKit

set_option maxHeartbeats 4000000 in
theorem dheats_ok (b : Bench) (d0 d1 : Int) : PC Tryz.prog 4 [.agg b.row, .agg [.int .i64 d0, .int .i64 d1]] (.p (.bool true)) := by
  have c0 := awake55_ok
  have c1 := few_ok b
  have hS := few_small b
  generalize fewB b = B at *
  have c2 := heat_ok B d0 d1 hS
  have c3 := rheat_ok B d0 d1
  have c4 := same55_ok (heatB B d0 d1) hS
  have c5 := readings_ok B
  have c6 := rreadings_ok B
  obtain ⟨r0, r1, hr⟩ : ∃ r0 r1 : Int, readD B = .agg [.int .i64 r0, .int .i64 r1] := ⟨_, _, rfl⟩
  rw [hr] at c5 c6
  generalize heatB B d0 d1 = W at *
  refine pc_of_awp cx (fn := Tryz.f4) (c := _) Tryz.func4 rfl rfl (Nat.le_of_ble_eq_true rfl) ?_
  rw [Tryz.ntmps4]; refine Nav.imp ?_
  refine awp_region cx [] fun K hK => ?_
  simp [push_cast]
  repeat (refine And.intro (by clear hK; intros; first | omega | (simp_all; done) | (simp_all <;> omega)) ?_)
  refine hK _ ?_; clear hK K; refine Nav.imp ?_
  refine awp_region cx [(1, .p (.agg B.row))] fun K hK => ?_
  simp [push_cast, c1]
  repeat (refine And.intro (by clear hK; intros; first | omega | (simp_all; done) | (simp_all <;> omega)) ?_)
  refine hK _ ?_; clear hK K; refine Nav.imp ?_
  refine awp_region_draw cx mixed [(2, .p (.agg W.row)), (5, .p (.agg W.row)), (6, .p (.bool true)), (9, .p (.agg [.int .i64 r0, .int .i64 r1])), (11, .p (.agg [.int .i64 r0, .int .i64 r1])), (15, .p (.bool true))] fun K hK => ?_
  simp [push_cast, c0, c2, c3, c4, c5, c6]
  repeat (refine And.intro (by clear hK; intros; first | omega | (simp_all; done) | (simp_all <;> omega)) ?_)
  refine hK _ _ (by kernel_rfl) ?_; clear hK K; refine Nav.imp ?_
  simp [push_cast]
set_option maxRecDepth 100000 in
theorem depositHeats_lifted (os : Os) (started : os.Started) (H : Type) (enc : TypeId × Value → H) :
    ReturnsInHanded {} Tryz.checked os 4 .any (Rows.depositHeatsSpec.pre6 enc Tryz.prog Tryz.f4 Rows.depositHeatsRow.domain false) (Rows.depositHeatsSpec.post enc Tryz.prog Tryz.f4 false true false false) := by
  refine returnsInHanded_of_change (C := Tryz.checked) own started (by kernel_rfl) Tryz.func4
    (ChangeSpec.witness6 (enc := enc) (C := Tryz.checked) false ⟨#[], #[zeroBench, zeroInt2], []⟩ 8 (by kernel_rfl) (by kernel_rfl) (by kernel_rfl) (by kernel_rfl)) ?_
  intro W base args ds gs before hval hW _ _
  exact law_contract rfl (fun ds h => by match ds, h with | [a0, a1], _ => rfl) laidOut (by simp only [Tryz.params4]; intro t ht; simp at ht; rcases ht with rfl | rfl <;> exact ⟨by kernel_rfl, of_decide_eq_true (by kernel_rfl)⟩) (by kernel_rfl) rfl Tryz.underlying4
    (fun xs hx => by
      simp only [Tryz.params4, hasVs] at hx
      obtain ⟨x0, r0, rfl, h0, x1, r1, rfl, h1, rfl⟩ := hx
      obtain ⟨b, rfl⟩ := arg_bench h0
      obtain ⟨d0, d1, rfl⟩ := arg_int2 h1
      exact dheats_ok b d0 d1) W base args ds gs before hval hW

theorem depositHeats_holds : Rows.DepositHeatsSaid :=
  OpenClaim.holds_of_wide 4 Tryz.f4 rfl rfl rfl rfl rfl rfl rfl ⟨rfl, rfl, rfl, rfl, rfl⟩ rfl rfl rfl rfl rfl (by kernel_rfl) Tryz.func4 (by kernel_rfl)
    (of_decide_eq_true (by kernel_rfl)) (by unfold Func.isWrapper; first | (rw [if_pos (by decide +kernel)]; kernel_rfl) | (rw [if_neg (by decide +kernel)]; exact ⟨rfl, rfl⟩))
    (fun os started H enc _ => depositHeats_lifted os started H enc)

end Go.Proofs.YtlfbjflfbjkbeaaGreat
