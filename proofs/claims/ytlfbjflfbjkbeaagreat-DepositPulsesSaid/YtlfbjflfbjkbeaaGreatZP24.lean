/-
  Texts of this seat put together: P24.
-/
import Derived.Test.YtlfbjflfbjkbeaaGreatJ9
set_option linter.unusedVariables false
set_option linter.unusedSimpArgs false
set_option maxRecDepth 100000
namespace Go.Proofs.YtlfbjflfbjkbeaaGreat
open Go.Abs Go.ChangeShapes Go.WideShapes Go.ChangeAt Go.RowKit

set_option maxHeartbeats 4000000 in
theorem dpulses_ok (b : Bench) (m : Mach) (s : Sett) (p : Pos) : PC Tryz.prog 3 [.agg b.row, .agg m.row, .agg s.row, .agg p.row] (.p (.bool true)) := by
  have c0 := awake55_ok
  have c1 := few_ok b
  have hS := few_small b
  generalize fewB b = B at *
  have c2 := pulse_ok B m s p hS
  have c3 := rpulse55_ok B m s p hS
  have c4 := same55_ok (pulseB B m s p) (pulse_small m s p hS)
  generalize pulseB B m s p = W at *
  refine pc_of_awp cx (fn := Tryz.f3) (c := _) Tryz.func3 rfl rfl (Nat.le_of_ble_eq_true rfl) ?_
  rw [Tryz.ntmps3]; refine Nav.imp ?_
  refine awp_region cx [] fun K hK => ?_
  simp [push_cast]
  repeat (refine And.intro (by clear hK; intros; first | omega | (simp_all; done) | (simp_all <;> omega)) ?_)
  refine hK _ ?_; clear hK K; refine Nav.imp ?_
  refine awp_region cx [(1, .p (.agg B.row))] fun K hK => ?_
  simp [push_cast, c1]
  repeat (refine And.intro (by clear hK; intros; first | omega | (simp_all; done) | (simp_all <;> omega)) ?_)
  refine hK _ ?_; clear hK K; refine Nav.imp ?_
  refine awp_region_draw cx mixed [(4, .p (.agg W.row)), (9, .p (.agg W.row)), (10, .p (.bool true)), (12, .p (.bool true))] fun K hK => ?_
  simp [push_cast, c0, c2, c3, c4]
  repeat (refine And.intro (by clear hK; intros; first | omega | (simp_all; done) | (simp_all <;> omega)) ?_)
  refine hK _ _ (by kernel_rfl) ?_; clear hK K; refine Nav.imp ?_
  simp [push_cast]
set_option maxRecDepth 100000 in
theorem depositPulses_lifted (os : Os) (started : os.Started) (H : Type) (enc : TypeId × Value → H) :
    ReturnsInHanded {} Tryz.checked os 3 .any (Rows.depositPulsesSpec.pre6 enc Tryz.prog Tryz.f3 Rows.depositPulsesRow.domain false) (Rows.depositPulsesSpec.post enc Tryz.prog Tryz.f3 false true false false) := by
  refine returnsInHanded_of_change (C := Tryz.checked) own started (by kernel_rfl) Tryz.func3
    (ChangeSpec.witness6 (enc := enc) (C := Tryz.checked) false ⟨#[], #[zeroBench, zeroMach, zeroSett, zeroPos], []⟩ 8 (by kernel_rfl) (by kernel_rfl) (by kernel_rfl) (by kernel_rfl)) ?_
  intro W base args ds gs before hval hW _ _
  exact law_contract rfl (fun ds h => by match ds, h with | [a0, a1, a2, a3], _ => rfl) laidOut (by simp only [Tryz.params3]; intro t ht; simp at ht; rcases ht with rfl | rfl | rfl | rfl <;> exact ⟨by kernel_rfl, of_decide_eq_true (by kernel_rfl)⟩) (by kernel_rfl) rfl Tryz.underlying4
    (fun xs hx => by
      simp only [Tryz.params3, hasVs] at hx
      obtain ⟨x0, r0, rfl, h0, x1, r1, rfl, h1, x2, r2, rfl, h2, x3, r3, rfl, h3, rfl⟩ := hx
      obtain ⟨b, rfl⟩ := arg_bench h0
      obtain ⟨m, rfl⟩ := arg_mach h1
      obtain ⟨s, rfl⟩ := arg_sett h2
      obtain ⟨x, rfl⟩ := arg_pos h3
      exact dpulses_ok b m s x) W base args ds gs before hval hW

theorem depositPulses_holds : Rows.DepositPulsesSaid :=
  OpenClaim.holds_of_wide 3 Tryz.f3 rfl rfl rfl rfl rfl rfl rfl ⟨rfl, rfl, rfl, rfl, rfl⟩ rfl rfl rfl rfl rfl (by kernel_rfl) Tryz.func3 (by kernel_rfl)
    (of_decide_eq_true (by kernel_rfl)) (by unfold Func.isWrapper; first | (rw [if_pos (by decide +kernel)]; kernel_rfl) | (rw [if_neg (by decide +kernel)]; exact ⟨rfl, rfl⟩))
    (fun os started H enc _ => depositPulses_lifted os started H enc)

end Go.Proofs.YtlfbjflfbjkbeaaGreat
