/-
  Texts of this seat put together: P26.
-/
import Derived.Test.YtlfbjflfbjkbeaaJ8
set_option linter.unusedVariables false
set_option linter.unusedSimpArgs false
set_option maxRecDepth 100000
namespace Go.Proofs.Ytlfbjflfbjkbeaa
open Go.Abs Go.ChangeShapes Go.WideShapes Go.ChangeAt Go.RowKit

set_option maxHeartbeats 4000000 in
theorem dstill_ok (b : Bench) (m : Mach) (s : Sett) (p : Pos) : PC Try.prog 4 [.agg b.row, .agg m.row, .agg s.row, .agg p.row] (.p (.bool true)) := by
  have c0 := awake55_ok
  have c1 := few_ok b
  have hS := few_small b
  generalize fewB b = B at *
  have c2 := pulse_ok B m s ⟨p.p, p.q, p.r, 0⟩ hS
  have c3 := pulse_ok B m s ⟨0, 0, p.r, p.s⟩ hS
  have c4 := same55_ok B hS
  obtain ⟨f1, f2⟩ := pulse_still B m s ⟨p.p, p.q, p.r, 0⟩ rfl
  have f3 := pulse_hits B m s ⟨0, 0, p.r, p.s⟩ rfl rfl
  generalize pulseB B m s ⟨p.p, p.q, p.r, 0⟩ = X at *
  generalize pulseB B m s ⟨0, 0, p.r, p.s⟩ = Y at *
  have g1 : decide (B.hits ≤ X.hits) = true := by simp; omega
  have w1 : IntKind.i64.wrap (X.hits - B.hits) = X.hits - B.hits := wrap_i64 (by omega) (by omega)
  have g2 : decide (X.hits - B.hits ≤ 1) = true := by simp; omega
  refine pc_of_awp cx (fn := Try.f4) (c := _) Try.func4 rfl rfl (Nat.le_of_ble_eq_true rfl) ?_
  rw [Try.ntmps4]; refine Nav.imp ?_
  refine awp_region cx [] fun K hK => ?_
  simp [push_cast]
  repeat (refine And.intro (by clear hK; intros; first | omega | (simp_all; done) | (simp_all <;> omega)) ?_)
  refine hK _ ?_; clear hK K; refine Nav.imp ?_
  refine awp_region cx [(1, .p (.agg B.row))] fun K hK => ?_
  simp [push_cast, c1]
  repeat (refine And.intro (by clear hK; intros; first | omega | (simp_all; done) | (simp_all <;> omega)) ?_)
  refine hK _ ?_; clear hK K; refine Nav.imp ?_
  refine awp_region cx [] fun K hK => ?_
  simp [push_cast]
  repeat (refine And.intro (by clear hK; intros; first | omega | (simp_all; done) | (simp_all <;> omega)) ?_)
  refine hK _ ?_; clear hK K; refine Nav.imp ?_
  refine awp_region cx [] fun K hK => ?_
  simp [push_cast]
  repeat (refine And.intro (by clear hK; intros; first | omega | (simp_all; done) | (simp_all <;> omega)) ?_)
  refine hK _ ?_; clear hK K; refine Nav.imp ?_
  refine awp_region cx [(4, .p (.agg X.row))] fun K hK => ?_
  simp [push_cast, c2]
  repeat (refine And.intro (by clear hK; intros; first | omega | (simp_all; done) | (simp_all <;> omega)) ?_)
  refine hK _ ?_; clear hK K; refine Nav.imp ?_
  refine awp_region cx [] fun K hK => ?_
  simp [push_cast]
  repeat (refine And.intro (by clear hK; intros; first | omega | (simp_all; done) | (simp_all <;> omega)) ?_)
  refine hK _ ?_; clear hK K; refine Nav.imp ?_
  refine awp_region cx [] fun K hK => ?_
  simp [push_cast]
  repeat (refine And.intro (by clear hK; intros; first | omega | (simp_all; done) | (simp_all <;> omega)) ?_)
  refine hK _ ?_; clear hK K; refine Nav.imp ?_
  refine awp_region cx [] fun K hK => ?_
  simp [push_cast]
  repeat (refine And.intro (by clear hK; intros; first | omega | (simp_all; done) | (simp_all <;> omega)) ?_)
  refine hK _ ?_; clear hK K; refine Nav.imp ?_
  refine awp_region cx [(4, .p (.agg Y.row))] fun K hK => ?_
  simp [push_cast, c3]
  repeat (refine And.intro (by clear hK; intros; first | omega | (simp_all; done) | (simp_all <;> omega)) ?_)
  refine hK _ ?_; clear hK K; refine Nav.imp ?_
  refine awp_region cx [] fun K hK => ?_
  simp [push_cast]
  repeat (refine And.intro (by clear hK; intros; first | omega | (simp_all; done) | (simp_all <;> omega)) ?_)
  refine hK _ ?_; clear hK K; refine Nav.imp ?_
  refine awp_region cx [] fun K hK => ?_
  simp [push_cast]
  repeat (refine And.intro (by clear hK; intros; first | omega | (simp_all; done) | (simp_all <;> omega)) ?_)
  refine hK _ ?_; clear hK K; refine Nav.imp ?_
  refine awp_region cx [] fun K hK => ?_
  simp [push_cast]
  repeat (refine And.intro (by clear hK; intros; first | omega | (simp_all; done) | (simp_all <;> omega)) ?_)
  refine hK _ ?_; clear hK K; refine Nav.imp ?_
  have e : X.t0 = B.t0 ∧ X.t1 = B.t1 ∧ X.pw0 = B.pw0 ∧ X.ls0 = B.ls0 ∧ X.ms0 = B.ms0 ∧ X.am0 = B.am0 ∧ X.pw1 = B.pw1 ∧ X.ls1 = B.ls1 ∧ X.ms1 = B.ms1 ∧ X.am1 = B.am1 ∧ X.filament = B.filament ∧ X.drawn = B.drawn ∧ X.dry = B.dry ∧ X.lays = B.lays ∧ X.door = B.door ∧ X.k0 = B.k0 ∧ X.k1 = B.k1 := by
    cases X; cases B; simpa using f1
  obtain ⟨e1, e2, e3, e4, e5, e6, e7, e8, e9, e10, e11, e12, e13, e14, e15, e16, e17⟩ := e
  rw [e1, e2, e3, e4, e5, e6, e7, e8, e9, e10, e11, e12, e13, e14, e15, e16, e17]
  refine awp_region cx [(2, .p (.bool true)), (24, .p (.bool true))] fun K hK => ?_
  simp [push_cast, c0, c4, g1, w1, g2, f3]
  repeat (refine And.intro (by clear hK; intros; first | omega | (simp_all; done) | (simp_all <;> omega)) ?_)
  refine hK _ ?_; clear hK K; refine Nav.imp ?_
  simp [push_cast]
set_option maxRecDepth 100000 in
theorem depositStill_lifted (os : Os) (started : os.Started) (H : Type) (enc : TypeId × Value → H) :
    ReturnsInHanded {} Try.checked os 4 .any (Rows.depositStillSpec.pre6 enc Try.prog Try.f4 Rows.depositStillRow.domain false) (Rows.depositStillSpec.post enc Try.prog Try.f4 false true false false) := by
  refine returnsInHanded_of_change (C := Try.checked) own started (by kernel_rfl) Try.func4
    (ChangeSpec.witness6 (enc := enc) (C := Try.checked) false ⟨#[], #[zeroBench, zeroMach, zeroSett, zeroPos], []⟩ 8 (by kernel_rfl) (by kernel_rfl) (by kernel_rfl) (by kernel_rfl)) ?_
  intro W base args ds gs before hval hW _ _
  exact law_contract rfl (fun ds h => by match ds, h with | [a0, a1, a2, a3], _ => rfl) laidOut (by simp only [Try.params4]; intro t ht; simp at ht; rcases ht with rfl | rfl | rfl | rfl <;> exact ⟨by kernel_rfl, of_decide_eq_true (by kernel_rfl)⟩) (by kernel_rfl) rfl Try.underlying4
    (fun xs hx => by
      simp only [Try.params4, hasVs] at hx
      obtain ⟨x0, r0, rfl, h0, x1, r1, rfl, h1, x2, r2, rfl, h2, x3, r3, rfl, h3, rfl⟩ := hx
      obtain ⟨b, rfl⟩ := arg_bench h0
      obtain ⟨m, rfl⟩ := arg_mach h1
      obtain ⟨s, rfl⟩ := arg_sett h2
      obtain ⟨x, rfl⟩ := arg_pos h3
      exact dstill_ok b m s x) W base args ds gs before hval hW

theorem depositStill_holds : Rows.DepositStillSaid :=
  OpenClaim.holds_of_wide 4 Try.f4 rfl rfl rfl rfl rfl rfl rfl ⟨rfl, rfl, rfl, rfl, rfl⟩ rfl rfl rfl rfl rfl (by kernel_rfl) Try.func4 (by kernel_rfl)
    (of_decide_eq_true (by kernel_rfl)) (by unfold Func.isWrapper; first | (rw [if_pos (by decide +kernel)]; kernel_rfl) | (rw [if_neg (by decide +kernel)]; exact ⟨rfl, rfl⟩))
    (fun os started H enc _ => depositStill_lifted os started H enc)

end Go.Proofs.Ytlfbjflfbjkbeaa
