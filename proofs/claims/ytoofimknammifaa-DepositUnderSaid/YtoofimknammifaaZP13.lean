/-
  Texts of this seat put together: P13.
-/
import Derived.Test.YtoofimknammifaaJ9
set_option linter.unusedVariables false
set_option linter.unusedSimpArgs false
set_option maxRecDepth 100000
namespace Go.Proofs.Ytoofimknammifaa
open Go.Abs

/-! The example that the laws check. -/
def axM : Ax := ⟨2, 1, 1000, 50, 10, -9000, 9000⟩
def axZ : Ax := ⟨0, 0, 0, 0, 0, 0, 0⟩
def awM : Mach := ⟨axM, axM, axM, axM, false, 1000⟩
def awS : Sett := ⟨100, 20, 0, 0, 0, 0, 0, false, 0, 0, 0, 0, 0, 0, 0, 0, 0, 0, 0, 0⟩
def awP : Pos := ⟨300, -2, 40, 0⟩
def awB : Bench := ⟨awP, 0, 0, 0, 0, 0, 0, 0, 0, 0, 0, 1, 0, 0, [], 0, false, false, false⟩
theorem machine_ok : PC Try.prog 26 [] (.p (.agg awM.row)) := by
  have w3 : IntKind.i64.wrap 3 = 3 := by decide
  have w4 : IntKind.i64.wrap 4 = 4 := by decide
  refine pc_of_awp cx (fn := Try.f26) (c := _) Try.func26 rfl rfl (Nat.le_of_ble_eq_true rfl) ?_
  rw [Try.ntmps26]; refine Nav.imp ?_
  refine awp_region cx [] fun K hK => ?_
  simp [push_cast]
  repeat (refine And.intro (by clear hK; intros; first | omega | (simp_all; done) | (simp_all <;> omega)) ?_)
  refine hK _ ?_; clear hK K; refine Nav.imp ?_
  refine awp_region cx [] fun K hK => ?_
  simp [push_cast]
  repeat (refine And.intro (by clear hK; intros; first | omega | (simp_all; done) | (simp_all <;> omega)) ?_)
  refine hK _ ?_; clear hK K; refine Nav.imp ?_
  refine awp_region cx [] fun K hK => ?_
  simp [push_cast]
  repeat (refine And.intro (by clear hK; intros; first | omega | (simp_all; done) | (simp_all <;> omega)) ?_)
  refine hK _ ?_; clear hK K; refine Nav.imp ?_
  refine awp_loop (β := Nat) (fun i => ⟨13, [(0, .ptr 0 0 0), (1, .ptr 1 0 0), (2, .d (.int .i64 i))], [(0, some ⟨26, 30, [(Mach.row ⟨axZ, axZ, axZ, axZ, false, 0⟩).map .d]⟩), (1, some ⟨26, 30, [(Mach.row ⟨if 0 < i then axM else axZ, if 1 < i then axM else axZ, if 2 < i then axM else axZ, if 3 < i then axM else axZ, false, 1000⟩).map .d]⟩)], 2⟩) (fun i => i ≤ 4) (fun i => 4 - i) 0 ?_ (Nat.zero_le _) ?_
  · refine weak_of [(0, some 0), (1, some 2)] rfl (by simp [upT, up, upL, push_cast, axZ]) (by simp [upH, upR, upL, up, push_cast, axZ]) (by simp [namesOk, push_cast]) (by simp [olds])
  · rintro i hi
    rcases (show i = 0 ∨ i = 1 ∨ i = 2 ∨ i = 3 ∨ i = 4 by omega) with rfl | rfl | rfl | rfl | rfl
    · simp (config := { decide := true }) only [if_true, if_false]
      simp only [axM, axZ]
      refine Nav.imp ?_
      refine awp_region cx [] fun K hK => ?_
      simp [push_cast]
      repeat (refine And.intro (by clear hK; intros; first | omega | (simp_all; done) | (simp_all <;> omega)) ?_)
      refine hK _ ?_; clear hK K; refine Nav.imp ?_
      refine awp_cond (b := true) (by simp [push_cast]) (fun hb => ?_) (fun hb => ?_) <;> (refine Nav.imp ?_)
      · refine awp_region cx [] fun K hK => ?_
        simp [push_cast]
        repeat (refine And.intro (by clear hK; intros; first | omega | (simp_all; done) | (simp_all <;> omega)) ?_)
        refine hK _ ?_; clear hK K; refine Nav.imp ?_
        refine awp_region cx [] fun K hK => ?_
        simp [push_cast, w3, w4]
        repeat (refine And.intro (by clear hK; intros; first | omega | (simp_all; done) | (simp_all <;> omega)) ?_)
        refine hK _ ?_; clear hK K; refine Nav.imp ?_
        refine ⟨1, by omega, by omega, ?_⟩
        refine weak_of [(0, some 0), (1, some 1)] rfl (by simp [upT, up, upL, push_cast, axM, axZ]) (by simp [upH, upR, upL, up, push_cast, axM, axZ]) (by simp [namesOk, push_cast]) (by simp [olds])
      · simp at hb
    · simp (config := { decide := true }) only [if_true, if_false]
      simp only [axM, axZ]
      refine Nav.imp ?_
      refine awp_region cx [] fun K hK => ?_
      simp [push_cast]
      repeat (refine And.intro (by clear hK; intros; first | omega | (simp_all; done) | (simp_all <;> omega)) ?_)
      refine hK _ ?_; clear hK K; refine Nav.imp ?_
      refine awp_cond (b := true) (by simp [push_cast]) (fun hb => ?_) (fun hb => ?_) <;> (refine Nav.imp ?_)
      · refine awp_region cx [] fun K hK => ?_
        simp [push_cast]
        repeat (refine And.intro (by clear hK; intros; first | omega | (simp_all; done) | (simp_all <;> omega)) ?_)
        refine hK _ ?_; clear hK K; refine Nav.imp ?_
        refine awp_region cx [] fun K hK => ?_
        simp [push_cast, w3, w4]
        repeat (refine And.intro (by clear hK; intros; first | omega | (simp_all; done) | (simp_all <;> omega)) ?_)
        refine hK _ ?_; clear hK K; refine Nav.imp ?_
        refine ⟨2, by omega, by omega, ?_⟩
        refine weak_of [(0, some 0), (1, some 1)] rfl (by simp [upT, up, upL, push_cast, axM, axZ]) (by simp [upH, upR, upL, up, push_cast, axM, axZ]) (by simp [namesOk, push_cast]) (by simp [olds])
      · simp at hb
    · simp (config := { decide := true }) only [if_true, if_false]
      simp only [axM, axZ]
      refine Nav.imp ?_
      refine awp_region cx [] fun K hK => ?_
      simp [push_cast]
      repeat (refine And.intro (by clear hK; intros; first | omega | (simp_all; done) | (simp_all <;> omega)) ?_)
      refine hK _ ?_; clear hK K; refine Nav.imp ?_
      refine awp_cond (b := true) (by simp [push_cast]) (fun hb => ?_) (fun hb => ?_) <;> (refine Nav.imp ?_)
      · refine awp_region cx [] fun K hK => ?_
        simp [push_cast]
        repeat (refine And.intro (by clear hK; intros; first | omega | (simp_all; done) | (simp_all <;> omega)) ?_)
        refine hK _ ?_; clear hK K; refine Nav.imp ?_
        refine awp_region cx [] fun K hK => ?_
        simp [push_cast, w3, w4]
        repeat (refine And.intro (by clear hK; intros; first | omega | (simp_all; done) | (simp_all <;> omega)) ?_)
        refine hK _ ?_; clear hK K; refine Nav.imp ?_
        refine ⟨3, by omega, by omega, ?_⟩
        refine weak_of [(0, some 0), (1, some 1)] rfl (by simp [upT, up, upL, push_cast, axM, axZ]) (by simp [upH, upR, upL, up, push_cast, axM, axZ]) (by simp [namesOk, push_cast]) (by simp [olds])
      · simp at hb
    · simp (config := { decide := true }) only [if_true, if_false]
      simp only [axM, axZ]
      refine Nav.imp ?_
      refine awp_region cx [] fun K hK => ?_
      simp [push_cast]
      repeat (refine And.intro (by clear hK; intros; first | omega | (simp_all; done) | (simp_all <;> omega)) ?_)
      refine hK _ ?_; clear hK K; refine Nav.imp ?_
      refine awp_cond (b := true) (by simp [push_cast]) (fun hb => ?_) (fun hb => ?_) <;> (refine Nav.imp ?_)
      · refine awp_region cx [] fun K hK => ?_
        simp [push_cast]
        repeat (refine And.intro (by clear hK; intros; first | omega | (simp_all; done) | (simp_all <;> omega)) ?_)
        refine hK _ ?_; clear hK K; refine Nav.imp ?_
        refine awp_region cx [] fun K hK => ?_
        simp [push_cast, w3, w4]
        repeat (refine And.intro (by clear hK; intros; first | omega | (simp_all; done) | (simp_all <;> omega)) ?_)
        refine hK _ ?_; clear hK K; refine Nav.imp ?_
        refine ⟨4, by omega, by omega, ?_⟩
        refine weak_of [(0, some 0), (1, some 1)] rfl (by simp [upT, up, upL, push_cast, axM, axZ]) (by simp [upH, upR, upL, up, push_cast, axM, axZ]) (by simp [namesOk, push_cast]) (by simp [olds])
      · simp at hb
    · simp (config := { decide := true }) only [if_true, if_false]
      simp only [axM, axZ]
      refine Nav.imp ?_
      refine awp_region cx [] fun K hK => ?_
      simp [push_cast]
      repeat (refine And.intro (by clear hK; intros; first | omega | (simp_all; done) | (simp_all <;> omega)) ?_)
      refine hK _ ?_; clear hK K; refine Nav.imp ?_
      refine awp_cond (b := false) (by simp [push_cast]) (fun hb => ?_) (fun hb => ?_) <;> (refine Nav.imp ?_)
      · simp at hb
      · refine awp_region cx [] fun K hK => ?_
        simp [push_cast]
        repeat (refine And.intro (by clear hK; intros; first | omega | (simp_all; done) | (simp_all <;> omega)) ?_)
        refine hK _ ?_; clear hK K; refine Nav.imp ?_
        simp [push_cast, awM, axM]
theorem aw_under : underD awM awS awP = .tup [.agg [.int .i64 1, .int .i64 (-1)], .int .i64 0] := by kernel_rfl
theorem aw_pulse : pulseB awB awM awS ⟨0, 0, 0, 1⟩ = { awB with real := ⟨300, -2, 40, 1⟩, filament := 0, lays := [[⟨-1, [⟨1, 2⟩]⟩]] } := by kernel_rfl
theorem aw_con : conB [⟨-1, [⟨1, 2⟩]⟩] ⟨1, -1⟩ = true := by kernel_rfl
theorem awake55_ok : PC Try.prog 9 [] (.p (.bool true)) := by
  have c0 := machine_ok
  have c1 := under_ok awM awS awP
  rw [aw_under] at c1
  simp only [Sett.row, Pos.row, awS, awP] at c1
  have c2 := pulse_ok awB awM awS ⟨0, 0, 0, 1⟩ ⟨by simp [awB], by simp [awB]⟩
  rw [aw_pulse] at c2
  simp only [Bench.row, Pos.row, Sett.row, awS, awP, awB, encLays, List.map_nil] at c2
  have c3 := contains18_ok [⟨-1, [⟨1, 2⟩]⟩] ⟨1, -1⟩ (small_valid (by kernel_rfl))
  rw [aw_con] at c3
  refine pc_of_awp cx (fn := Try.f9) (c := _) Try.func9 rfl rfl (Nat.le_of_ble_eq_true rfl) ?_
  rw [Try.ntmps9]; refine Nav.imp ?_
  refine awp_region cx [] fun K hK => ?_
  simp [push_cast]
  repeat (refine And.intro (by clear hK; intros; first | omega | (simp_all; done) | (simp_all <;> omega)) ?_)
  refine hK _ ?_; clear hK K; refine Nav.imp ?_
  refine awp_region cx [] fun K hK => ?_
  simp [push_cast]
  repeat (refine And.intro (by clear hK; intros; first | omega | (simp_all; done) | (simp_all <;> omega)) ?_)
  refine hK _ ?_; clear hK K; refine Nav.imp ?_
  refine awp_region_draw cx mixed [(0, .p (.agg awM.row)), (3, .p (.tup [.agg [.int .i64 1, .int .i64 (-1)], .int .i64 0]))] fun K hK => ?_
  simp [push_cast, c0, c1]
  repeat (refine And.intro (by clear hK; intros; first | omega | (simp_all; done) | (simp_all <;> omega)) ?_)
  refine hK _ _ (by kernel_rfl) ?_; clear hK K; refine Nav.imp ?_
  refine awp_region_draw cx mixed [(2, .p (.agg awM.row)), (5, .p (.agg (Bench.row { awB with real := ⟨300, -2, 40, 1⟩, filament := 0, lays := [[⟨-1, [⟨1, 2⟩]⟩]] })))] fun K hK => ?_
  simp [push_cast, c0, c2, awS, awP, awB]
  repeat (refine And.intro (by clear hK; intros; first | omega | (simp_all; done) | (simp_all <;> omega)) ?_)
  refine hK _ _ (by kernel_rfl) ?_; clear hK K; refine Nav.imp ?_
  refine awp_region_draw cx mixed [(19, .p (.bool true))] fun K hK => ?_
  simp [push_cast, c3, Row.row, Run.row, Cell.row]
  repeat (refine And.intro (by clear hK; intros; first | omega | (simp_all; done) | (simp_all <;> omega)) ?_)
  refine hK _ _ (by kernel_rfl) ?_; clear hK K; refine Nav.imp ?_
  simp [push_cast]
theorem dunder_ok (m : Mach) (s : Sett) (x : Pos) : PC Try.prog 3 [.agg m.row, .agg s.row, .agg x.row] (.p (.bool true)) := by
  have c0 := awake55_ok
  have c1 := under_ok m s x
  have c2 := runder_ok m s x
  unfold underD at c1 c2
  generalize underC m s x = c at *
  generalize underL m s x = l at *
  refine pc_of_awp cx (fn := Try.f3) (c := _) Try.func3 rfl rfl (Nat.le_of_ble_eq_true rfl) ?_
  rw [Try.ntmps3]; refine Nav.imp ?_
  refine awp_region cx [] fun K hK => ?_
  simp [push_cast]
  repeat (refine And.intro (by clear hK; intros; first | omega | (simp_all; done) | (simp_all <;> omega)) ?_)
  refine hK _ ?_; clear hK K; refine Nav.imp ?_
  refine awp_region cx [(3, .p (.tup [.agg c.row, .int .i64 l]))] fun K hK => ?_
  simp [push_cast, c1, Cell.row]
  repeat (refine And.intro (by clear hK; intros; first | omega | (simp_all; done) | (simp_all <;> omega)) ?_)
  refine hK _ ?_; clear hK K; refine Nav.imp ?_
  refine awp_region cx [(3, .p (.tup [.agg c.row, .int .i64 l]))] fun K hK => ?_
  simp [push_cast, c2, Cell.row]
  repeat (refine And.intro (by clear hK; intros; first | omega | (simp_all; done) | (simp_all <;> omega)) ?_)
  refine hK _ ?_; clear hK K; refine Nav.imp ?_
  refine awp_region cx [(9, .p (.bool true))] fun K hK => ?_
  simp [push_cast, c0, Cell.row]
  repeat (refine And.intro (by clear hK; intros; first | omega | (simp_all; done) | (simp_all <;> omega)) ?_)
  refine hK _ ?_; clear hK K; refine Nav.imp ?_
  simp [push_cast]
set_option maxRecDepth 100000 in
theorem depositUnder_lifted (os : Os) (started : os.Started) (H : Type) (enc : TypeId × Value → H) :
    ReturnsInHanded {} Try.checked os 3 .any (Rows.depositUnderSpec.pre6 enc Try.prog Try.f3 Rows.depositUnderRow.domain false) (Rows.depositUnderSpec.post enc Try.prog Try.f3 false true false false) := by
  refine returnsInHanded_of_change (C := Try.checked) own started (by kernel_rfl) Try.func3
    (ChangeSpec.witness6 (enc := enc) (C := Try.checked) false ⟨#[], #[zeroMach, zeroSett, zeroPos], []⟩ 8 (by kernel_rfl) (by kernel_rfl) (by kernel_rfl) (by kernel_rfl)) ?_
  intro W base args ds gs before hval hW _ _
  exact law_contract rfl (fun ds h => by match ds, h with | [a0, a1, a2], _ => rfl) laidOut (by simp only [Try.params3]; intro t ht; simp at ht; rcases ht with rfl | rfl | rfl <;> exact ⟨by kernel_rfl, of_decide_eq_true (by kernel_rfl)⟩) (by kernel_rfl) rfl Try.underlying4
    (fun xs hx => by
      simp only [Try.params3, hasVs] at hx
      obtain ⟨x0, r0, rfl, h0, x1, r1, rfl, h1, x2, r2, rfl, h2, rfl⟩ := hx
      obtain ⟨m, rfl⟩ := arg_mach h0
      obtain ⟨s, rfl⟩ := arg_sett h1
      obtain ⟨x, rfl⟩ := arg_pos h2
      exact dunder_ok m s x) W base args ds gs before hval hW

theorem depositUnder_holds : Rows.DepositUnderSaid :=
  OpenClaim.holds_of_wide 3 Try.f3 rfl rfl rfl rfl rfl rfl rfl ⟨rfl, rfl, rfl, rfl, rfl⟩ rfl rfl rfl rfl rfl (by kernel_rfl) Try.func3 (by kernel_rfl)
    (of_decide_eq_true (by kernel_rfl)) (by unfold Func.isWrapper; first | (rw [if_pos (by decide +kernel)]; kernel_rfl) | (rw [if_neg (by decide +kernel)]; exact ⟨rfl, rfl⟩))
    (fun os started H enc _ => depositUnder_lifted os started H enc)

end Go.Proofs.Ytoofimknammifaa
