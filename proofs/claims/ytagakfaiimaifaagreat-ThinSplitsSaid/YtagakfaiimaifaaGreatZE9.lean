/-
  Texts of this seat put together: E9.
-/
import Derived.Test.YtagakfaiimaifaaGreatJ9
import Derived.Test.YtagakfaiimaifaaGreatJ10
import Derived.Test.YtagakfaiimaifaaGreatJ11
set_option linter.unusedVariables false
set_option linter.unusedSimpArgs false
set_option maxRecDepth 100000
namespace Go.Proofs.YtagakfaiimaifaaGreat
open Go.Abs Go.ChangeShapes Go.WideShapes Go.ChangeAt Go.RowKit

theorem open20_ok (R : List Row) (hv : validR R = true) : PC Tryz.prog 32 [.agg (regRow R), .int .i64 1] (.p (.agg (regRow (openR R)))) := by
  have c1 := erode20_ok R hv
  have h1 := (ero_facts (R := R) (k := 1) (by simp [reachB, hv])).1
  have hE := open_err hv
  have c2 := dilate20_ok (eroR R 1) h1 (fun h0 => by
    unfold dilE at hE
    rw [if_pos (by simp [reachB, h1]), if_pos h0] at hE
    by_cases q : rngB (eroR R 1) 1 = true
    · exact q
    · rw [if_neg q] at hE; cases hE)
  have e : openR R = dilR (eroR R 1) 1 := rfl
  rw [e]
  generalize dilR (eroR R 1) 1 = D at *
  generalize eroR R 1 = E at *
  refine pc_of_awp cx (fn := Tryz.f32) (c := _) Tryz.func32 rfl rfl (Nat.le_of_ble_eq_true rfl) ?_
  rw [Tryz.ntmps32]; refine Nav.imp ?_
  refine awp_region cx [] fun K hK => ?_
  simp [push_cast]
  repeat (refine And.intro (by clear hK; intros; first | omega | (simp_all; done) | (simp_all <;> omega)) ?_)
  refine hK _ ?_; clear hK K; refine Nav.imp ?_
  refine awp_region cx [(2, .p (.agg (regRow E))), (4, .p (.tup [.agg (regRow D), .int .i64 0]))] fun K hK => ?_
  simp [push_cast, c1, c2]
  repeat (refine And.intro (by clear hK; intros; first | omega | (simp_all; done) | (simp_all <;> omega)) ?_)
  refine hK _ ?_; clear hK K; refine Nav.imp ?_
  refine awp_region cx [] fun K hK => ?_
  simp [push_cast]
  repeat (refine And.intro (by clear hK; intros; first | omega | (simp_all; done) | (simp_all <;> omega)) ?_)
  refine hK _ ?_; clear hK K; refine Nav.imp ?_
  simp [push_cast]
theorem rsplit_ok (R : List Row) (hR : smallR R) : PC Tryz.prog 11 [.agg (regRow R)] (.p (.tup [.agg (regRow (openR R)), .agg (regRow (opR fD R (openR R)))])) := by
  have c0 := validR_ok R hR
  cases hv : validR R with
  | false =>
    rw [hv] at c0
    have e1 := open_bad hv
    have e2 : opR fD R (openR R) = [] := by simp [opR, hv]
    rw [e2, e1]
    refine pc_of_awp cx (fn := Tryz.f11) (c := _) Tryz.func11 rfl rfl (Nat.le_of_ble_eq_true rfl) ?_
    rw [Tryz.ntmps11]; refine Nav.imp ?_
    refine awp_region cx [] fun K hK => ?_
    simp [push_cast]
    repeat (refine And.intro (by clear hK; intros; first | omega | (simp_all; done) | (simp_all <;> omega)) ?_)
    refine hK _ ?_; clear hK K; refine Nav.imp ?_
    refine awp_region cx [(1, .p (.bool false))] fun K hK => ?_
    simp [push_cast, c0]
    repeat (refine And.intro (by clear hK; intros; first | omega | (simp_all; done) | (simp_all <;> omega)) ?_)
    refine hK _ ?_; clear hK K; refine Nav.imp ?_
    refine awp_cond (b := true) (by simp [push_cast]) (fun hb => ?_) (fun hb => ?_) <;> (refine Nav.imp ?_)
    · refine awp_region cx [] fun K hK => ?_
      simp [push_cast]
      repeat (refine And.intro (by clear hK; intros; first | omega | (simp_all; done) | (simp_all <;> omega)) ?_)
      refine hK _ ?_; clear hK K; refine Nav.imp ?_
      simp [push_cast]
    · simp at hb
  | true =>
    rw [hv] at c0
    have c1 := open20_ok R hv
    have c2 := rsubtract_big R (openR R) (big_of hR) (big_of (small_valid (open_valid R)))
    generalize opR fD R (openR R) = B at *
    generalize openR R = O at *
    refine pc_of_awp cx (fn := Tryz.f11) (c := _) Tryz.func11 rfl rfl (Nat.le_of_ble_eq_true rfl) ?_
    rw [Tryz.ntmps11]; refine Nav.imp ?_
    refine awp_region cx [] fun K hK => ?_
    simp [push_cast]
    repeat (refine And.intro (by clear hK; intros; first | omega | (simp_all; done) | (simp_all <;> omega)) ?_)
    refine hK _ ?_; clear hK K; refine Nav.imp ?_
    refine awp_region cx [(1, .p (.bool true))] fun K hK => ?_
    simp [push_cast, c0]
    repeat (refine And.intro (by clear hK; intros; first | omega | (simp_all; done) | (simp_all <;> omega)) ?_)
    refine hK _ ?_; clear hK K; refine Nav.imp ?_
    refine awp_cond (b := false) (by simp [push_cast]) (fun hb => ?_) (fun hb => ?_) <;> (refine Nav.imp ?_)
    · simp at hb
    · refine awp_region cx [(1, .p (.agg (regRow O)))] fun K hK => ?_
      simp [push_cast, c1]
      repeat (refine And.intro (by clear hK; intros; first | omega | (simp_all; done) | (simp_all <;> omega)) ?_)
      refine hK _ ?_; clear hK K; refine Nav.imp ?_
      refine awp_region_draw cx mixed [(3, .p (.agg (regRow B)))] fun K hK => ?_
      simp [push_cast, c2]
      repeat (refine And.intro (by clear hK; intros; first | omega | (simp_all; done) | (simp_all <;> omega)) ?_)
      refine hK _ _ (by kernel_rfl) ?_; clear hK K; refine Nav.imp ?_
      simp [push_cast]
theorem thinsplits_ok (R0 : List Row) : PC Tryz.prog 3 [.agg (regRow R0)] (.p (.bool true)) := by
  have c0 := awake25_ok
  have c1 := few_ok R0
  have hR := few_small R0
  generalize fewR R0 = R at *
  have c2 := split_ok R (big_of hR)
  have c3 := rsplit_ok R hR
  have hO := open_valid R
  have hB : validR (opR fD R (openR R)) = true := by
    cases hv : (validR R && validR (openR R)) with
    | false => unfold opR; rw [hv]; rfl
    | true =>
      simp only [Bool.and_eq_true] at hv
      exact (opR_facts (f := fD) rfl hv.1 hv.2).1
  have c4 := rsame_ok (openR R) (openR R) (small_valid hO)
  have c5 := rsame_ok (opR fD R (openR R)) (opR fD R (openR R)) (small_valid hB)
  rw [decide_eq_true rfl] at c4 c5
  generalize opR fD R (openR R) = B at *
  generalize openR R = O at *
  refine pc_of_awp cx (fn := Tryz.f3) (c := _) Tryz.func3 rfl rfl (Nat.le_of_ble_eq_true rfl) ?_
  rw [Tryz.ntmps3]; refine Nav.imp ?_
  refine awp_region cx [] fun K hK => ?_
  simp [push_cast]
  repeat (refine And.intro (by clear hK; intros; first | omega | (simp_all; done) | (simp_all <;> omega)) ?_)
  refine hK _ ?_; clear hK K; refine Nav.imp ?_
  refine awp_region cx [(1, .p (.agg (regRow R)))] fun K hK => ?_
  simp [push_cast, c1]
  repeat (refine And.intro (by clear hK; intros; first | omega | (simp_all; done) | (simp_all <;> omega)) ?_)
  refine hK _ ?_; clear hK K; refine Nav.imp ?_
  refine awp_region cx [(1, .p (.tup [.agg (regRow O), .agg (regRow B)]))] fun K hK => ?_
  simp [push_cast, c2]
  repeat (refine And.intro (by clear hK; intros; first | omega | (simp_all; done) | (simp_all <;> omega)) ?_)
  refine hK _ ?_; clear hK K; refine Nav.imp ?_
  refine awp_region cx [(1, .p (.tup [.agg (regRow O), .agg (regRow B)]))] fun K hK => ?_
  simp [push_cast, c3]
  repeat (refine And.intro (by clear hK; intros; first | omega | (simp_all; done) | (simp_all <;> omega)) ?_)
  refine hK _ ?_; clear hK K; refine Nav.imp ?_
  refine awp_region cx [(2, .p (.bool true)), (6, .p (.bool true)), (9, .p (.bool true))] fun K hK => ?_
  simp [push_cast, c4, c5, c0]
  repeat (refine And.intro (by clear hK; intros; first | omega | (simp_all; done) | (simp_all <;> omega)) ?_)
  refine hK _ ?_; clear hK K; refine Nav.imp ?_
  simp [push_cast]

set_option maxRecDepth 100000 in
theorem thinSplits_lifted (os : Os) (started : os.Started) (H : Type) (enc : TypeId × Value → H) :
    ReturnsInHanded {} Tryz.checked os 3 .any (Rows.thinSplitsSpec.pre6 enc Tryz.prog Tryz.f3 Rows.thinSplitsRow.domain false) (Rows.thinSplitsSpec.post enc Tryz.prog Tryz.f3 false true false false) := by
  refine returnsInHanded_of_change (C := Tryz.checked) own started (by kernel_rfl) Tryz.func3
    (ChangeSpec.witness6 (enc := enc) (C := Tryz.checked) false ⟨#[], #[zeroReg], []⟩ 8 (by kernel_rfl) (by kernel_rfl) (by kernel_rfl) (by kernel_rfl)) ?_
  intro W base args ds gs before hval hW _ _
  exact law_contract rfl (fun ds h => by match ds, h with | [a0], _ => rfl) laidOut (by simp only [Tryz.params3]; intro t ht; simp at ht; rcases ht with rfl <;> exact ⟨by kernel_rfl, of_decide_eq_true (by kernel_rfl)⟩) (by kernel_rfl) rfl Tryz.underlying4
    (fun xs hx => by
      simp only [Tryz.params3, hasVs] at hx
      obtain ⟨x0, r0, rfl, h0, rfl⟩ := hx
      obtain ⟨R, rfl⟩ := arg_region h0
      exact thinsplits_ok R) W base args ds gs before hval hW

theorem thinSplits_holds : Rows.ThinSplitsSaid :=
  OpenClaim.holds_of_wide 3 Tryz.f3 rfl rfl rfl rfl rfl rfl rfl ⟨rfl, rfl, rfl, rfl, rfl⟩ rfl rfl rfl rfl rfl (by kernel_rfl) Tryz.func3 (by kernel_rfl)
    (of_decide_eq_true (by kernel_rfl)) (by unfold Func.isWrapper; first | (rw [if_pos (by decide +kernel)]; kernel_rfl) | (rw [if_neg (by decide +kernel)]; exact ⟨rfl, rfl⟩))
    (fun os started H enc _ => thinSplits_lifted os started H enc)

end Go.Proofs.YtagakfaiimaifaaGreat
