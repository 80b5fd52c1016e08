/-
  Texts of this seat put together: K5.
-/
import Derived.Test.YtlfalheciadklaaJ9
import Derived.Test.YtlfalheciadklaaJ10
set_option linter.unusedVariables false
set_option linter.unusedSimpArgs false
set_option maxRecDepth 100000
namespace Go.Proofs.Ytlfalheciadklaa
open Go.Abs Go.ChangeShapes Go.WideShapes Go.ChangeAt Go.RowKit

/-- What is missing is what the dilation leaves. -/
theorem miss_dil {S M : List Row} {k : Int} (h : dilE M k = 0) : missR S M k = opR fD S (dilR M k) := by
  obtain ⟨hq, d1, d2⟩ := dil_facts h
  cases hS : validR S with
  | false =>
    have e1 : missR S M k = [] := by unfold missR missB; rw [hS]; rfl
    have e2 : opR fD S (dilR M k) = [] := by simp [opR, hS]
    rw [e1, e2]
  | true =>
    have hm : missB S M k = true := by
      unfold missB
      simp only [reachB, Bool.and_eq_true, decide_eq_true_eq] at hq
      simp [hS, hq.2, hq.1.1, hq.1.2]
    obtain ⟨m1, m2⟩ := miss_facts hm
    refine region_uniq m1 (opR_valid rfl _ _) fun c => ?_
    rw [m2, opD_iff hS d1, d2]
theorem sameB_self {R : List Row} (h : validR R = true) : sameB R R = true := by simp [sameB, h]
set_option maxHeartbeats 2000000 in
theorem inspectdilates_ok (S M : List Row) (k : Int) (hS : bigR S) (hM : bigR M) : PC Try.prog 7 [.agg (regRow S), .agg (regRow M), .int .i64 k] (.p (.bool true)) := by
  have c0 := awake56_ok
  have c1 := heavy56_ok S hS
  have c2 := heavy56_ok M hM
  cases h1 : heavyB S with
  | true =>
    rw [h1] at c1
    refine pc_of_awp cx (fn := Try.f7) (c := _) Try.func7 rfl rfl (Nat.le_of_ble_eq_true rfl) ?_
    rw [Try.ntmps7]; refine Nav.imp ?_
    refine awp_region cx [] fun K hK => ?_
    simp [push_cast]
    repeat (refine And.intro (by clear hK; intros; first | omega | (simp_all; done) | (simp_all <;> omega)) ?_)
    refine hK _ ?_; clear hK K; refine Nav.imp ?_
    refine awp_region cx [(1, .p (.bool true)), (4, .skip)] fun K hK => ?_
    simp [push_cast, c1]
    repeat (refine And.intro (by clear hK; intros; first | omega | (simp_all; done) | (simp_all <;> omega)) ?_)
    refine hK _ ?_; clear hK K; refine Nav.imp ?_
    refine awp_cond (b := true) (by simp [push_cast]) (fun hb => ?_) (fun hb => ?_) <;> (refine Nav.imp ?_)
    · refine awp_region cx [(0, .p (.bool true))] fun K hK => ?_
      simp [push_cast, c0]
      repeat (refine And.intro (by clear hK; intros; first | omega | (simp_all; done) | (simp_all <;> omega)) ?_)
      refine hK _ ?_; clear hK K; refine Nav.imp ?_
      simp [push_cast]
    · simp at hb
  | false =>
    rw [h1] at c1
    cases h2 : heavyB M with
    | true =>
      rw [h2] at c2
      refine pc_of_awp cx (fn := Try.f7) (c := _) Try.func7 rfl rfl (Nat.le_of_ble_eq_true rfl) ?_
      rw [Try.ntmps7]; refine Nav.imp ?_
      refine awp_region cx [] fun K hK => ?_
      simp [push_cast]
      repeat (refine And.intro (by clear hK; intros; first | omega | (simp_all; done) | (simp_all <;> omega)) ?_)
      refine hK _ ?_; clear hK K; refine Nav.imp ?_
      refine awp_region cx [(1, .p (.bool false)), (4, .p (.bool true))] fun K hK => ?_
      simp [push_cast, c1, c2]
      repeat (refine And.intro (by clear hK; intros; first | omega | (simp_all; done) | (simp_all <;> omega)) ?_)
      refine hK _ ?_; clear hK K; refine Nav.imp ?_
      refine awp_cond (b := true) (by simp [push_cast]) (fun hb => ?_) (fun hb => ?_) <;> (refine Nav.imp ?_)
      · refine awp_region cx [(0, .p (.bool true))] fun K hK => ?_
        simp [push_cast, c0]
        repeat (refine And.intro (by clear hK; intros; first | omega | (simp_all; done) | (simp_all <;> omega)) ?_)
        refine hK _ ?_; clear hK K; refine Nav.imp ?_
        simp [push_cast]
      · simp at hb
    | false =>
      rw [h2] at c2
      have c3 := dilate_ok M k hM
      have c4 := missing_ok S M k hS hM
      have hdv := dil_valid M k
      by_cases hE : dilE M k = 0
      · have hmd := miss_dil (S := S) hE
        have c5 := subtractR_big S (dilR M k) hS (big_of (small_valid hdv))
        rw [← hmd] at c5
        have hmv := miss_valid S M k
        have c6 := sameR_big (missR S M k) (missR S M k) (big_of (small_valid hmv)) (big_of (small_valid hmv))
        rw [sameB_self hmv] at c6
        rw [hE] at c3
        clear hmd hmv hE hdv
        generalize missR S M k = X at *
        generalize dilR M k = Y at *
        refine pc_of_awp cx (fn := Try.f7) (c := _) Try.func7 rfl rfl (Nat.le_of_ble_eq_true rfl) ?_
        rw [Try.ntmps7]; refine Nav.imp ?_
        refine awp_region cx [] fun K hK => ?_
        simp [push_cast]
        repeat (refine And.intro (by clear hK; intros; first | omega | (simp_all; done) | (simp_all <;> omega)) ?_)
        refine hK _ ?_; clear hK K; refine Nav.imp ?_
        refine awp_region cx [(1, .p (.bool false)), (4, .p (.bool false))] fun K hK => ?_
        simp [push_cast, c1, c2]
        repeat (refine And.intro (by clear hK; intros; first | omega | (simp_all; done) | (simp_all <;> omega)) ?_)
        refine hK _ ?_; clear hK K; refine Nav.imp ?_
        refine awp_cond (b := false) (by simp [push_cast]) (fun hb => ?_) (fun hb => ?_) <;> (refine Nav.imp ?_)
        · simp at hb
        · refine awp_region cx [(2, .p (.tup [.agg (regRow Y), .int .i64 0]))] fun K hK => ?_
          simp [push_cast, c3]
          repeat (refine And.intro (by clear hK; intros; first | omega | (simp_all; done) | (simp_all <;> omega)) ?_)
          refine hK _ ?_; clear hK K; refine Nav.imp ?_
          refine awp_region_draw cx mixed [(6, .p (.agg (regRow X))), (9, .p (.agg (regRow X))), (10, .p (.bool true)), (13, .p (.bool true))] fun K hK => ?_
          simp [push_cast, c0, c4, c5, c6]
          repeat (refine And.intro (by clear hK; intros; first | omega | (simp_all; done) | (simp_all <;> omega)) ?_)
          refine hK _ _ (by kernel_rfl) ?_; clear hK K; refine Nav.imp ?_
          simp [push_cast]
      · have hE' : (dilE M k != 0) = true := by simpa using hE
        generalize dilE M k = e at *
        generalize dilR M k = Y at *
        refine pc_of_awp cx (fn := Try.f7) (c := _) Try.func7 rfl rfl (Nat.le_of_ble_eq_true rfl) ?_
        rw [Try.ntmps7]; refine Nav.imp ?_
        refine awp_region cx [] fun K hK => ?_
        simp [push_cast]
        repeat (refine And.intro (by clear hK; intros; first | omega | (simp_all; done) | (simp_all <;> omega)) ?_)
        refine hK _ ?_; clear hK K; refine Nav.imp ?_
        refine awp_region cx [(1, .p (.bool false)), (4, .p (.bool false))] fun K hK => ?_
        simp [push_cast, c1, c2]
        repeat (refine And.intro (by clear hK; intros; first | omega | (simp_all; done) | (simp_all <;> omega)) ?_)
        refine hK _ ?_; clear hK K; refine Nav.imp ?_
        refine awp_cond (b := false) (by simp [push_cast]) (fun hb => ?_) (fun hb => ?_) <;> (refine Nav.imp ?_)
        · simp at hb
        · refine awp_region cx [(2, .p (.tup [.agg (regRow Y), .int .i64 e]))] fun K hK => ?_
          simp [push_cast, c3]
          repeat (refine And.intro (by clear hK; intros; first | omega | (simp_all; done) | (simp_all <;> omega)) ?_)
          refine hK _ ?_; clear hK K; refine Nav.imp ?_
          refine awp_region_draw cx mixed [(6, .skip), (9, .skip), (10, .skip), (13, .p (.bool true))] fun K hK => ?_
          simp [push_cast, c0, hE', hE]
          repeat (refine And.intro (by clear hK; intros; first | omega | (simp_all; done) | (simp_all <;> omega)) ?_)
          refine hK _ _ (by kernel_rfl) ?_; clear hK K; refine Nav.imp ?_
          simp [push_cast]

set_option maxRecDepth 100000 in
theorem inspectDilates_lifted (os : Os) (started : os.Started) (H : Type) (enc : TypeId × Value → H) :
    ReturnsInHanded {} Try.checked os 7 .any (Rows.inspectDilatesSpec.pre6 enc Try.prog Try.f7 Rows.inspectDilatesRow.domain false) (Rows.inspectDilatesSpec.post enc Try.prog Try.f7 false true false false) := by
  refine returnsInHanded_of_change (C := Try.checked) own started (by kernel_rfl) Try.func7
    (ChangeSpec.witness6 (enc := enc) (C := Try.checked) false ⟨#[], #[zeroReg, zeroReg, .int .i64 0], []⟩ 8 (by kernel_rfl) (by kernel_rfl) (by kernel_rfl) (by kernel_rfl)) ?_
  intro W base args ds gs before hval hW _ _
  exact law_contract rfl (fun ds h => by match ds, h with | [a0, a1, a2], _ => rfl) laidOut (by simp only [Try.params7]; intro t ht; simp at ht; rcases ht with rfl | rfl <;> exact ⟨by kernel_rfl, of_decide_eq_true (by kernel_rfl)⟩) (by kernel_rfl) rfl Try.underlying4
    (fun xs hx => by
      simp only [Try.params7, hasVs] at hx
      obtain ⟨x0, r0, rfl, h0, x1, r1, rfl, h1, x2, r2, rfl, h2, rfl⟩ := hx
      obtain ⟨⟨S, hS⟩, rfl⟩ := arg_regionB h0
      obtain ⟨⟨M, hM⟩, rfl⟩ := arg_regionB h1
      obtain ⟨k, rfl⟩ := arg_int h2
      exact inspectdilates_ok S M k hS hM) W base args ds gs before hval hW

theorem inspectDilates_holds : Rows.InspectDilatesSaid :=
  OpenClaim.holds_of_wide 7 Try.f7 rfl rfl rfl rfl rfl rfl rfl ⟨rfl, rfl, rfl, rfl, rfl⟩ rfl rfl rfl rfl rfl (by kernel_rfl) Try.func7 (by kernel_rfl)
    (of_decide_eq_true (by kernel_rfl)) (by unfold Func.isWrapper; first | (rw [if_pos (by decide +kernel)]; kernel_rfl) | (rw [if_neg (by decide +kernel)]; exact ⟨rfl, rfl⟩))
    (fun os started H enc _ => inspectDilates_lifted os started H enc)

end Go.Proofs.Ytlfalheciadklaa
