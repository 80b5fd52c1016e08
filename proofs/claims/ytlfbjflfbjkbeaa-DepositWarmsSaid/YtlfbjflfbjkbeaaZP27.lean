/-
  Texts of this seat put together: P27.
-/
import Derived.Test.YtlfbjflfbjkbeaaJ9
import Derived.Test.YtlfbjflfbjkbeaaJ8
set_option linter.unusedVariables false
set_option linter.unusedSimpArgs false
set_option maxRecDepth 100000
namespace Go.Proofs.Ytlfbjflfbjkbeaa
open Go.Abs Go.ChangeShapes Go.WideShapes Go.ChangeAt Go.RowKit

theorem heat_bad {h : Htr} {t d : Int} (hv : htB h = false) : heatT h t d = t := by
  unfold heatT
  rw [hv]
  rfl
theorem heat_cool {h : Htr} {t : Int} (hv : htB h = true) (ht : -1000000000 ≤ t ∧ t ≤ 1000000000) (ha : h.am ≤ t) : h.am ≤ heatT h t 0 ∧ heatT h t 0 ≤ t := by
  obtain ⟨h1, h2, h3, h4, h5, h6, h7, h8⟩ := ht_facts hv
  have hc : clampI t (-1073741824) 1073741824 = t := by unfold clampI; omega
  have hd : clampI 0 0 255 = 0 := by decide
  have e : heatT h t 0 = t + (0 * h.pw - h.ls * (t - h.am)) / h.ms := by
    unfold heatT
    rw [if_pos (by simp [hv]; omega)]
    unfold stepI
    rw [if_pos hv, hc, hd]
  rw [e]
  have p1 : 0 ≤ h.ls * (t - h.am) := Int.mul_nonneg (by omega) (by omega)
  have p2 : h.ls * (t - h.am) ≤ h.ms * (t - h.am) := Int.mul_le_mul_of_nonneg_right h5 (by omega)
  have q1 : -(t - h.am) ≤ (0 * h.pw - h.ls * (t - h.am)) / h.ms := by
    refine Int.le_ediv_of_mul_le (by omega) ?_
    have : -(t - h.am) * h.ms = -(h.ms * (t - h.am)) := by rw [Int.neg_mul, Int.mul_comm]
    omega
  have q2 : (0 * h.pw - h.ls * (t - h.am)) / h.ms ≤ 0 := by
    have := Int.ediv_le_of_le_mul (c := h.ms) (a := 0 * h.pw - h.ls * (t - h.am)) (b := 0) (by omega) (by omega)
    exact this
  omega
set_option maxHeartbeats 4000000 in
theorem dwarms_ok (b : Bench) : PC Try.prog 5 [.agg b.row] (.p (.bool true)) := by
  have c0 := awake55_ok
  have c1 := few_ok b
  have hS := few_small b
  generalize fewB b = B at *
  have c2 := heat_ok B 0 0 hS
  have v0 := rvalid48_ok B.h0
  have v1 := rvalid48_ok B.h1
  have f0 := @heat_bad B.h0 B.t0 0
  have f1 := @heat_bad B.h1 B.t1 0
  have g0 := @heat_cool B.h0 B.t0
  have g1 := @heat_cool B.h1 B.t1
  have hA : heatB B 0 0 = { B with t0 := heatT B.h0 B.t0 0, t1 := heatT B.h1 B.t1 0 } := rfl
  rw [hA] at c2
  generalize htB B.h0 = x0 at *
  generalize htB B.h1 = x1 at *
  generalize heatT B.h0 B.t0 0 = y0 at *
  generalize heatT B.h1 B.t1 0 = y1 at *
  clear hA
  simp only [Bench.h0, Bench.h1, Htr.row] at v0 v1 g0 g1
  refine pc_of_awp cx (fn := Try.f5) (c := _) Try.func5 rfl rfl (Nat.le_of_ble_eq_true rfl) ?_
  rw [Try.ntmps5]; refine Nav.imp ?_
  refine awp_region cx [] fun K hK => ?_
  simp [push_cast]
  repeat (refine And.intro (by clear hK; intros; first | omega | (simp_all; done) | (simp_all <;> omega)) ?_)
  refine hK _ ?_; clear hK K; refine Nav.imp ?_
  refine awp_region cx [(1, .p (.agg B.row))] fun K hK => ?_
  simp [push_cast, c1]
  repeat (refine And.intro (by clear hK; intros; first | omega | (simp_all; done) | (simp_all <;> omega)) ?_)
  refine hK _ ?_; clear hK K; refine Nav.imp ?_
  refine awp_region cx [(2, .p (.agg (Bench.row { B with t0 := y0, t1 := y1 })))] fun K hK => ?_
  simp [push_cast, c2]
  repeat (refine And.intro (by clear hK; intros; first | omega | (simp_all; done) | (simp_all <;> omega)) ?_)
  refine hK _ ?_; clear hK K; refine Nav.imp ?_
  refine awp_region cx [] fun K hK => ?_
  simp [push_cast]
  repeat (refine And.intro (by clear hK; intros; first | omega | (simp_all; done) | (simp_all <;> omega)) ?_)
  refine hK _ ?_; clear hK K; refine Nav.imp ?_
  refine awp_loop (β := Nat) (fun i => ⟨68, [(1, .ptr 0 0 0), (3, .ptr 1 0 0), (4, .d (.int .i64 i))], [(0, some ⟨43, 22, [B.row.map .d]⟩), (1, some ⟨43, 22, [(Bench.row { B with t0 := y0, t1 := y1 }).map .d]⟩)], 2⟩) (fun i => i ≤ 2) (fun i => 2 - i) 0 ?_ (Nat.zero_le _) ?_
  · refine weak_of [(0, some 0), (1, some 8)] rfl (by simp [upT, up, upL, push_cast]) (by simp [upH, upR, upL, up, push_cast]) (by simp [namesOk, push_cast]) (by simp [olds])
  · rintro i hi
    rcases (show i = 0 ∨ i = 1 ∨ i = 2 by omega) with rfl | rfl | rfl
    · refine Nav.imp ?_
      refine awp_region cx [] fun K hK => ?_
      simp [push_cast]
      repeat (refine And.intro (by clear hK; intros; first | omega | (simp_all; done) | (simp_all <;> omega)) ?_)
      refine hK _ ?_; clear hK K; refine Nav.imp ?_
      refine awp_cond (b := true) (by simp [push_cast]) (fun hb => ?_) (fun hb => ?_) <;> (refine Nav.imp ?_)
      · refine awp_region cx [] fun K hK => ?_
        simp [push_cast]
        repeat (refine And.intro (by clear hK; intros; first | omega | (simp_all; done) | (simp_all <;> omega)) ?_)
        refine hK _ ?_; clear hK K; refine Nav.imp ?_
        refine awp_region cx [] fun K hK => ?_
        simp [push_cast]
        repeat (refine And.intro (by clear hK; intros; first | omega | (simp_all; done) | (simp_all <;> omega)) ?_)
        refine hK _ ?_; clear hK K; refine Nav.imp ?_
        cases x0 with
        | false =>
          have e := f0 rfl
          subst e
          refine awp_region cx [(1, .p (.bool false))] fun K hK => ?_
          simp [push_cast, v0]
          repeat (refine And.intro (by clear hK; intros; first | omega | (simp_all; done) | (simp_all <;> omega)) ?_)
          refine hK _ ?_; clear hK K; refine Nav.imp ?_
          refine awp_cond (b := true) (by simp [push_cast]) (fun hb => ?_) (fun hb => ?_) <;> (refine Nav.imp ?_)
          · refine awp_region cx [(1, .p (.bool false))] fun K hK => ?_
            simp [push_cast, v0]
            repeat (refine And.intro (by clear hK; intros; first | omega | (simp_all; done) | (simp_all <;> omega)) ?_)
            refine hK _ ?_; clear hK K; refine Nav.imp ?_
            refine awp_cond (b := false) (by simp [push_cast]) (fun hb => ?_) (fun hb => ?_) <;> (refine Nav.imp ?_)
            · simp at hb
            · refine awp_region cx [] fun K hK => ?_
              simp [push_cast]
              repeat (refine And.intro (by clear hK; intros; first | omega | (simp_all; done) | (simp_all <;> omega)) ?_)
              refine hK _ ?_; clear hK K; refine Nav.imp ?_
              refine ⟨1, by omega, by omega, ?_⟩
              refine weak_of [(0, some 0), (1, some 1)] rfl (by simp [upT, up, upL, push_cast]) (by simp [upH, upR, upL, up, push_cast]) (by simp [namesOk, push_cast]) (by simp [olds])
          · simp at hb
        | true =>
          refine awp_region cx [(1, .p (.bool true))] fun K hK => ?_
          simp [push_cast, v0]
          repeat (refine And.intro (by clear hK; intros; first | omega | (simp_all; done) | (simp_all <;> omega)) ?_)
          refine hK _ ?_; clear hK K; refine Nav.imp ?_
          refine awp_cond (b := decide (B.t0 < -1000000000) || decide (1000000000 < B.t0)) (by simp [push_cast]) (fun hb => ?_) (fun hb => ?_) <;> (refine Nav.imp ?_)
          · refine awp_region cx [(1, .p (.bool true))] fun K hK => ?_
            simp [push_cast, v0]
            repeat (refine And.intro (by clear hK; intros; first | omega | (simp_all; done) | (simp_all <;> omega)) ?_)
            refine hK _ ?_; clear hK K; refine Nav.imp ?_
            refine awp_cond (b := false) (by simp [push_cast]) (fun hb => ?_) (fun hb => ?_) <;> (refine Nav.imp ?_)
            · simp at hb
            · refine awp_region cx [] fun K hK => ?_
              simp [push_cast]
              repeat (refine And.intro (by clear hK; intros; first | omega | (simp_all; done) | (simp_all <;> omega)) ?_)
              refine hK _ ?_; clear hK K; refine Nav.imp ?_
              refine ⟨1, by omega, by omega, ?_⟩
              refine weak_of [(0, some 0), (1, some 1)] rfl (by simp [upT, up, upL, push_cast]) (by simp [upH, upR, upL, up, push_cast]) (by simp [namesOk, push_cast]) (by simp [olds])
          · have hr : -1000000000 ≤ B.t0 ∧ B.t0 ≤ 1000000000 := by simp at hb; omega
            by_cases q : B.am0 ≤ B.t0
            · obtain ⟨z1, z2⟩ := g0 rfl hr q
              have z3 : decide (B.t0 < y0) = false := by simp; omega
              have z4 : decide (y0 < B.am0) = false := by simp; omega
              refine awp_region_draw cx mixed [] fun K hK => ?_
              simp [push_cast, q, z3, z4]
              repeat (refine And.intro (by clear hK; intros; first | omega | (simp_all; done) | (simp_all <;> omega)) ?_)
              refine hK _ _ (by kernel_rfl) ?_; clear hK K; refine Nav.imp ?_
              refine awp_cond (b := false) (by simp [push_cast]) (fun hb => ?_) (fun hb => ?_) <;> (refine Nav.imp ?_)
              · simp at hb
              · refine awp_region cx [] fun K hK => ?_
                simp [push_cast]
                repeat (refine And.intro (by clear hK; intros; first | omega | (simp_all; done) | (simp_all <;> omega)) ?_)
                refine hK _ ?_; clear hK K; refine Nav.imp ?_
                refine ⟨1, by omega, by omega, ?_⟩
                refine weak_of [(0, some 0), (1, some 1)] rfl (by simp [upT, up, upL, push_cast]) (by simp [upH, upR, upL, up, push_cast]) (by simp [namesOk, push_cast]) (by simp [olds])
            · have q' : decide (B.am0 ≤ B.t0) = false := by simp; omega
              refine awp_region_draw cx mixed [] fun K hK => ?_
              simp [push_cast, q']
              repeat (refine And.intro (by clear hK; intros; first | omega | (simp_all; done) | (simp_all <;> omega)) ?_)
              refine hK _ _ (by kernel_rfl) ?_; clear hK K; refine Nav.imp ?_
              refine awp_cond (b := false) (by simp [push_cast]) (fun hb => ?_) (fun hb => ?_) <;> (refine Nav.imp ?_)
              · simp at hb
              · refine awp_region cx [] fun K hK => ?_
                simp [push_cast]
                repeat (refine And.intro (by clear hK; intros; first | omega | (simp_all; done) | (simp_all <;> omega)) ?_)
                refine hK _ ?_; clear hK K; refine Nav.imp ?_
                refine ⟨1, by omega, by omega, ?_⟩
                refine weak_of [(0, some 0), (1, some 1)] rfl (by simp [upT, up, upL, push_cast]) (by simp [upH, upR, upL, up, push_cast]) (by simp [namesOk, push_cast]) (by simp [olds])
      · simp at hb
    · refine Nav.imp ?_
      refine awp_region cx [] fun K hK => ?_
      simp [push_cast]
      repeat (refine And.intro (by clear hK; intros; first | omega | (simp_all; done) | (simp_all <;> omega)) ?_)
      refine hK _ ?_; clear hK K; refine Nav.imp ?_
      refine awp_cond (b := true) (by simp [push_cast]) (fun hb => ?_) (fun hb => ?_) <;> (refine Nav.imp ?_)
      · refine awp_region cx [] fun K hK => ?_
        simp [push_cast]
        repeat (refine And.intro (by clear hK; intros; first | omega | (simp_all; done) | (simp_all <;> omega)) ?_)
        refine hK _ ?_; clear hK K; refine Nav.imp ?_
        refine awp_region cx [] fun K hK => ?_
        simp [push_cast]
        repeat (refine And.intro (by clear hK; intros; first | omega | (simp_all; done) | (simp_all <;> omega)) ?_)
        refine hK _ ?_; clear hK K; refine Nav.imp ?_
        cases x1 with
        | false =>
          have e := f1 rfl
          subst e
          refine awp_region cx [(1, .p (.bool false))] fun K hK => ?_
          simp [push_cast, v1]
          repeat (refine And.intro (by clear hK; intros; first | omega | (simp_all; done) | (simp_all <;> omega)) ?_)
          refine hK _ ?_; clear hK K; refine Nav.imp ?_
          refine awp_cond (b := true) (by simp [push_cast]) (fun hb => ?_) (fun hb => ?_) <;> (refine Nav.imp ?_)
          · refine awp_region cx [(1, .p (.bool false))] fun K hK => ?_
            simp [push_cast, v1]
            repeat (refine And.intro (by clear hK; intros; first | omega | (simp_all; done) | (simp_all <;> omega)) ?_)
            refine hK _ ?_; clear hK K; refine Nav.imp ?_
            refine awp_cond (b := false) (by simp [push_cast]) (fun hb => ?_) (fun hb => ?_) <;> (refine Nav.imp ?_)
            · simp at hb
            · refine awp_region cx [] fun K hK => ?_
              simp [push_cast]
              repeat (refine And.intro (by clear hK; intros; first | omega | (simp_all; done) | (simp_all <;> omega)) ?_)
              refine hK _ ?_; clear hK K; refine Nav.imp ?_
              refine ⟨2, by omega, by omega, ?_⟩
              refine weak_of [(0, some 0), (1, some 1)] rfl (by simp [upT, up, upL, push_cast]) (by simp [upH, upR, upL, up, push_cast]) (by simp [namesOk, push_cast]) (by simp [olds])
          · simp at hb
        | true =>
          refine awp_region cx [(1, .p (.bool true))] fun K hK => ?_
          simp [push_cast, v1]
          repeat (refine And.intro (by clear hK; intros; first | omega | (simp_all; done) | (simp_all <;> omega)) ?_)
          refine hK _ ?_; clear hK K; refine Nav.imp ?_
          refine awp_cond (b := decide (B.t1 < -1000000000) || decide (1000000000 < B.t1)) (by simp [push_cast]) (fun hb => ?_) (fun hb => ?_) <;> (refine Nav.imp ?_)
          · refine awp_region cx [(1, .p (.bool true))] fun K hK => ?_
            simp [push_cast, v1]
            repeat (refine And.intro (by clear hK; intros; first | omega | (simp_all; done) | (simp_all <;> omega)) ?_)
            refine hK _ ?_; clear hK K; refine Nav.imp ?_
            refine awp_cond (b := false) (by simp [push_cast]) (fun hb => ?_) (fun hb => ?_) <;> (refine Nav.imp ?_)
            · simp at hb
            · refine awp_region cx [] fun K hK => ?_
              simp [push_cast]
              repeat (refine And.intro (by clear hK; intros; first | omega | (simp_all; done) | (simp_all <;> omega)) ?_)
              refine hK _ ?_; clear hK K; refine Nav.imp ?_
              refine ⟨2, by omega, by omega, ?_⟩
              refine weak_of [(0, some 0), (1, some 1)] rfl (by simp [upT, up, upL, push_cast]) (by simp [upH, upR, upL, up, push_cast]) (by simp [namesOk, push_cast]) (by simp [olds])
          · have hr : -1000000000 ≤ B.t1 ∧ B.t1 ≤ 1000000000 := by simp at hb; omega
            by_cases q : B.am1 ≤ B.t1
            · obtain ⟨z1, z2⟩ := g1 rfl hr q
              have z3 : decide (B.t1 < y1) = false := by simp; omega
              have z4 : decide (y1 < B.am1) = false := by simp; omega
              refine awp_region_draw cx mixed [] fun K hK => ?_
              simp [push_cast, q, z3, z4]
              repeat (refine And.intro (by clear hK; intros; first | omega | (simp_all; done) | (simp_all <;> omega)) ?_)
              refine hK _ _ (by kernel_rfl) ?_; clear hK K; refine Nav.imp ?_
              refine awp_cond (b := false) (by simp [push_cast]) (fun hb => ?_) (fun hb => ?_) <;> (refine Nav.imp ?_)
              · simp at hb
              · refine awp_region cx [] fun K hK => ?_
                simp [push_cast]
                repeat (refine And.intro (by clear hK; intros; first | omega | (simp_all; done) | (simp_all <;> omega)) ?_)
                refine hK _ ?_; clear hK K; refine Nav.imp ?_
                refine ⟨2, by omega, by omega, ?_⟩
                refine weak_of [(0, some 0), (1, some 1)] rfl (by simp [upT, up, upL, push_cast]) (by simp [upH, upR, upL, up, push_cast]) (by simp [namesOk, push_cast]) (by simp [olds])
            · have q' : decide (B.am1 ≤ B.t1) = false := by simp; omega
              refine awp_region_draw cx mixed [] fun K hK => ?_
              simp [push_cast, q']
              repeat (refine And.intro (by clear hK; intros; first | omega | (simp_all; done) | (simp_all <;> omega)) ?_)
              refine hK _ _ (by kernel_rfl) ?_; clear hK K; refine Nav.imp ?_
              refine awp_cond (b := false) (by simp [push_cast]) (fun hb => ?_) (fun hb => ?_) <;> (refine Nav.imp ?_)
              · simp at hb
              · refine awp_region cx [] fun K hK => ?_
                simp [push_cast]
                repeat (refine And.intro (by clear hK; intros; first | omega | (simp_all; done) | (simp_all <;> omega)) ?_)
                refine hK _ ?_; clear hK K; refine Nav.imp ?_
                refine ⟨2, by omega, by omega, ?_⟩
                refine weak_of [(0, some 0), (1, some 1)] rfl (by simp [upT, up, upL, push_cast]) (by simp [upH, upR, upL, up, push_cast]) (by simp [namesOk, push_cast]) (by simp [olds])
      · simp at hb
    · refine Nav.imp ?_
      refine awp_region cx [] fun K hK => ?_
      simp [push_cast]
      repeat (refine And.intro (by clear hK; intros; first | omega | (simp_all; done) | (simp_all <;> omega)) ?_)
      refine hK _ ?_; clear hK K; refine Nav.imp ?_
      refine awp_cond (b := false) (by simp [push_cast]) (fun hb => ?_) (fun hb => ?_) <;> (refine Nav.imp ?_)
      · simp at hb
      · refine awp_region cx [(0, .p (.bool true))] fun K hK => ?_
        simp [push_cast, c0]
        repeat (refine And.intro (by clear hK; intros; first | omega | (simp_all; done) | (simp_all <;> omega)) ?_)
        refine hK _ ?_; clear hK K; refine Nav.imp ?_
        simp [push_cast]
set_option maxRecDepth 100000 in
theorem depositWarms_lifted (os : Os) (started : os.Started) (H : Type) (enc : TypeId × Value → H) :
    ReturnsInHanded {} Try.checked os 5 .any (Rows.depositWarmsSpec.pre6 enc Try.prog Try.f5 Rows.depositWarmsRow.domain false) (Rows.depositWarmsSpec.post enc Try.prog Try.f5 false true false false) := by
  refine returnsInHanded_of_change (C := Try.checked) own started (by kernel_rfl) Try.func5
    (ChangeSpec.witness6 (enc := enc) (C := Try.checked) false ⟨#[], #[zeroBench], []⟩ 8 (by kernel_rfl) (by kernel_rfl) (by kernel_rfl) (by kernel_rfl)) ?_
  intro W base args ds gs before hval hW _ _
  exact law_contract rfl (fun ds h => by match ds, h with | [a0], _ => rfl) laidOut (by simp only [Try.params5]; intro t ht; simp at ht; rcases ht with rfl <;> exact ⟨by kernel_rfl, of_decide_eq_true (by kernel_rfl)⟩) (by kernel_rfl) rfl Try.underlying4
    (fun xs hx => by
      simp only [Try.params5, hasVs] at hx
      obtain ⟨x0, r0, rfl, h0, rfl⟩ := hx
      obtain ⟨b, rfl⟩ := arg_bench h0
      exact dwarms_ok b) W base args ds gs before hval hW

theorem depositWarms_holds : Rows.DepositWarmsSaid :=
  OpenClaim.holds_of_wide 5 Try.f5 rfl rfl rfl rfl rfl rfl rfl ⟨rfl, rfl, rfl, rfl, rfl⟩ rfl rfl rfl rfl rfl (by kernel_rfl) Try.func5 (by kernel_rfl)
    (of_decide_eq_true (by kernel_rfl)) (by unfold Func.isWrapper; first | (rw [if_pos (by decide +kernel)]; kernel_rfl) | (rw [if_neg (by decide +kernel)]; exact ⟨rfl, rfl⟩))
    (fun os started H enc _ => depositWarms_lifted os started H enc)

end Go.Proofs.Ytlfbjflfbjkbeaa
