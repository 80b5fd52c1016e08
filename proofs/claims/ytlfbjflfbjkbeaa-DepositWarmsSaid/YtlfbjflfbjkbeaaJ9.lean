/-
  Texts of this seat put together: P19, P17, XR.
-/
import Derived.Test.YtlfbjflfbjkbeaaJ6
import Derived.Test.YtlfbjflfbjkbeaaJ8
import Derived.Test.YtlfbjflfbjkbeaaJ7
set_option linter.unusedVariables false
set_option linter.unusedSimpArgs false
set_option maxRecDepth 100000
namespace Go.Proofs.Ytlfbjflfbjkbeaa
open Go.Abs

set_option maxHeartbeats 4000000 in
theorem heat_ok (b : Bench) (d0 d1 : Int) (hS : smallL b.lays) : PC Try.prog 13 [.agg b.row, .agg [.int .i64 d0, .int .i64 d1]] (.p (.agg (heatB b d0 d1).row)) := by
  have c1 := clone_bench b hS
  have hH : heatB b d0 d1 = { b with t0 := heatT b.h0 b.t0 d0, t1 := heatT b.h1 b.t1 d1 } := rfl
  have hv0 := tvalid_ok b.h0
  have hv1 := tvalid_ok b.h1
  have hs0 := step_ok b.h0 b.t0 d0
  have hs1 := step_ok b.h1 b.t1 d1
  have he0 : heatT b.h0 b.t0 d0 = if htB b.h0 && decide (-1073741824 ≤ b.t0) && decide (b.t0 ≤ 1073741824) then stepI b.h0 b.t0 d0 else b.t0 := rfl
  have he1 : heatT b.h1 b.t1 d1 = if htB b.h1 && decide (-1073741824 ≤ b.t1) && decide (b.t1 ≤ 1073741824) then stepI b.h1 b.t1 d1 else b.t1 := rfl
  generalize htB b.h0 = x0 at *
  generalize htB b.h1 = x1 at *
  generalize stepI b.h0 b.t0 d0 = r0 at *
  generalize stepI b.h1 b.t1 d1 = r1 at *
  generalize heatT b.h0 b.t0 d0 = y0 at *
  generalize heatT b.h1 b.t1 d1 = y1 at *
  rw [hH]; clear hH
  simp only [Bench.h0, Bench.h1, Htr.row] at hv0 hv1 hs0 hs1
  refine pc_of_awp cx (fn := Try.f13) (c := _) Try.func13 rfl rfl (Nat.le_of_ble_eq_true rfl) ?_
  rw [Try.ntmps13]; refine Nav.imp ?_
  refine awp_region cx [] fun K hK => ?_
  simp [push_cast]
  repeat (refine And.intro (by clear hK; intros; first | omega | (simp_all; done) | (simp_all <;> omega)) ?_)
  refine hK _ ?_; clear hK K; refine Nav.imp ?_
  refine awp_region cx [(1, .x ⟨[], [.d (.agg b.row)], [], [], some 2, [(2, ⟨56, 1, dr (b.lays.map regRow)⟩)], .agg (b.av (.hs 2 0 b.lays.length))⟩)] fun K hK => ?_
  simp [push_cast, c1]
  repeat (refine And.intro (by clear hK; intros; first | omega | (simp_all; done) | (simp_all <;> omega)) ?_)
  refine hK _ ?_; clear hK K; refine Nav.imp ?_
  refine awp_freeze 4 (b.lays.map regRow) rfl (by simp [push_cast]) fun K hK => ?_
  simp [push_cast, St.fz, fzT, fzH, fzO, fz, fzL, fzR, fzR_dr, fzR_app, fzR_set, fzL_map]
  refine hK _ ?_; clear hK K; refine Nav.imp ?_
  refine awp_region cx [] fun K hK => ?_
  simp [push_cast]
  repeat (refine And.intro (by clear hK; intros; first | omega | (simp_all; done) | (simp_all <;> omega)) ?_)
  refine hK _ ?_; clear hK K; refine Nav.imp ?_
  refine awp_loop (β := Nat) (fun i => ⟨41, [(2, .ptr 0 0 0), (3, .ptr 1 0 0), (4, .ptr 2 0 0), (11, .d (.agg [.int .i64 b.pw0, .int .i64 b.ls0, .int .i64 b.ms0, .int .i64 b.am0, .int .i64 b.pw1, .int .i64 b.ls1, .int .i64 b.ms1, .int .i64 b.am1])), (12, .d (.int .i64 i))], [(0, some ⟨43, 22, [(Bench.row { b with t0 := if 0 < i then y0 else b.t0, t1 := if 1 < i then y1 else b.t1 }).map .d]⟩), (1, some ⟨36, 2, [[.d (.int .i64 d0), .d (.int .i64 d1)]]⟩), (2, some ⟨43, 22, benchZ⟩)], 3⟩) (fun i => i ≤ 2) (fun i => 2 - i) 0 ?_ (Nat.zero_le _) ?_
  · refine weak_of [(0, some 0), (1, some 1), (2, some 2)] rfl (by simp [upT, up, upL, push_cast]) (by simp [upH, upR, upL, up, push_cast]) (by simp [namesOk, push_cast]) (by simp [olds])
  · rintro i hi
    rcases (show i = 0 ∨ i = 1 ∨ i = 2 by omega) with rfl | rfl | rfl
    · simp (config := { decide := true }) only [if_true, if_false]
      refine Nav.imp ?_
      refine awp_region cx [] fun K hK => ?_
      simp [push_cast]
      repeat (refine And.intro (by clear hK; intros; first | omega | (simp_all; done) | (simp_all <;> omega)) ?_)
      refine hK _ ?_; clear hK K; refine Nav.imp ?_
      refine awp_cond (b := true) (by simp [push_cast]) (fun hb => ?_) (fun hb => ?_) <;> (refine Nav.imp ?_)
      · refine awp_region cx [] fun K hK => ?_
        simp [push_cast]
        repeat (refine And.intro (by clear hK; intros; first | omega | (simp_all; done) | (simp_all <;> omega)) ?_)
        refine hK _ ?_; clear hK K; refine Nav.imp ?_
        refine awp_region cx [] fun K hK => ?_
        simp [push_cast]
        repeat (refine And.intro (by clear hK; intros; first | omega | (simp_all; done) | (simp_all <;> omega)) ?_)
        refine hK _ ?_; clear hK K; refine Nav.imp ?_
        refine awp_region cx [(1, .p (.bool x0))] fun K hK => ?_
        simp [push_cast, hv0]
        repeat (refine And.intro (by clear hK; intros; first | omega | (simp_all; done) | (simp_all <;> omega)) ?_)
        refine hK _ ?_; clear hK K; refine Nav.imp ?_
        refine awp_cond (b := x0 && decide (-1073741824 ≤ b.t0) && decide (b.t0 ≤ 1073741824)) (by simp [push_cast]) (fun hb => ?_) (fun hb => ?_) <;> (refine Nav.imp ?_)
        · rw [if_pos hb] at he0
          subst he0
          refine awp_region_draw cx mixed [(6, .p (.int .i64 y0))] fun K hK => ?_
          simp [push_cast, hs0]
          repeat (refine And.intro (by clear hK; intros; first | omega | (simp_all; done) | (simp_all <;> omega)) ?_)
          refine hK _ _ (by kernel_rfl) ?_; clear hK K; refine Nav.imp ?_
          refine awp_region cx [] fun K hK => ?_
          simp [push_cast]
          repeat (refine And.intro (by clear hK; intros; first | omega | (simp_all; done) | (simp_all <;> omega)) ?_)
          refine hK _ ?_; clear hK K; refine Nav.imp ?_
          refine ⟨1, by omega, by omega, ?_⟩
          refine weak_of [(0, some 0), (1, some 1), (2, some 2)] rfl (by simp [upT, up, upL, push_cast]) (by simp [upH, upR, upL, up, push_cast]) (by simp [namesOk, push_cast]) (by simp [olds])
        · rw [if_neg (by rw [hb]; simp)] at he0
          subst he0
          refine awp_region cx [] fun K hK => ?_
          simp [push_cast]
          repeat (refine And.intro (by clear hK; intros; first | omega | (simp_all; done) | (simp_all <;> omega)) ?_)
          refine hK _ ?_; clear hK K; refine Nav.imp ?_
          refine ⟨1, by omega, by omega, ?_⟩
          refine weak_of [(0, some 0), (1, some 1), (2, some 2)] rfl (by simp [upT, up, upL, push_cast]) (by simp [upH, upR, upL, up, push_cast]) (by simp [namesOk, push_cast]) (by simp [olds])
      · simp at hb
    · simp (config := { decide := true }) only [if_true, if_false]
      refine Nav.imp ?_
      refine awp_region cx [] fun K hK => ?_
      simp [push_cast]
      repeat (refine And.intro (by clear hK; intros; first | omega | (simp_all; done) | (simp_all <;> omega)) ?_)
      refine hK _ ?_; clear hK K; refine Nav.imp ?_
      refine awp_cond (b := true) (by simp [push_cast]) (fun hb => ?_) (fun hb => ?_) <;> (refine Nav.imp ?_)
      · refine awp_region cx [] fun K hK => ?_
        simp [push_cast]
        repeat (refine And.intro (by clear hK; intros; first | omega | (simp_all; done) | (simp_all <;> omega)) ?_)
        refine hK _ ?_; clear hK K; refine Nav.imp ?_
        refine awp_region cx [] fun K hK => ?_
        simp [push_cast]
        repeat (refine And.intro (by clear hK; intros; first | omega | (simp_all; done) | (simp_all <;> omega)) ?_)
        refine hK _ ?_; clear hK K; refine Nav.imp ?_
        refine awp_region cx [(1, .p (.bool x1))] fun K hK => ?_
        simp [push_cast, hv1]
        repeat (refine And.intro (by clear hK; intros; first | omega | (simp_all; done) | (simp_all <;> omega)) ?_)
        refine hK _ ?_; clear hK K; refine Nav.imp ?_
        refine awp_cond (b := x1 && decide (-1073741824 ≤ b.t1) && decide (b.t1 ≤ 1073741824)) (by simp [push_cast]) (fun hb => ?_) (fun hb => ?_) <;> (refine Nav.imp ?_)
        · rw [if_pos hb] at he1
          subst he1
          refine awp_region_draw cx mixed [(6, .p (.int .i64 y1))] fun K hK => ?_
          simp [push_cast, hs1]
          repeat (refine And.intro (by clear hK; intros; first | omega | (simp_all; done) | (simp_all <;> omega)) ?_)
          refine hK _ _ (by kernel_rfl) ?_; clear hK K; refine Nav.imp ?_
          refine awp_region cx [] fun K hK => ?_
          simp [push_cast]
          repeat (refine And.intro (by clear hK; intros; first | omega | (simp_all; done) | (simp_all <;> omega)) ?_)
          refine hK _ ?_; clear hK K; refine Nav.imp ?_
          refine ⟨2, by omega, by omega, ?_⟩
          refine weak_of [(0, some 0), (1, some 1), (2, some 2)] rfl (by simp [upT, up, upL, push_cast]) (by simp [upH, upR, upL, up, push_cast]) (by simp [namesOk, push_cast]) (by simp [olds])
        · rw [if_neg (by rw [hb]; simp)] at he1
          subst he1
          refine awp_region cx [] fun K hK => ?_
          simp [push_cast]
          repeat (refine And.intro (by clear hK; intros; first | omega | (simp_all; done) | (simp_all <;> omega)) ?_)
          refine hK _ ?_; clear hK K; refine Nav.imp ?_
          refine ⟨2, by omega, by omega, ?_⟩
          refine weak_of [(0, some 0), (1, some 1), (2, some 2)] rfl (by simp [upT, up, upL, push_cast]) (by simp [upH, upR, upL, up, push_cast]) (by simp [namesOk, push_cast]) (by simp [olds])
      · simp at hb
    · simp (config := { decide := true }) only [if_true, if_false]
      refine Nav.imp ?_
      refine awp_region cx [] fun K hK => ?_
      simp [push_cast]
      repeat (refine And.intro (by clear hK; intros; first | omega | (simp_all; done) | (simp_all <;> omega)) ?_)
      refine hK _ ?_; clear hK K; refine Nav.imp ?_
      refine awp_cond (b := false) (by simp [push_cast]) (fun hb => ?_) (fun hb => ?_) <;> (refine Nav.imp ?_)
      · simp at hb
      · refine awp_region cx [] fun K hK => ?_
        simp [push_cast]
        repeat (refine And.intro (by clear hK; intros; first | omega | (simp_all; done) | (simp_all <;> omega)) ?_)
        refine hK _ ?_; clear hK K; refine Nav.imp ?_
        simp [push_cast]
end Go.Proofs.Ytlfbjflfbjkbeaa

namespace Go.Proofs.Ytlfbjflfbjkbeaa
open Go.Abs

theorem count55_ok (n : Int) : PC Try.prog 37 [.int .i64 n] (.p (.bool (cntB n))) := by
  refine pc_of_awp cx (fn := Try.f37) (c := _) Try.func37 rfl rfl (Nat.le_of_ble_eq_true rfl) ?_
  rw [Try.ntmps37]; refine Nav.imp ?_
  refine awp_region cx [] fun K hK => ?_
  simp [push_cast]
  repeat (refine And.intro (by clear hK; intros; first | omega | (simp_all; done) | (simp_all <;> omega)) ?_)
  refine hK _ ?_; clear hK K; refine Nav.imp ?_
  refine awp_region cx [] fun K hK => ?_
  simp [push_cast]
  repeat (refine And.intro (by clear hK; intros; first | omega | (simp_all; done) | (simp_all <;> omega)) ?_)
  refine hK _ ?_; clear hK K; refine Nav.imp ?_
  simp [push_cast, cntB]
set_option maxHeartbeats 4000000 in
theorem valid55_ok (b : Bench) (hL : smallL b.lays) : PC Try.prog 15 [.agg b.row] (.p (.bool (validE b))) := by
  obtain ⟨f1, f2, f3⟩ := sound_facts b
  have hv : validE b = (b.lays.all validR && soundB b) := rfl
  obtain ⟨hl, hR⟩ := hL
  generalize soundB b = sb at *
  generalize validE b = vb at *
  have w3 : IntKind.i64.wrap 3 = 3 := by decide
  have w4 : IntKind.i64.wrap 4 = 4 := by decide
  refine pc_of_awp cx (fn := Try.f15) (c := _) Try.func15 rfl rfl (Nat.le_of_ble_eq_true rfl) ?_
  rw [Try.ntmps15]; refine Nav.imp ?_
  refine awp_region cx [] fun K hK => ?_
  simp [push_cast]
  repeat (refine And.intro (by clear hK; intros; first | omega | (simp_all; done) | (simp_all <;> omega)) ?_)
  refine hK _ ?_; clear hK K; refine Nav.imp ?_
  refine awp_region cx [] fun K hK => ?_
  simp [push_cast]
  repeat (refine And.intro (by clear hK; intros; first | omega | (simp_all; done) | (simp_all <;> omega)) ?_)
  refine hK _ ?_; clear hK K; refine Nav.imp ?_
  refine awp_loop (β := Nat) (fun i => ⟨63, [(1, .ptr 0 0 0), (3, .d (.int .i64 i))], [(0, some ⟨43, 22, [b.row.map .d]⟩)], 1⟩) (fun i => i ≤ 4 ∧ ∀ j < i, withB (b.real.at j) 1099511627776 = true) (fun i => 4 - i) 0 ?_ ⟨Nat.zero_le _, by simp⟩ ?_
  · refine weak_of [(0, some 0)] rfl (by simp [upT, up, upL, push_cast]) (by simp [upH, upR, upL, up, push_cast]) (by simp [namesOk, push_cast]) (by simp [olds])
  · rintro i ⟨hi, hall⟩
    rcases (show i = 0 ∨ i = 1 ∨ i = 2 ∨ i = 3 ∨ i = 4 by omega) with rfl | rfl | rfl | rfl | rfl
    · have hw2 : withB b.real.p 1099511627776 = !(decide (b.real.p < -1099511627776) || decide (1099511627776 < b.real.p)) := by rw [Bool.eq_iff_iff]; simp [withB]
      refine Nav.imp ?_
      refine awp_region cx [] fun K hK => ?_
      simp [push_cast]
      repeat (refine And.intro (by clear hK; intros; first | omega | (simp_all; done) | (simp_all <;> omega)) ?_)
      refine hK _ ?_; clear hK K; refine Nav.imp ?_
      refine awp_cond (b := true) (by simp [push_cast]) (fun hb => ?_) (fun hb => ?_) <;> (refine Nav.imp ?_)
      · refine awp_region cx [] fun K hK => ?_
        simp [push_cast]
        repeat (refine And.intro (by clear hK; intros; first | omega | (simp_all; done) | (simp_all <;> omega)) ?_)
        refine hK _ ?_; clear hK K; refine Nav.imp ?_
        refine awp_cond (b := decide (b.real.p < -1099511627776) || decide (1099511627776 < b.real.p)) (by simp [push_cast]) (fun hb => ?_) (fun hb => ?_) <;> (refine Nav.imp ?_)
        · rw [hb] at hw2
          have hf : vb = false := by
            have : sb = false := by
              cases sb
              · rfl
              · have := f1 rfl 0 (by omega)
                simp only [Pos.at] at this
                rw [this] at hw2; cases hw2
            rw [hv, this, Bool.and_false]
          rw [hf]
          refine awp_region cx [] fun K hK => ?_
          simp [push_cast]
          repeat (refine And.intro (by clear hK; intros; first | omega | (simp_all; done) | (simp_all <;> omega)) ?_)
          refine hK _ ?_; clear hK K; refine Nav.imp ?_
          simp [push_cast]
        · rw [hb] at hw2
          refine awp_region cx [] fun K hK => ?_
          simp [push_cast, w3, w4]
          repeat (refine And.intro (by clear hK; intros; first | omega | (simp_all; done) | (simp_all <;> omega)) ?_)
          refine hK _ ?_; clear hK K; refine Nav.imp ?_
          refine ⟨1, ⟨by omega, fun j hj => ?_⟩, by omega, ?_⟩
          · by_cases e : j < 0
            · exact hall j e
            · have : j = 0 := by omega
              subst this
              simpa [Pos.at] using hw2
          · refine weak_of [(0, some 0)] rfl (by simp [upT, up, upL, push_cast]) (by simp [upH, upR, upL, up, push_cast]) (by simp [namesOk, push_cast]) (by simp [olds])
      · simp at hb
    · have hw2 : withB b.real.q 1099511627776 = !(decide (b.real.q < -1099511627776) || decide (1099511627776 < b.real.q)) := by rw [Bool.eq_iff_iff]; simp [withB]
      refine Nav.imp ?_
      refine awp_region cx [] fun K hK => ?_
      simp [push_cast]
      repeat (refine And.intro (by clear hK; intros; first | omega | (simp_all; done) | (simp_all <;> omega)) ?_)
      refine hK _ ?_; clear hK K; refine Nav.imp ?_
      refine awp_cond (b := true) (by simp [push_cast]) (fun hb => ?_) (fun hb => ?_) <;> (refine Nav.imp ?_)
      · refine awp_region cx [] fun K hK => ?_
        simp [push_cast]
        repeat (refine And.intro (by clear hK; intros; first | omega | (simp_all; done) | (simp_all <;> omega)) ?_)
        refine hK _ ?_; clear hK K; refine Nav.imp ?_
        refine awp_cond (b := decide (b.real.q < -1099511627776) || decide (1099511627776 < b.real.q)) (by simp [push_cast]) (fun hb => ?_) (fun hb => ?_) <;> (refine Nav.imp ?_)
        · rw [hb] at hw2
          have hf : vb = false := by
            have : sb = false := by
              cases sb
              · rfl
              · have := f1 rfl 1 (by omega)
                simp only [Pos.at] at this
                rw [this] at hw2; cases hw2
            rw [hv, this, Bool.and_false]
          rw [hf]
          refine awp_region cx [] fun K hK => ?_
          simp [push_cast]
          repeat (refine And.intro (by clear hK; intros; first | omega | (simp_all; done) | (simp_all <;> omega)) ?_)
          refine hK _ ?_; clear hK K; refine Nav.imp ?_
          simp [push_cast]
        · rw [hb] at hw2
          refine awp_region cx [] fun K hK => ?_
          simp [push_cast, w3, w4]
          repeat (refine And.intro (by clear hK; intros; first | omega | (simp_all; done) | (simp_all <;> omega)) ?_)
          refine hK _ ?_; clear hK K; refine Nav.imp ?_
          refine ⟨2, ⟨by omega, fun j hj => ?_⟩, by omega, ?_⟩
          · by_cases e : j < 1
            · exact hall j e
            · have : j = 1 := by omega
              subst this
              simpa [Pos.at] using hw2
          · refine weak_of [(0, some 0)] rfl (by simp [upT, up, upL, push_cast]) (by simp [upH, upR, upL, up, push_cast]) (by simp [namesOk, push_cast]) (by simp [olds])
      · simp at hb
    · have hw2 : withB b.real.r 1099511627776 = !(decide (b.real.r < -1099511627776) || decide (1099511627776 < b.real.r)) := by rw [Bool.eq_iff_iff]; simp [withB]
      refine Nav.imp ?_
      refine awp_region cx [] fun K hK => ?_
      simp [push_cast]
      repeat (refine And.intro (by clear hK; intros; first | omega | (simp_all; done) | (simp_all <;> omega)) ?_)
      refine hK _ ?_; clear hK K; refine Nav.imp ?_
      refine awp_cond (b := true) (by simp [push_cast]) (fun hb => ?_) (fun hb => ?_) <;> (refine Nav.imp ?_)
      · refine awp_region cx [] fun K hK => ?_
        simp [push_cast]
        repeat (refine And.intro (by clear hK; intros; first | omega | (simp_all; done) | (simp_all <;> omega)) ?_)
        refine hK _ ?_; clear hK K; refine Nav.imp ?_
        refine awp_cond (b := decide (b.real.r < -1099511627776) || decide (1099511627776 < b.real.r)) (by simp [push_cast]) (fun hb => ?_) (fun hb => ?_) <;> (refine Nav.imp ?_)
        · rw [hb] at hw2
          have hf : vb = false := by
            have : sb = false := by
              cases sb
              · rfl
              · have := f1 rfl 2 (by omega)
                simp only [Pos.at] at this
                rw [this] at hw2; cases hw2
            rw [hv, this, Bool.and_false]
          rw [hf]
          refine awp_region cx [] fun K hK => ?_
          simp [push_cast]
          repeat (refine And.intro (by clear hK; intros; first | omega | (simp_all; done) | (simp_all <;> omega)) ?_)
          refine hK _ ?_; clear hK K; refine Nav.imp ?_
          simp [push_cast]
        · rw [hb] at hw2
          refine awp_region cx [] fun K hK => ?_
          simp [push_cast, w3, w4]
          repeat (refine And.intro (by clear hK; intros; first | omega | (simp_all; done) | (simp_all <;> omega)) ?_)
          refine hK _ ?_; clear hK K; refine Nav.imp ?_
          refine ⟨3, ⟨by omega, fun j hj => ?_⟩, by omega, ?_⟩
          · by_cases e : j < 2
            · exact hall j e
            · have : j = 2 := by omega
              subst this
              simpa [Pos.at] using hw2
          · refine weak_of [(0, some 0)] rfl (by simp [upT, up, upL, push_cast]) (by simp [upH, upR, upL, up, push_cast]) (by simp [namesOk, push_cast]) (by simp [olds])
      · simp at hb
    · have hw2 : withB b.real.s 1099511627776 = !(decide (b.real.s < -1099511627776) || decide (1099511627776 < b.real.s)) := by rw [Bool.eq_iff_iff]; simp [withB]
      refine Nav.imp ?_
      refine awp_region cx [] fun K hK => ?_
      simp [push_cast]
      repeat (refine And.intro (by clear hK; intros; first | omega | (simp_all; done) | (simp_all <;> omega)) ?_)
      refine hK _ ?_; clear hK K; refine Nav.imp ?_
      refine awp_cond (b := true) (by simp [push_cast]) (fun hb => ?_) (fun hb => ?_) <;> (refine Nav.imp ?_)
      · refine awp_region cx [] fun K hK => ?_
        simp [push_cast]
        repeat (refine And.intro (by clear hK; intros; first | omega | (simp_all; done) | (simp_all <;> omega)) ?_)
        refine hK _ ?_; clear hK K; refine Nav.imp ?_
        refine awp_cond (b := decide (b.real.s < -1099511627776) || decide (1099511627776 < b.real.s)) (by simp [push_cast]) (fun hb => ?_) (fun hb => ?_) <;> (refine Nav.imp ?_)
        · rw [hb] at hw2
          have hf : vb = false := by
            have : sb = false := by
              cases sb
              · rfl
              · have := f1 rfl 3 (by omega)
                simp only [Pos.at] at this
                rw [this] at hw2; cases hw2
            rw [hv, this, Bool.and_false]
          rw [hf]
          refine awp_region cx [] fun K hK => ?_
          simp [push_cast]
          repeat (refine And.intro (by clear hK; intros; first | omega | (simp_all; done) | (simp_all <;> omega)) ?_)
          refine hK _ ?_; clear hK K; refine Nav.imp ?_
          simp [push_cast]
        · rw [hb] at hw2
          refine awp_region cx [] fun K hK => ?_
          simp [push_cast, w3, w4]
          repeat (refine And.intro (by clear hK; intros; first | omega | (simp_all; done) | (simp_all <;> omega)) ?_)
          refine hK _ ?_; clear hK K; refine Nav.imp ?_
          refine ⟨4, ⟨by omega, fun j hj => ?_⟩, by omega, ?_⟩
          · by_cases e : j < 3
            · exact hall j e
            · have : j = 3 := by omega
              subst this
              simpa [Pos.at] using hw2
          · refine weak_of [(0, some 0)] rfl (by simp [upT, up, upL, push_cast]) (by simp [upH, upR, upL, up, push_cast]) (by simp [namesOk, push_cast]) (by simp [olds])
      · simp at hb
    · refine Nav.imp ?_
      refine awp_region cx [] fun K hK => ?_
      simp [push_cast]
      repeat (refine And.intro (by clear hK; intros; first | omega | (simp_all; done) | (simp_all <;> omega)) ?_)
      refine hK _ ?_; clear hK K; refine Nav.imp ?_
      refine awp_cond (b := false) (by simp [push_cast]) (fun hb => ?_) (fun hb => ?_) <;> (refine Nav.imp ?_)
      · simp at hb
      · have k0 := count55_ok b.filament
        have k1 := count55_ok b.drawn
        have k2 := count55_ok b.dry
        have k3 := count55_ok b.hits
        have f2' : sb = true → cntB b.filament = true ∧ cntB b.drawn = true ∧ cntB b.dry = true ∧ cntB b.hits = true := fun h => ⟨f2 h 0 (by omega), f2 h 1 (by omega), f2 h 2 (by omega), f2 h 3 (by omega)⟩
        have f3' : cntB b.filament = true → cntB b.drawn = true → cntB b.dry = true → cntB b.hits = true → sb = decide (b.lays.length ≤ 256) := fun h0 h1 h2 h3 => f3 hall fun j hj => by
          rcases (show j = 0 ∨ j = 1 ∨ j = 2 ∨ j = 3 by omega) with rfl | rfl | rfl | rfl
          · exact h0
          · exact h1
          · exact h2
          · exact h3
        clear f1 f2 f3
        generalize cntB b.filament = a0 at *
        generalize cntB b.drawn = a1 at *
        generalize cntB b.dry = a2 at *
        generalize cntB b.hits = a3 at *
        have bad : (a0 = false ∨ a1 = false ∨ a2 = false ∨ a3 = false) → vb = false := fun h => by
          have : sb = false := by
            cases sb
            · rfl
            · have := f2' rfl
              rcases h with h | h | h | h <;> rw [h] at this <;> simp at this
          rw [hv, this, Bool.and_false]
        cases a0 with
        | false =>
          rw [bad (.inl rfl)]
          refine awp_region cx [(2, .p (.bool false)), (7, .skip), (13, .skip), (19, .skip)] fun K hK => ?_
          simp [push_cast, k0]
          repeat (refine And.intro (by clear hK; intros; first | omega | (simp_all; done) | (simp_all <;> omega)) ?_)
          refine hK _ ?_; clear hK K; refine Nav.imp ?_
          refine awp_cond (b := true) (by simp [push_cast]) (fun hb => ?_) (fun hb => ?_) <;> (refine Nav.imp ?_)
          · refine awp_region cx [] fun K hK => ?_
            simp [push_cast]
            repeat (refine And.intro (by clear hK; intros; first | omega | (simp_all; done) | (simp_all <;> omega)) ?_)
            refine hK _ ?_; clear hK K; refine Nav.imp ?_
            simp [push_cast]
          · simp at hb
        | true =>
        cases a1 with
        | false =>
          rw [bad (.inr (.inl rfl))]
          refine awp_region cx [(2, .p (.bool true)), (7, .p (.bool false)), (13, .skip), (19, .skip)] fun K hK => ?_
          simp [push_cast, k0, k1]
          repeat (refine And.intro (by clear hK; intros; first | omega | (simp_all; done) | (simp_all <;> omega)) ?_)
          refine hK _ ?_; clear hK K; refine Nav.imp ?_
          refine awp_cond (b := true) (by simp [push_cast]) (fun hb => ?_) (fun hb => ?_) <;> (refine Nav.imp ?_)
          · refine awp_region cx [] fun K hK => ?_
            simp [push_cast]
            repeat (refine And.intro (by clear hK; intros; first | omega | (simp_all; done) | (simp_all <;> omega)) ?_)
            refine hK _ ?_; clear hK K; refine Nav.imp ?_
            simp [push_cast]
          · simp at hb
        | true =>
        cases a2 with
        | false =>
          rw [bad (.inr (.inr (.inl rfl)))]
          refine awp_region cx [(2, .p (.bool true)), (7, .p (.bool true)), (13, .p (.bool false)), (19, .skip)] fun K hK => ?_
          simp [push_cast, k0, k1, k2]
          repeat (refine And.intro (by clear hK; intros; first | omega | (simp_all; done) | (simp_all <;> omega)) ?_)
          refine hK _ ?_; clear hK K; refine Nav.imp ?_
          refine awp_cond (b := true) (by simp [push_cast]) (fun hb => ?_) (fun hb => ?_) <;> (refine Nav.imp ?_)
          · refine awp_region cx [] fun K hK => ?_
            simp [push_cast]
            repeat (refine And.intro (by clear hK; intros; first | omega | (simp_all; done) | (simp_all <;> omega)) ?_)
            refine hK _ ?_; clear hK K; refine Nav.imp ?_
            simp [push_cast]
          · simp at hb
        | true =>
        cases a3 with
        | false =>
          rw [bad (.inr (.inr (.inr rfl)))]
          refine awp_region cx [(2, .p (.bool true)), (7, .p (.bool true)), (13, .p (.bool true)), (19, .p (.bool false))] fun K hK => ?_
          simp [push_cast, k0, k1, k2, k3]
          repeat (refine And.intro (by clear hK; intros; first | omega | (simp_all; done) | (simp_all <;> omega)) ?_)
          refine hK _ ?_; clear hK K; refine Nav.imp ?_
          refine awp_cond (b := true) (by simp [push_cast]) (fun hb => ?_) (fun hb => ?_) <;> (refine Nav.imp ?_)
          · refine awp_region cx [] fun K hK => ?_
            simp [push_cast]
            repeat (refine And.intro (by clear hK; intros; first | omega | (simp_all; done) | (simp_all <;> omega)) ?_)
            refine hK _ ?_; clear hK K; refine Nav.imp ?_
            simp [push_cast]
          · simp at hb
        | true =>
        have hsb := f3' rfl rfl rfl rfl
        subst hsb
        refine awp_region cx [(2, .p (.bool true)), (7, .p (.bool true)), (13, .p (.bool true)), (19, .p (.bool true))] fun K hK => ?_
        simp [push_cast, k0, k1, k2, k3]
        repeat (refine And.intro (by clear hK; intros; first | omega | (simp_all; done) | (simp_all <;> omega)) ?_)
        refine hK _ ?_; clear hK K; refine Nav.imp ?_
        refine awp_cond (by simp [push_cast] <;> exact rfl) (fun hb => ?_) (fun hb => ?_) <;> (refine Nav.imp ?_)
        · have hf : vb = false := by
            rw [hv]
            have : decide (b.lays.length ≤ 256) = false := by simp at hb ⊢; omega
            rw [this, Bool.and_false]
          rw [hf]
          refine awp_region cx [] fun K hK => ?_
          simp [push_cast]
          repeat (refine And.intro (by clear hK; intros; first | omega | (simp_all; done) | (simp_all <;> omega)) ?_)
          refine hK _ ?_; clear hK K; refine Nav.imp ?_
          simp [push_cast]
        · have hle : decide (b.lays.length ≤ 256) = true := by simp at hb ⊢; omega
          rw [hle, Bool.and_true] at hv
          refine awp_region cx [] fun K hK => ?_
          simp [push_cast]
          repeat (refine And.intro (by clear hK; intros; first | omega | (simp_all; done) | (simp_all <;> omega)) ?_)
          refine hK _ ?_; clear hK K; refine Nav.imp ?_
          refine awp_loop (β := Nat) (fun i => ⟨63, [(1, .ptr 0 0 0), (4, .d (.int .i64 i))], [(0, some ⟨43, 22, [b.row.map .d]⟩)], 1⟩) (fun i => i ≤ b.lays.length ∧ ∀ (j : Nat) R, j < i → b.lays[j]? = some R → validR R = true) (fun i => b.lays.length - i) 0 ?_ ⟨Nat.zero_le _, by simp⟩ ?_
          · refine weak_of [(0, some 0)] rfl (by simp [upT, up, upL, push_cast]) (by simp [upH, upR, upL, up, push_cast]) (by simp [namesOk, push_cast]) (by simp [olds])
          · rintro i ⟨hi, hall2⟩
            refine Nav.imp ?_
            refine awp_region cx [] fun K hK => ?_
            simp [push_cast]
            repeat (refine And.intro (by clear hK; intros; first | omega | (simp_all; done) | (simp_all <;> omega)) ?_)
            refine hK _ ?_; clear hK K; refine Nav.imp ?_
            refine awp_cond (b := decide (i < b.lays.length)) (by simp [push_cast]) (fun hb => ?_) (fun hb => ?_) <;> (refine Nav.imp ?_)
            · have hlt : i < b.lays.length := by simpa using hb
              obtain ⟨R, hRi⟩ := getq hlt
              have e0 := wrap_i64 (n := (i : Int) + 1) (by omega) (by omega)
              have c2 := validR_ok R (hR R (List.mem_of_getElem? hRi))
              cases hvR : validR R with
              | false =>
                rw [hvR] at c2
                have hf : vb = false := by
                  rw [hv, List.all_eq_false]
                  exact ⟨R, List.mem_of_getElem? hRi, by simp [hvR]⟩
                rw [hf]
                refine awp_region cx [(5, .p (.bool false))] fun K hK => ?_
                simp [push_cast, c2, hRi]
                repeat (refine And.intro (by clear hK; intros; first | omega | (simp_all; done) | (simp_all <;> omega)) ?_)
                refine hK _ ?_; clear hK K; refine Nav.imp ?_
                refine awp_cond (b := true) (by simp [push_cast]) (fun hb => ?_) (fun hb => ?_) <;> (refine Nav.imp ?_)
                · refine awp_region cx [] fun K hK => ?_
                  simp [push_cast]
                  repeat (refine And.intro (by clear hK; intros; first | omega | (simp_all; done) | (simp_all <;> omega)) ?_)
                  refine hK _ ?_; clear hK K; refine Nav.imp ?_
                  simp [push_cast]
                · simp at hb
              | true =>
                rw [hvR] at c2
                refine awp_region cx [(5, .p (.bool true))] fun K hK => ?_
                simp [push_cast, c2, hRi]
                repeat (refine And.intro (by clear hK; intros; first | omega | (simp_all; done) | (simp_all <;> omega)) ?_)
                refine hK _ ?_; clear hK K; refine Nav.imp ?_
                refine awp_cond (b := false) (by simp [push_cast]) (fun hb => ?_) (fun hb => ?_) <;> (refine Nav.imp ?_)
                · simp at hb
                · refine awp_region cx [] fun K hK => ?_
                  simp [push_cast, e0]
                  repeat (refine And.intro (by clear hK; intros; first | omega | (simp_all; done) | (simp_all <;> omega)) ?_)
                  refine hK _ ?_; clear hK K; refine Nav.imp ?_
                  refine ⟨i + 1, ⟨hlt, fun j S hj hS => ?_⟩, by omega, ?_⟩
                  · by_cases e : j < i
                    · exact hall2 j S e hS
                    · have : j = i := by omega
                      subst this
                      rw [hRi] at hS; cases hS; exact hvR
                  · refine weak_of [(0, some 0)] rfl (by simp [upT, up, upL, push_cast]) (by simp [upH, upR, upL, up, push_cast]) (by simp [namesOk, push_cast]) (by simp [olds])
            · have hie : i = b.lays.length := by simp at hb; omega
              have : b.lays.all validR = true := by
                rw [List.all_eq_true]
                intro R hR'
                obtain ⟨j, hj⟩ := List.mem_iff_getElem?.1 hR'
                exact hall2 j R (by have := (List.getElem?_eq_some_iff.1 hj).1; omega) hj
              rw [hv, this]
              refine awp_region cx [] fun K hK => ?_
              simp [push_cast]
              repeat (refine And.intro (by clear hK; intros; first | omega | (simp_all; done) | (simp_all <;> omega)) ?_)
              refine hK _ ?_; clear hK K; refine Nav.imp ?_
              simp [push_cast]
end Go.Proofs.Ytlfbjflfbjkbeaa

namespace Go.Proofs.Ytlfbjflfbjkbeaa
open Go.Abs

def rectR (x0 x1 y0 : Int) (n : Nat) : List Row := (List.range n).map fun i : Nat => ⟨y0 + i, [⟨x0, x1⟩]⟩
theorem rect_mem {x0 x1 y0 : Int} {n : Nat} {c : Cell} : c ∈ regCells (rectR x0 x1 y0 n) ↔ (x0 ≤ c.x ∧ c.x < x1) ∧ y0 ≤ c.y ∧ c.y < y0 + n := by
  rw [mem_regCells]
  simp only [rectR, List.mem_map, List.mem_range]
  constructor
  · rintro ⟨w, ⟨i, hi, rfl⟩, hy, r, hr, h1, h2⟩
    simp at hr hy
    subst hr
    exact ⟨⟨h1, h2⟩, by omega, by omega⟩
  · rintro ⟨⟨h1, h2⟩, h3, h4⟩
    exact ⟨⟨y0 + ((c.y - y0).toNat : Nat), [⟨x0, x1⟩]⟩, ⟨(c.y - y0).toNat, by omega, rfl⟩, by simp only; omega, ⟨x0, x1⟩, by simp, h1, h2⟩
theorem rect_valid {x0 x1 y0 : Int} {n : Nat} (h1 : -4096 ≤ x0) (h2 : x0 < x1) (h3 : x1 ≤ 4096) (h4 : -4096 ≤ y0) (h5 : y0 + n ≤ 4096) : validR (rectR x0 x1 y0 n) = true := by
  refine validR_pw.2 ⟨fun w hw => ?_, ?_⟩
  · simp only [rectR, List.mem_map, List.mem_range] at hw
    obtain ⟨i, hi, rfl⟩ := hw
    refine ⟨by simp only; omega, fine_apart.2 ⟨by simp, ⟨by simpa using h2, by simp⟩, ?_⟩⟩
    intro r hr
    simp at hr
    subst hr
    exact ⟨h1, h3⟩
  · simp only [rectR, List.pairwise_map]
    exact List.pairwise_lt_range.imp fun {a b} h => by omega
theorem rect_len (x0 x1 y0 : Int) (n : Nat) : (regCells (rectR x0 x1 y0 n)).length ≤ (x1 - x0).toNat * n := by
  have h : ∀ w ∈ rectR x0 x1 y0 n, (regCells [w]).length ≤ (x1 - x0).toNat := fun w hw => by
    simp only [rectR, List.mem_map, List.mem_range] at hw
    obtain ⟨i, hi, rfl⟩ := hw
    simp [regCells, rowCells, runCells_len]
  have key : ∀ l : List Row, (∀ w ∈ l, (regCells [w]).length ≤ (x1 - x0).toNat) → (regCells l).length ≤ (x1 - x0).toNat * l.length := by
    intro l
    induction l with
    | nil => intro _; simp [regCells]
    | cons w l ih =>
      intro hl
      have h1 := ih fun v hv => hl v (by simp [hv])
      have h2 := hl w (by simp)
      have e : regCells (w :: l) = regCells [w] ++ regCells l := by simp [regCells]
      rw [e, List.length_append, List.length_cons, Nat.mul_add, Nat.mul_one]
      omega
  have := key _ h
  rwa [show (rectR x0 x1 y0 n).length = n by simp [rectR]] at this
theorem grid_len {R : List Row} (hv : validR R = true) : (regCells R).length ≤ 67108864 := by
  have h := cells_le hv (rect_valid (x0 := -4096) (x1 := 4096) (y0 := -4096) (n := 8192) (by omega) (by omega) (by omega) (by omega) (by omega)) fun c hc => by
    have := cells_on hv hc
    simp [onG] at this
    exact rect_mem.2 ⟨by omega, by omega⟩
  have h2 := rect_len (-4096) 4096 (-4096) 8192
  have : (4096 - (-4096 : Int)).toNat * 8192 = 67108864 := by decide
  omega
end Go.Proofs.Ytlfbjflfbjkbeaa
