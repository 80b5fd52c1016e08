/-
  The walks of this seat's functions and the plain laws behind them: part U2.
-/
import Derived.Test.YtmfkfgonedgjnaaU1
set_option linter.unusedVariables false
set_option linter.unusedSimpArgs false
namespace Go.Proofs.Ytmfkfgonedgjnaa
open Go.Abs

/-! The box of a region. -/
def fstA (w : Row) : Int := match w.runs[0]? with | some r => r.a | none => 0
def lstB (w : Row) : Int := match w.runs[w.runs.length - 1]? with | some r => r.b | none => 0
def lowX (R : List Row) : Int := R.foldl (fun m w => min m (fstA w)) 4096
def highX (R : List Row) : Int := R.foldl (fun m w => max m (lstB w - 1)) (-4096)
def fstY (R : List Row) : Int := match R[0]? with | some w => w.y | none => 0
def lstY (R : List Row) : Int := match R[R.length - 1]? with | some w => w.y | none => 0
def some? (R : List Row) : Bool := validR R && decide (0 < R.length)
def boxLo (R : List Row) : Cell := if some? R then ⟨lowX R, fstY R⟩ else ⟨0, 0⟩
def boxHi (R : List Row) : Cell := if some? R then ⟨highX R, lstY R⟩ else ⟨0, 0⟩
abbrev boxD (R : List Row) : D := .tup [.agg (boxLo R).row, .agg (boxHi R).row, .bool (some? R)]

theorem lowX_take {R : List Row} {k : Nat} {w : Row} (h : R[k]? = some w) : lowX (R.take (k + 1)) = min (lowX (R.take k)) (fstA w) := by simp [lowX, take_get h]
theorem highX_take {R : List Row} {k : Nat} {w : Row} (h : R[k]? = some w) : highX (R.take (k + 1)) = max (highX (R.take k)) (lstB w - 1) := by simp [highX, take_get h]
theorem fine_ends {l : List Run} (h : fine l = true) : ∃ f z, l[0]? = some f ∧ l[l.length - 1]? = some z ∧ (-4096 ≤ f.a ∧ f.a < f.b ∧ f.b ≤ 4096) ∧ (-4096 ≤ z.a ∧ z.a < z.b ∧ z.b ≤ 4096) ∧ 0 < l.length := by
  have hp : 0 < l.length := by
    cases l with
    | nil => simp [fine] at h
    | cons a l => simp
  obtain ⟨f, hf⟩ : ∃ f, l[0]? = some f := getq hp
  obtain ⟨z, hz⟩ : ∃ f, l[l.length - 1]? = some f := getq (by omega)
  have h1 := fine_at h hf
  have h2 := fine_at h hz
  exact ⟨f, z, hf, hz, by omega, by omega, hp⟩


theorem near_ok (d : Int) : PC Try.prog 66 [.int .i64 d] (.p (.bool (decide (-8192 ≤ d) && decide (d ≤ 8192)))) := by
  refine pc_of_awp cx (fn := Try.f66) (c := _) Try.func66 rfl rfl (Nat.le_of_ble_eq_true rfl) ?_
  rw [Try.ntmps66]; (repeat (first | refine awp_seq ?_ | refine awp_block ?_ | refine awp_scope ?_ | refine awp_skip ?_ | refine awp_exit ?_ | refine awp_ret ?_ | refine sq_n ?_ | refine sq_r ?_ | refine sq_x ?_ | refine bq_n ?_ | refine bq_r ?_ | refine bq_x ?_ | refine bq_y rfl ?_ | refine pq_n ?_ | refine pq_r ?_ | refine pq_x ?_))
  refine awp_region cx [] fun K hK => ?_
  simp [push_cast]
  repeat (refine And.intro (by clear hK; intros; first | omega | (simp_all; done) | (simp_all <;> omega)) ?_)
  refine hK _ ?_; clear hK K; (repeat (first | refine awp_seq ?_ | refine awp_block ?_ | refine awp_scope ?_ | refine awp_skip ?_ | refine awp_exit ?_ | refine awp_ret ?_ | refine sq_n ?_ | refine sq_r ?_ | refine sq_x ?_ | refine bq_n ?_ | refine bq_r ?_ | refine bq_x ?_ | refine bq_y rfl ?_ | refine pq_n ?_ | refine pq_r ?_ | refine pq_x ?_))
  refine awp_region cx [] fun K hK => ?_
  simp [push_cast]
  repeat (refine And.intro (by clear hK; intros; first | omega | (simp_all; done) | (simp_all <;> omega)) ?_)
  refine hK _ ?_; clear hK K; (repeat (first | refine awp_seq ?_ | refine awp_block ?_ | refine awp_scope ?_ | refine awp_skip ?_ | refine awp_exit ?_ | refine awp_ret ?_ | refine sq_n ?_ | refine sq_r ?_ | refine sq_x ?_ | refine bq_n ?_ | refine bq_r ?_ | refine bq_x ?_ | refine bq_y rfl ?_ | refine pq_n ?_ | refine pq_r ?_ | refine pq_x ?_))
  simp [push_cast]

set_option maxHeartbeats 1000000 in
theorem box_ok (R : List Row) (hR : smallR R) : PC Try.prog 26 [.agg (regRow R)] (.p (boxD R)) := by
  have c1 := valid_ok R hR
  have hl := hR.1
  have hB : boxD R = .tup [.agg (boxLo R).row, .agg (boxHi R).row, .bool (some? R)] := rfl
  rw [hB]
  by_cases hsm : some? R = true
  · have hlo : boxLo R = ⟨lowX R, fstY R⟩ := by simp [boxLo, hsm]
    have hhi : boxHi R = ⟨highX R, lstY R⟩ := by simp [boxHi, hsm]
    rw [hlo, hhi, hsm]
    clear hlo hhi hB
    simp only [some?, Bool.and_eq_true, decide_eq_true_eq] at hsm
    obtain ⟨hv, hpos⟩ := hsm
    rw [hv] at c1
    obtain ⟨w0, hw0⟩ : ∃ w, R[0]? = some w := getq hpos
    obtain ⟨w1, hw1⟩ : ∃ w, R[R.length - 1]? = some w := getq (by omega)
    have hy0 : fstY R = w0.y := by simp [fstY, hw0]
    have hy1 : lstY R = w1.y := by simp [lstY, hw1]
    rw [hy0, hy1]
    clear hy0 hy1
    have e1 := wrap_i64 (n := (R.length : Int) - 1) (by omega) (by omega)
    have e2 : ((R.length : Int) - 1).toNat = R.length - 1 := by omega
    have e3 : (0 : Int) ≤ (R.length : Int) - 1 := by omega
    have e4 : ((R.length : Int) == 0) = false := by simp; rintro rfl; simp at hpos
    obtain ⟨y0, r0⟩ := w0
    obtain ⟨y1, r1⟩ := w1
    refine pc_of_awp cx (fn := Try.f26) (c := _) Try.func26 rfl rfl (Nat.le_of_ble_eq_true rfl) ?_
    rw [Try.ntmps26]; (repeat (first | refine awp_seq ?_ | refine awp_block ?_ | refine awp_scope ?_ | refine awp_skip ?_ | refine awp_exit ?_ | refine awp_ret ?_ | refine sq_n ?_ | refine sq_r ?_ | refine sq_x ?_ | refine bq_n ?_ | refine bq_r ?_ | refine bq_x ?_ | refine bq_y rfl ?_ | refine pq_n ?_ | refine pq_r ?_ | refine pq_x ?_))
    refine awp_region cx [] fun K hK => ?_
    simp [push_cast]
    repeat (refine And.intro (by clear hK; intros; first | omega | (simp_all; done) | (simp_all <;> omega)) ?_)
    refine hK _ ?_; clear hK K; (repeat (first | refine awp_seq ?_ | refine awp_block ?_ | refine awp_scope ?_ | refine awp_skip ?_ | refine awp_exit ?_ | refine awp_ret ?_ | refine sq_n ?_ | refine sq_r ?_ | refine sq_x ?_ | refine bq_n ?_ | refine bq_r ?_ | refine bq_x ?_ | refine bq_y rfl ?_ | refine pq_n ?_ | refine pq_r ?_ | refine pq_x ?_))
    refine awp_region cx [(1, .p (.bool true))] fun K hK => ?_
    simp [push_cast, c1]
    repeat (refine And.intro (by clear hK; intros; first | omega | (simp_all; done) | (simp_all <;> omega)) ?_)
    refine hK _ ?_; clear hK K; (repeat (first | refine awp_seq ?_ | refine awp_block ?_ | refine awp_scope ?_ | refine awp_skip ?_ | refine awp_exit ?_ | refine awp_ret ?_ | refine sq_n ?_ | refine sq_r ?_ | refine sq_x ?_ | refine bq_n ?_ | refine bq_r ?_ | refine bq_x ?_ | refine bq_y rfl ?_ | refine pq_n ?_ | refine pq_r ?_ | refine pq_x ?_))
    refine awp_cond (b := false) (by simp [push_cast, e4]) (fun hb => ?_) (fun hb => ?_) <;> ((repeat (first | refine awp_seq ?_ | refine awp_block ?_ | refine awp_scope ?_ | refine awp_skip ?_ | refine awp_exit ?_ | refine awp_ret ?_ | refine sq_n ?_ | refine sq_r ?_ | refine sq_x ?_ | refine bq_n ?_ | refine bq_r ?_ | refine bq_x ?_ | refine bq_y rfl ?_ | refine pq_n ?_ | refine pq_r ?_ | refine pq_x ?_)))
    · simp at hb
    · refine awp_region cx [] fun K hK => ?_
      simp [push_cast, hw0, Row.row]
      repeat (refine And.intro (by clear hK; intros; first | omega | (simp_all; done) | (simp_all <;> omega)) ?_)
      refine hK _ ?_; clear hK K; (repeat (first | refine awp_seq ?_ | refine awp_block ?_ | refine awp_scope ?_ | refine awp_skip ?_ | refine awp_exit ?_ | refine awp_ret ?_ | refine sq_n ?_ | refine sq_r ?_ | refine sq_x ?_ | refine bq_n ?_ | refine bq_r ?_ | refine bq_x ?_ | refine bq_y rfl ?_ | refine pq_n ?_ | refine pq_r ?_ | refine pq_x ?_))
      refine awp_region cx [] fun K hK => ?_
      simp [push_cast, hw1, e1, e2, e3, Row.row]
      repeat (refine And.intro (by clear hK; intros; first | omega | (simp_all; done) | (simp_all <;> omega)) ?_)
      refine hK _ ?_; clear hK K; (repeat (first | refine awp_seq ?_ | refine awp_block ?_ | refine awp_scope ?_ | refine awp_skip ?_ | refine awp_exit ?_ | refine awp_ret ?_ | refine sq_n ?_ | refine sq_r ?_ | refine sq_x ?_ | refine bq_n ?_ | refine bq_r ?_ | refine bq_x ?_ | refine bq_y rfl ?_ | refine pq_n ?_ | refine pq_r ?_ | refine pq_x ?_))
      refine awp_region cx [] fun K hK => ?_
      simp [push_cast]
      repeat (refine And.intro (by clear hK; intros; first | omega | (simp_all; done) | (simp_all <;> omega)) ?_)
      refine hK _ ?_; clear hK K; (repeat (first | refine awp_seq ?_ | refine awp_block ?_ | refine awp_scope ?_ | refine awp_skip ?_ | refine awp_exit ?_ | refine awp_ret ?_ | refine sq_n ?_ | refine sq_r ?_ | refine sq_x ?_ | refine bq_n ?_ | refine bq_r ?_ | refine bq_x ?_ | refine bq_y rfl ?_ | refine pq_n ?_ | refine pq_r ?_ | refine pq_x ?_))
      refine awp_loop (β := Nat × Int × Int) (fun b => ⟨69, [(2, .ptr 0 0 0), (3, .ptr 1 0 0), (4, .d (.bool false)), (5, .ptr 2 0 0), (6, .ptr 3 0 0), (37, .d (encRows R)), (38, .d (.int .i64 R.length)), (39, .d (.int .i64 b.1))], [(0, some ⟨35, 2, [[.d (.int .i64 0), .d (.int .i64 0)]]⟩), (1, some ⟨35, 2, [[.d (.int .i64 0), .d (.int .i64 0)]]⟩), (2, some ⟨35, 2, [[.d (.int .i64 b.2.1), .d (.int .i64 y0)]]⟩), (3, some ⟨35, 2, [[.d (.int .i64 b.2.2), .d (.int .i64 y1)]]⟩)], 4⟩) (fun b => b.1 ≤ R.length ∧ b.2.1 = lowX (R.take b.1) ∧ b.2.2 = highX (R.take b.1)) (fun b => R.length - b.1) (0, 4096, -4096) ?_ ⟨Nat.zero_le _, by simp [lowX], by simp [highX]⟩ ?_
      · refine weak_of [(0, some 1), (1, some 2), (2, some 19), (3, some 31)] rfl (by simp [upT, up, upL, push_cast]) (by simp [upH, upR, upL, up, push_cast]) (by simp [namesOk, push_cast]) (by simp [olds])
      · rintro ⟨k, a, b⟩ ⟨hk, ha, hb'⟩
        simp only at hk ha hb'
        (repeat (first | refine awp_seq ?_ | refine awp_block ?_ | refine awp_scope ?_ | refine awp_skip ?_ | refine awp_exit ?_ | refine awp_ret ?_ | refine sq_n ?_ | refine sq_r ?_ | refine sq_x ?_ | refine bq_n ?_ | refine bq_r ?_ | refine bq_x ?_ | refine bq_y rfl ?_ | refine pq_n ?_ | refine pq_r ?_ | refine pq_x ?_))
        refine awp_region cx [] fun K hK => ?_
        simp [push_cast]
        repeat (refine And.intro (by clear hK; intros; first | omega | (simp_all; done) | (simp_all <;> omega)) ?_)
        refine hK _ ?_; clear hK K; (repeat (first | refine awp_seq ?_ | refine awp_block ?_ | refine awp_scope ?_ | refine awp_skip ?_ | refine awp_exit ?_ | refine awp_ret ?_ | refine sq_n ?_ | refine sq_r ?_ | refine sq_x ?_ | refine bq_n ?_ | refine bq_r ?_ | refine bq_x ?_ | refine bq_y rfl ?_ | refine pq_n ?_ | refine pq_r ?_ | refine pq_x ?_))
        refine awp_cond (b := decide ((k : Int) < R.length)) (by simp [push_cast]) (fun hb => ?_) (fun hb => ?_) <;> ((repeat (first | refine awp_seq ?_ | refine awp_block ?_ | refine awp_scope ?_ | refine awp_skip ?_ | refine awp_exit ?_ | refine awp_ret ?_ | refine sq_n ?_ | refine sq_r ?_ | refine sq_x ?_ | refine bq_n ?_ | refine bq_r ?_ | refine bq_x ?_ | refine bq_y rfl ?_ | refine pq_n ?_ | refine pq_r ?_ | refine pq_x ?_)))
        · have hlt : k < R.length := by simpa using hb
          obtain ⟨w, hw⟩ := getq hlt
          have f1 := lowX_take hw
          have f2 := highX_take hw
          rw [← ha] at f1
          rw [← hb'] at f2
          have e0 := wrap_i64 (n := (k : Int) + 1) (by omega) (by omega)
          obtain ⟨f, z, hf, hz, q1, q2, q3⟩ := fine_ends (validR_at hv hw).2
          have g1 : fstA w = f.a := by simp [fstA, hf]
          have g2 : lstB w = z.b := by simp [lstB, hz]
          have hwl := hR.2 w (List.mem_of_getElem? hw)
          rw [g1] at f1
          rw [g2] at f2
          obtain ⟨wy, wr⟩ := w
          obtain ⟨fa, fb⟩ := f
          obtain ⟨za, zb⟩ := z
          simp only at hf hz q1 q2 q3 f1 f2 hwl
          have d1 := wrap_i64 (n := (wr.length : Int) - 1) (by omega) (by omega)
          have d2 : ((wr.length : Int) - 1).toNat = wr.length - 1 := by omega
          have d3 : (0 : Int) ≤ (wr.length : Int) - 1 := by omega
          have d4 := wrap_i64 (n := zb - 1) (by omega) (by omega)
          refine awp_region cx [] fun K hK => ?_
          simp [push_cast, hw, Row.row]
          repeat (refine And.intro (by clear hK; intros; first | omega | (simp_all; done) | (simp_all <;> omega)) ?_)
          refine hK _ ?_; clear hK K; (repeat (first | refine awp_seq ?_ | refine awp_block ?_ | refine awp_scope ?_ | refine awp_skip ?_ | refine awp_exit ?_ | refine awp_ret ?_ | refine sq_n ?_ | refine sq_r ?_ | refine sq_x ?_ | refine bq_n ?_ | refine bq_r ?_ | refine bq_x ?_ | refine bq_y rfl ?_ | refine pq_n ?_ | refine pq_r ?_ | refine pq_x ?_))
          refine awp_region_draw cx mixed [] fun K hK => ?_
          simp [push_cast, hf, Row.row, Run.row]
          repeat (refine And.intro (by clear hK; intros; first | omega | (simp_all; done) | (simp_all <;> omega)) ?_)
          refine hK _ _ (by kernel_rfl) ?_; clear hK K; (repeat (first | refine awp_seq ?_ | refine awp_block ?_ | refine awp_scope ?_ | refine awp_skip ?_ | refine awp_exit ?_ | refine awp_ret ?_ | refine sq_n ?_ | refine sq_r ?_ | refine sq_x ?_ | refine bq_n ?_ | refine bq_r ?_ | refine bq_x ?_ | refine bq_y rfl ?_ | refine pq_n ?_ | refine pq_r ?_ | refine pq_x ?_))
          refine awp_region_draw cx mixed [] fun K hK => ?_
          simp [push_cast, hz, d1, d2, d3, d4, Row.row, Run.row]
          repeat (refine And.intro (by clear hK; intros; first | omega | (simp_all; done) | (simp_all <;> omega)) ?_)
          refine hK _ _ (by kernel_rfl) ?_; clear hK K; (repeat (first | refine awp_seq ?_ | refine awp_block ?_ | refine awp_scope ?_ | refine awp_skip ?_ | refine awp_exit ?_ | refine awp_ret ?_ | refine sq_n ?_ | refine sq_r ?_ | refine sq_x ?_ | refine bq_n ?_ | refine bq_r ?_ | refine bq_x ?_ | refine bq_y rfl ?_ | refine pq_n ?_ | refine pq_r ?_ | refine pq_x ?_))
          refine awp_region cx [] fun K hK => ?_
          simp [push_cast, e0]
          repeat (refine And.intro (by clear hK; intros; first | omega | (simp_all; done) | (simp_all <;> omega)) ?_)
          refine hK _ ?_; clear hK K; (repeat (first | refine awp_seq ?_ | refine awp_block ?_ | refine awp_scope ?_ | refine awp_skip ?_ | refine awp_exit ?_ | refine awp_ret ?_ | refine sq_n ?_ | refine sq_r ?_ | refine sq_x ?_ | refine bq_n ?_ | refine bq_r ?_ | refine bq_x ?_ | refine bq_y rfl ?_ | refine pq_n ?_ | refine pq_r ?_ | refine pq_x ?_))
          refine ⟨(k + 1, min a fa, max b (zb - 1)), ⟨hlt, f1.symm, f2.symm⟩, by simp only; omega, ?_⟩
          refine weak_of [(0, some 0), (1, some 1), (2, some 2), (3, some 3)] rfl (by simp [upT, up, upL, push_cast]) (by simp [upH, upR, upL, up, push_cast]) (by simp [namesOk, push_cast]) (by simp [olds])
        · have hge : k = R.length := by simp at hb; omega
          subst hge
          rw [List.take_length] at ha hb'
          subst ha hb'
          refine awp_region_draw cx mixed [] fun K hK => ?_
          simp [push_cast]
          repeat (refine And.intro (by clear hK; intros; first | omega | (simp_all; done) | (simp_all <;> omega)) ?_)
          refine hK _ _ (by kernel_rfl) ?_; clear hK K; (repeat (first | refine awp_seq ?_ | refine awp_block ?_ | refine awp_scope ?_ | refine awp_skip ?_ | refine awp_exit ?_ | refine awp_ret ?_ | refine sq_n ?_ | refine sq_r ?_ | refine sq_x ?_ | refine bq_n ?_ | refine bq_r ?_ | refine bq_x ?_ | refine bq_y rfl ?_ | refine pq_n ?_ | refine pq_r ?_ | refine pq_x ?_))
          simp [push_cast]
  · have hlo : boxLo R = ⟨0, 0⟩ := by simp [boxLo, hsm]
    have hhi : boxHi R = ⟨0, 0⟩ := by simp [boxHi, hsm]
    rw [hlo, hhi, Bool.eq_false_iff.2 hsm]
    generalize hv : validR R = v at *
    have hnil : v = true → R = [] := fun h => by
      rw [h] at hv
      cases R with
      | nil => rfl
      | cons a l => exact absurd (by simp [some?, hv]) hsm
    refine pc_of_awp cx (fn := Try.f26) (c := _) Try.func26 rfl rfl (Nat.le_of_ble_eq_true rfl) ?_
    rw [Try.ntmps26]; (repeat (first | refine awp_seq ?_ | refine awp_block ?_ | refine awp_scope ?_ | refine awp_skip ?_ | refine awp_exit ?_ | refine awp_ret ?_ | refine sq_n ?_ | refine sq_r ?_ | refine sq_x ?_ | refine bq_n ?_ | refine bq_r ?_ | refine bq_x ?_ | refine bq_y rfl ?_ | refine pq_n ?_ | refine pq_r ?_ | refine pq_x ?_))
    refine awp_region cx [] fun K hK => ?_
    simp [push_cast]
    repeat (refine And.intro (by clear hK; intros; first | omega | (simp_all; done) | (simp_all <;> omega)) ?_)
    refine hK _ ?_; clear hK K; (repeat (first | refine awp_seq ?_ | refine awp_block ?_ | refine awp_scope ?_ | refine awp_skip ?_ | refine awp_exit ?_ | refine awp_ret ?_ | refine sq_n ?_ | refine sq_r ?_ | refine sq_x ?_ | refine bq_n ?_ | refine bq_r ?_ | refine bq_x ?_ | refine bq_y rfl ?_ | refine pq_n ?_ | refine pq_r ?_ | refine pq_x ?_))
    cases v with
    | false =>
      refine awp_region cx [(1, .p (.bool false))] fun K hK => ?_
      simp [push_cast, c1]
      repeat (refine And.intro (by clear hK; intros; first | omega | (simp_all; done) | (simp_all <;> omega)) ?_)
      refine hK _ ?_; clear hK K; (repeat (first | refine awp_seq ?_ | refine awp_block ?_ | refine awp_scope ?_ | refine awp_skip ?_ | refine awp_exit ?_ | refine awp_ret ?_ | refine sq_n ?_ | refine sq_r ?_ | refine sq_x ?_ | refine bq_n ?_ | refine bq_r ?_ | refine bq_x ?_ | refine bq_y rfl ?_ | refine pq_n ?_ | refine pq_r ?_ | refine pq_x ?_))
      refine awp_cond (b := true) (by simp [push_cast]) (fun hb => ?_) (fun hb => ?_) <;> ((repeat (first | refine awp_seq ?_ | refine awp_block ?_ | refine awp_scope ?_ | refine awp_skip ?_ | refine awp_exit ?_ | refine awp_ret ?_ | refine sq_n ?_ | refine sq_r ?_ | refine sq_x ?_ | refine bq_n ?_ | refine bq_r ?_ | refine bq_x ?_ | refine bq_y rfl ?_ | refine pq_n ?_ | refine pq_r ?_ | refine pq_x ?_)))
      · refine awp_region cx [] fun K hK => ?_
        simp [push_cast]
        repeat (refine And.intro (by clear hK; intros; first | omega | (simp_all; done) | (simp_all <;> omega)) ?_)
        refine hK _ ?_; clear hK K; (repeat (first | refine awp_seq ?_ | refine awp_block ?_ | refine awp_scope ?_ | refine awp_skip ?_ | refine awp_exit ?_ | refine awp_ret ?_ | refine sq_n ?_ | refine sq_r ?_ | refine sq_x ?_ | refine bq_n ?_ | refine bq_r ?_ | refine bq_x ?_ | refine bq_y rfl ?_ | refine pq_n ?_ | refine pq_r ?_ | refine pq_x ?_))
        simp [push_cast]
      · simp at hb
    | true =>
      have := hnil rfl
      subst this
      refine awp_region cx [(1, .p (.bool true))] fun K hK => ?_
      simp [push_cast, c1]
      repeat (refine And.intro (by clear hK; intros; first | omega | (simp_all; done) | (simp_all <;> omega)) ?_)
      refine hK _ ?_; clear hK K; (repeat (first | refine awp_seq ?_ | refine awp_block ?_ | refine awp_scope ?_ | refine awp_skip ?_ | refine awp_exit ?_ | refine awp_ret ?_ | refine sq_n ?_ | refine sq_r ?_ | refine sq_x ?_ | refine bq_n ?_ | refine bq_r ?_ | refine bq_x ?_ | refine bq_y rfl ?_ | refine pq_n ?_ | refine pq_r ?_ | refine pq_x ?_))
      refine awp_cond (b := true) (by simp [push_cast]) (fun hb => ?_) (fun hb => ?_) <;> ((repeat (first | refine awp_seq ?_ | refine awp_block ?_ | refine awp_scope ?_ | refine awp_skip ?_ | refine awp_exit ?_ | refine awp_ret ?_ | refine sq_n ?_ | refine sq_r ?_ | refine sq_x ?_ | refine bq_n ?_ | refine bq_r ?_ | refine bq_x ?_ | refine bq_y rfl ?_ | refine pq_n ?_ | refine pq_r ?_ | refine pq_x ?_)))
      · refine awp_region cx [] fun K hK => ?_
        simp [push_cast]
        repeat (refine And.intro (by clear hK; intros; first | omega | (simp_all; done) | (simp_all <;> omega)) ?_)
        refine hK _ ?_; clear hK K; (repeat (first | refine awp_seq ?_ | refine awp_block ?_ | refine awp_scope ?_ | refine awp_skip ?_ | refine awp_exit ?_ | refine awp_ret ?_ | refine sq_n ?_ | refine sq_r ?_ | refine sq_x ?_ | refine bq_n ?_ | refine bq_r ?_ | refine bq_x ?_ | refine bq_y rfl ?_ | refine pq_n ?_ | refine pq_r ?_ | refine pq_x ?_))
        simp [push_cast]
      · simp at hb

set_option maxHeartbeats 1000000 in
theorem rbox_ok (R : List Row) (hR : smallR R) : PC Try.prog 27 [.agg (regRow R)] (.p (boxD R)) := by
  have c1 := validR_ok R hR
  have hl := hR.1
  have hB : boxD R = .tup [.agg (boxLo R).row, .agg (boxHi R).row, .bool (some? R)] := rfl
  rw [hB]
  by_cases hsm : some? R = true
  · have hlo : boxLo R = ⟨lowX R, fstY R⟩ := by simp [boxLo, hsm]
    have hhi : boxHi R = ⟨highX R, lstY R⟩ := by simp [boxHi, hsm]
    rw [hlo, hhi, hsm]
    clear hlo hhi hB
    simp only [some?, Bool.and_eq_true, decide_eq_true_eq] at hsm
    obtain ⟨hv, hpos⟩ := hsm
    rw [hv] at c1
    obtain ⟨w0, hw0⟩ : ∃ w, R[0]? = some w := getq hpos
    obtain ⟨w1, hw1⟩ : ∃ w, R[R.length - 1]? = some w := getq (by omega)
    have hy0 : fstY R = w0.y := by simp [fstY, hw0]
    have hy1 : lstY R = w1.y := by simp [lstY, hw1]
    rw [hy0, hy1]
    clear hy0 hy1
    have e1 := wrap_i64 (n := (R.length : Int) - 1) (by omega) (by omega)
    have e2 : ((R.length : Int) - 1).toNat = R.length - 1 := by omega
    have e3 : (0 : Int) ≤ (R.length : Int) - 1 := by omega
    have e4 : ((R.length : Int) == 0) = false := by simp; rintro rfl; simp at hpos
    obtain ⟨y0, r0⟩ := w0
    obtain ⟨y1, r1⟩ := w1
    refine pc_of_awp cx (fn := Try.f27) (c := _) Try.func27 rfl rfl (Nat.le_of_ble_eq_true rfl) ?_
    rw [Try.ntmps27]; (repeat (first | refine awp_seq ?_ | refine awp_block ?_ | refine awp_scope ?_ | refine awp_skip ?_ | refine awp_exit ?_ | refine awp_ret ?_ | refine sq_n ?_ | refine sq_r ?_ | refine sq_x ?_ | refine bq_n ?_ | refine bq_r ?_ | refine bq_x ?_ | refine bq_y rfl ?_ | refine pq_n ?_ | refine pq_r ?_ | refine pq_x ?_))
    refine awp_region cx [] fun K hK => ?_
    simp [push_cast]
    repeat (refine And.intro (by clear hK; intros; first | omega | (simp_all; done) | (simp_all <;> omega)) ?_)
    refine hK _ ?_; clear hK K; (repeat (first | refine awp_seq ?_ | refine awp_block ?_ | refine awp_scope ?_ | refine awp_skip ?_ | refine awp_exit ?_ | refine awp_ret ?_ | refine sq_n ?_ | refine sq_r ?_ | refine sq_x ?_ | refine bq_n ?_ | refine bq_r ?_ | refine bq_x ?_ | refine bq_y rfl ?_ | refine pq_n ?_ | refine pq_r ?_ | refine pq_x ?_))
    refine awp_region cx [(1, .p (.bool true))] fun K hK => ?_
    simp [push_cast, c1]
    repeat (refine And.intro (by clear hK; intros; first | omega | (simp_all; done) | (simp_all <;> omega)) ?_)
    refine hK _ ?_; clear hK K; (repeat (first | refine awp_seq ?_ | refine awp_block ?_ | refine awp_scope ?_ | refine awp_skip ?_ | refine awp_exit ?_ | refine awp_ret ?_ | refine sq_n ?_ | refine sq_r ?_ | refine sq_x ?_ | refine bq_n ?_ | refine bq_r ?_ | refine bq_x ?_ | refine bq_y rfl ?_ | refine pq_n ?_ | refine pq_r ?_ | refine pq_x ?_))
    refine awp_cond (b := false) (by simp [push_cast, e4]) (fun hb => ?_) (fun hb => ?_) <;> ((repeat (first | refine awp_seq ?_ | refine awp_block ?_ | refine awp_scope ?_ | refine awp_skip ?_ | refine awp_exit ?_ | refine awp_ret ?_ | refine sq_n ?_ | refine sq_r ?_ | refine sq_x ?_ | refine bq_n ?_ | refine bq_r ?_ | refine bq_x ?_ | refine bq_y rfl ?_ | refine pq_n ?_ | refine pq_r ?_ | refine pq_x ?_)))
    · simp at hb
    · refine awp_region cx [] fun K hK => ?_
      simp [push_cast, hw0, Row.row]
      repeat (refine And.intro (by clear hK; intros; first | omega | (simp_all; done) | (simp_all <;> omega)) ?_)
      refine hK _ ?_; clear hK K; (repeat (first | refine awp_seq ?_ | refine awp_block ?_ | refine awp_scope ?_ | refine awp_skip ?_ | refine awp_exit ?_ | refine awp_ret ?_ | refine sq_n ?_ | refine sq_r ?_ | refine sq_x ?_ | refine bq_n ?_ | refine bq_r ?_ | refine bq_x ?_ | refine bq_y rfl ?_ | refine pq_n ?_ | refine pq_r ?_ | refine pq_x ?_))
      refine awp_region cx [] fun K hK => ?_
      simp [push_cast, hw1, e1, e2, e3, Row.row]
      repeat (refine And.intro (by clear hK; intros; first | omega | (simp_all; done) | (simp_all <;> omega)) ?_)
      refine hK _ ?_; clear hK K; (repeat (first | refine awp_seq ?_ | refine awp_block ?_ | refine awp_scope ?_ | refine awp_skip ?_ | refine awp_exit ?_ | refine awp_ret ?_ | refine sq_n ?_ | refine sq_r ?_ | refine sq_x ?_ | refine bq_n ?_ | refine bq_r ?_ | refine bq_x ?_ | refine bq_y rfl ?_ | refine pq_n ?_ | refine pq_r ?_ | refine pq_x ?_))
      refine awp_region cx [] fun K hK => ?_
      simp [push_cast]
      repeat (refine And.intro (by clear hK; intros; first | omega | (simp_all; done) | (simp_all <;> omega)) ?_)
      refine hK _ ?_; clear hK K; (repeat (first | refine awp_seq ?_ | refine awp_block ?_ | refine awp_scope ?_ | refine awp_skip ?_ | refine awp_exit ?_ | refine awp_ret ?_ | refine sq_n ?_ | refine sq_r ?_ | refine sq_x ?_ | refine bq_n ?_ | refine bq_r ?_ | refine bq_x ?_ | refine bq_y rfl ?_ | refine pq_n ?_ | refine pq_r ?_ | refine pq_x ?_))
      refine awp_loop (β := Nat × Int × Int) (fun b => ⟨71, [(1, .ptr 4 0 0), (2, .ptr 0 0 0), (3, .ptr 1 0 0), (4, .d (.bool false)), (5, .ptr 2 0 0), (6, .ptr 3 0 0), (7, .d (.int .i64 b.1))], [(0, some ⟨35, 2, [[.d (.int .i64 0), .d (.int .i64 0)]]⟩), (1, some ⟨35, 2, [[.d (.int .i64 0), .d (.int .i64 0)]]⟩), (2, some ⟨35, 2, [[.d (.int .i64 b.2.1), .d (.int .i64 y0)]]⟩), (3, some ⟨35, 2, [[.d (.int .i64 b.2.2), .d (.int .i64 y1)]]⟩), (4, some ⟨24, 1, [(regRow R).map .d]⟩)], 5⟩) (fun b => b.1 ≤ R.length ∧ b.2.1 = lowX (R.take b.1) ∧ b.2.2 = highX (R.take b.1)) (fun b => R.length - b.1) (0, 4096, -4096) ?_ ⟨Nat.zero_le _, by simp [lowX], by simp [highX]⟩ ?_
      · refine weak_of [(0, some 1), (1, some 2), (2, some 19), (3, some 31), (4, some 0)] rfl (by simp [upT, up, upL, push_cast]) (by simp [upH, upR, upL, up, push_cast]) (by simp [namesOk, push_cast]) (by simp [olds])
      · rintro ⟨k, a, b⟩ ⟨hk, ha, hb'⟩
        simp only at hk ha hb'
        (repeat (first | refine awp_seq ?_ | refine awp_block ?_ | refine awp_scope ?_ | refine awp_skip ?_ | refine awp_exit ?_ | refine awp_ret ?_ | refine sq_n ?_ | refine sq_r ?_ | refine sq_x ?_ | refine bq_n ?_ | refine bq_r ?_ | refine bq_x ?_ | refine bq_y rfl ?_ | refine pq_n ?_ | refine pq_r ?_ | refine pq_x ?_))
        refine awp_region cx [] fun K hK => ?_
        simp [push_cast]
        repeat (refine And.intro (by clear hK; intros; first | omega | (simp_all; done) | (simp_all <;> omega)) ?_)
        refine hK _ ?_; clear hK K; (repeat (first | refine awp_seq ?_ | refine awp_block ?_ | refine awp_scope ?_ | refine awp_skip ?_ | refine awp_exit ?_ | refine awp_ret ?_ | refine sq_n ?_ | refine sq_r ?_ | refine sq_x ?_ | refine bq_n ?_ | refine bq_r ?_ | refine bq_x ?_ | refine bq_y rfl ?_ | refine pq_n ?_ | refine pq_r ?_ | refine pq_x ?_))
        refine awp_cond (b := decide ((k : Int) < R.length)) (by simp [push_cast]) (fun hb => ?_) (fun hb => ?_) <;> ((repeat (first | refine awp_seq ?_ | refine awp_block ?_ | refine awp_scope ?_ | refine awp_skip ?_ | refine awp_exit ?_ | refine awp_ret ?_ | refine sq_n ?_ | refine sq_r ?_ | refine sq_x ?_ | refine bq_n ?_ | refine bq_r ?_ | refine bq_x ?_ | refine bq_y rfl ?_ | refine pq_n ?_ | refine pq_r ?_ | refine pq_x ?_)))
        · have hlt : k < R.length := by simpa using hb
          obtain ⟨w, hw⟩ := getq hlt
          have f1 := lowX_take hw
          have f2 := highX_take hw
          rw [← ha] at f1
          rw [← hb'] at f2
          have e0 := wrap_i64 (n := (k : Int) + 1) (by omega) (by omega)
          obtain ⟨f, z, hf, hz, q1, q2, q3⟩ := fine_ends (validR_at hv hw).2
          have g1 : fstA w = f.a := by simp [fstA, hf]
          have g2 : lstB w = z.b := by simp [lstB, hz]
          have hwl := hR.2 w (List.mem_of_getElem? hw)
          rw [g1] at f1
          rw [g2] at f2
          obtain ⟨wy, wr⟩ := w
          obtain ⟨fa, fb⟩ := f
          obtain ⟨za, zb⟩ := z
          simp only at hf hz q1 q2 q3 f1 f2 hwl
          have d1 := wrap_i64 (n := (wr.length : Int) - 1) (by omega) (by omega)
          have d2 : ((wr.length : Int) - 1).toNat = wr.length - 1 := by omega
          have d3 : (0 : Int) ≤ (wr.length : Int) - 1 := by omega
          have d4 := wrap_i64 (n := zb - 1) (by omega) (by omega)
          refine awp_region cx [] fun K hK => ?_
          simp [push_cast, hw, Row.row]
          repeat (refine And.intro (by clear hK; intros; first | omega | (simp_all; done) | (simp_all <;> omega)) ?_)
          refine hK _ ?_; clear hK K; (repeat (first | refine awp_seq ?_ | refine awp_block ?_ | refine awp_scope ?_ | refine awp_skip ?_ | refine awp_exit ?_ | refine awp_ret ?_ | refine sq_n ?_ | refine sq_r ?_ | refine sq_x ?_ | refine bq_n ?_ | refine bq_r ?_ | refine bq_x ?_ | refine bq_y rfl ?_ | refine pq_n ?_ | refine pq_r ?_ | refine pq_x ?_))
          refine awp_region_draw cx mixed [] fun K hK => ?_
          simp [push_cast, hf, Row.row, Run.row]
          repeat (refine And.intro (by clear hK; intros; first | omega | (simp_all; done) | (simp_all <;> omega)) ?_)
          refine hK _ _ (by kernel_rfl) ?_; clear hK K; (repeat (first | refine awp_seq ?_ | refine awp_block ?_ | refine awp_scope ?_ | refine awp_skip ?_ | refine awp_exit ?_ | refine awp_ret ?_ | refine sq_n ?_ | refine sq_r ?_ | refine sq_x ?_ | refine bq_n ?_ | refine bq_r ?_ | refine bq_x ?_ | refine bq_y rfl ?_ | refine pq_n ?_ | refine pq_r ?_ | refine pq_x ?_))
          refine awp_region_draw cx mixed [] fun K hK => ?_
          simp [push_cast, hz, d1, d2, d3, d4, Row.row, Run.row]
          repeat (refine And.intro (by clear hK; intros; first | omega | (simp_all; done) | (simp_all <;> omega)) ?_)
          refine hK _ _ (by kernel_rfl) ?_; clear hK K; (repeat (first | refine awp_seq ?_ | refine awp_block ?_ | refine awp_scope ?_ | refine awp_skip ?_ | refine awp_exit ?_ | refine awp_ret ?_ | refine sq_n ?_ | refine sq_r ?_ | refine sq_x ?_ | refine bq_n ?_ | refine bq_r ?_ | refine bq_x ?_ | refine bq_y rfl ?_ | refine pq_n ?_ | refine pq_r ?_ | refine pq_x ?_))
          refine awp_region cx [] fun K hK => ?_
          simp [push_cast, e0]
          repeat (refine And.intro (by clear hK; intros; first | omega | (simp_all; done) | (simp_all <;> omega)) ?_)
          refine hK _ ?_; clear hK K; (repeat (first | refine awp_seq ?_ | refine awp_block ?_ | refine awp_scope ?_ | refine awp_skip ?_ | refine awp_exit ?_ | refine awp_ret ?_ | refine sq_n ?_ | refine sq_r ?_ | refine sq_x ?_ | refine bq_n ?_ | refine bq_r ?_ | refine bq_x ?_ | refine bq_y rfl ?_ | refine pq_n ?_ | refine pq_r ?_ | refine pq_x ?_))
          refine ⟨(k + 1, min a fa, max b (zb - 1)), ⟨hlt, f1.symm, f2.symm⟩, by simp only; omega, ?_⟩
          refine weak_of [(0, some 0), (1, some 1), (2, some 2), (3, some 3), (4, some 4)] rfl (by simp [upT, up, upL, push_cast]) (by simp [upH, upR, upL, up, push_cast]) (by simp [namesOk, push_cast]) (by simp [olds])
        · have hge : k = R.length := by simp at hb; omega
          subst hge
          rw [List.take_length] at ha hb'
          subst ha hb'
          refine awp_region_draw cx mixed [] fun K hK => ?_
          simp [push_cast]
          repeat (refine And.intro (by clear hK; intros; first | omega | (simp_all; done) | (simp_all <;> omega)) ?_)
          refine hK _ _ (by kernel_rfl) ?_; clear hK K; (repeat (first | refine awp_seq ?_ | refine awp_block ?_ | refine awp_scope ?_ | refine awp_skip ?_ | refine awp_exit ?_ | refine awp_ret ?_ | refine sq_n ?_ | refine sq_r ?_ | refine sq_x ?_ | refine bq_n ?_ | refine bq_r ?_ | refine bq_x ?_ | refine bq_y rfl ?_ | refine pq_n ?_ | refine pq_r ?_ | refine pq_x ?_))
          simp [push_cast]
  · have hlo : boxLo R = ⟨0, 0⟩ := by simp [boxLo, hsm]
    have hhi : boxHi R = ⟨0, 0⟩ := by simp [boxHi, hsm]
    rw [hlo, hhi, Bool.eq_false_iff.2 hsm]
    generalize hv : validR R = v at *
    have hnil : v = true → R = [] := fun h => by
      rw [h] at hv
      cases R with
      | nil => rfl
      | cons a l => exact absurd (by simp [some?, hv]) hsm
    refine pc_of_awp cx (fn := Try.f27) (c := _) Try.func27 rfl rfl (Nat.le_of_ble_eq_true rfl) ?_
    rw [Try.ntmps27]; (repeat (first | refine awp_seq ?_ | refine awp_block ?_ | refine awp_scope ?_ | refine awp_skip ?_ | refine awp_exit ?_ | refine awp_ret ?_ | refine sq_n ?_ | refine sq_r ?_ | refine sq_x ?_ | refine bq_n ?_ | refine bq_r ?_ | refine bq_x ?_ | refine bq_y rfl ?_ | refine pq_n ?_ | refine pq_r ?_ | refine pq_x ?_))
    refine awp_region cx [] fun K hK => ?_
    simp [push_cast]
    repeat (refine And.intro (by clear hK; intros; first | omega | (simp_all; done) | (simp_all <;> omega)) ?_)
    refine hK _ ?_; clear hK K; (repeat (first | refine awp_seq ?_ | refine awp_block ?_ | refine awp_scope ?_ | refine awp_skip ?_ | refine awp_exit ?_ | refine awp_ret ?_ | refine sq_n ?_ | refine sq_r ?_ | refine sq_x ?_ | refine bq_n ?_ | refine bq_r ?_ | refine bq_x ?_ | refine bq_y rfl ?_ | refine pq_n ?_ | refine pq_r ?_ | refine pq_x ?_))
    cases v with
    | false =>
      refine awp_region cx [(1, .p (.bool false))] fun K hK => ?_
      simp [push_cast, c1]
      repeat (refine And.intro (by clear hK; intros; first | omega | (simp_all; done) | (simp_all <;> omega)) ?_)
      refine hK _ ?_; clear hK K; (repeat (first | refine awp_seq ?_ | refine awp_block ?_ | refine awp_scope ?_ | refine awp_skip ?_ | refine awp_exit ?_ | refine awp_ret ?_ | refine sq_n ?_ | refine sq_r ?_ | refine sq_x ?_ | refine bq_n ?_ | refine bq_r ?_ | refine bq_x ?_ | refine bq_y rfl ?_ | refine pq_n ?_ | refine pq_r ?_ | refine pq_x ?_))
      refine awp_cond (b := true) (by simp [push_cast]) (fun hb => ?_) (fun hb => ?_) <;> ((repeat (first | refine awp_seq ?_ | refine awp_block ?_ | refine awp_scope ?_ | refine awp_skip ?_ | refine awp_exit ?_ | refine awp_ret ?_ | refine sq_n ?_ | refine sq_r ?_ | refine sq_x ?_ | refine bq_n ?_ | refine bq_r ?_ | refine bq_x ?_ | refine bq_y rfl ?_ | refine pq_n ?_ | refine pq_r ?_ | refine pq_x ?_)))
      · refine awp_region cx [] fun K hK => ?_
        simp [push_cast]
        repeat (refine And.intro (by clear hK; intros; first | omega | (simp_all; done) | (simp_all <;> omega)) ?_)
        refine hK _ ?_; clear hK K; (repeat (first | refine awp_seq ?_ | refine awp_block ?_ | refine awp_scope ?_ | refine awp_skip ?_ | refine awp_exit ?_ | refine awp_ret ?_ | refine sq_n ?_ | refine sq_r ?_ | refine sq_x ?_ | refine bq_n ?_ | refine bq_r ?_ | refine bq_x ?_ | refine bq_y rfl ?_ | refine pq_n ?_ | refine pq_r ?_ | refine pq_x ?_))
        simp [push_cast]
      · simp at hb
    | true =>
      have := hnil rfl
      subst this
      refine awp_region cx [(1, .p (.bool true))] fun K hK => ?_
      simp [push_cast, c1]
      repeat (refine And.intro (by clear hK; intros; first | omega | (simp_all; done) | (simp_all <;> omega)) ?_)
      refine hK _ ?_; clear hK K; (repeat (first | refine awp_seq ?_ | refine awp_block ?_ | refine awp_scope ?_ | refine awp_skip ?_ | refine awp_exit ?_ | refine awp_ret ?_ | refine sq_n ?_ | refine sq_r ?_ | refine sq_x ?_ | refine bq_n ?_ | refine bq_r ?_ | refine bq_x ?_ | refine bq_y rfl ?_ | refine pq_n ?_ | refine pq_r ?_ | refine pq_x ?_))
      refine awp_cond (b := true) (by simp [push_cast]) (fun hb => ?_) (fun hb => ?_) <;> ((repeat (first | refine awp_seq ?_ | refine awp_block ?_ | refine awp_scope ?_ | refine awp_skip ?_ | refine awp_exit ?_ | refine awp_ret ?_ | refine sq_n ?_ | refine sq_r ?_ | refine sq_x ?_ | refine bq_n ?_ | refine bq_r ?_ | refine bq_x ?_ | refine bq_y rfl ?_ | refine pq_n ?_ | refine pq_r ?_ | refine pq_x ?_)))
      · refine awp_region cx [] fun K hK => ?_
        simp [push_cast]
        repeat (refine And.intro (by clear hK; intros; first | omega | (simp_all; done) | (simp_all <;> omega)) ?_)
        refine hK _ ?_; clear hK K; (repeat (first | refine awp_seq ?_ | refine awp_block ?_ | refine awp_scope ?_ | refine awp_skip ?_ | refine awp_exit ?_ | refine awp_ret ?_ | refine sq_n ?_ | refine sq_r ?_ | refine sq_x ?_ | refine bq_n ?_ | refine bq_r ?_ | refine bq_x ?_ | refine bq_y rfl ?_ | refine pq_n ?_ | refine pq_r ?_ | refine pq_x ?_))
        simp [push_cast]
      · simp at hb
end Go.Proofs.Ytmfkfgonedgjnaa
