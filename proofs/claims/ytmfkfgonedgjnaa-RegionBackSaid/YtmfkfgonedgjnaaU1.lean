/-
  The walks of this seat's functions and the plain laws behind them: part U1.
-/
import Derived.Test.YtmfkfgonedgjnaaT6
import Derived.Test.YtmfkfgonedgjnaaG1
set_option linter.unusedVariables false
set_option linter.unusedSimpArgs false
namespace Go.Proofs.Ytmfkfgonedgjnaa
open Go.Abs

/-! The number of cells. -/
def lenN (l : List Run) : Nat := (l.flatMap (runCells 0)).length
theorem lenN_take {l : List Run} {k : Nat} {r : Run} (h : l[k]? = some r) : lenN (l.take (k + 1)) = lenN (l.take k) + (r.b - r.a).toNat := by
  unfold lenN
  rw [flat_take _ h, List.length_append, runCells_len]
theorem rowCells_len (w : Row) : (rowCells w).length = lenN w.runs := by
  unfold rowCells lenN
  rw [List.length_flatMap, List.length_flatMap]
  simp only [runCells_len]
theorem lenN_bound {l : List Run} (h : rvalid l = true) : ∀ k, k ≤ l.length → lenN (l.take k) ≤ k * 2097152
  | 0, _ => by simp [lenN]
  | k + 1, hk => by
    obtain ⟨r, hr⟩ := getq (show k < l.length by omega)
    have h1 := lenN_bound h k (by omega)
    have h2 := fitsB_bd (rvalid_at h hr).2
    rw [lenN_take hr, Nat.succ_mul]
    omega

theorem length_ok (l : List Run) (hl : l.length ≤ 1000000) (hv : rvalid l = true) : PC Try.prog 75 [encRuns l] (.p (.int .i64 (lenN l))) := by
  have c1 := rvalid_ok l hl
  rw [hv] at c1
  refine pc_of_awp cx (fn := Try.f75) (c := _) Try.func75 rfl rfl (Nat.le_of_ble_eq_true rfl) ?_
  rw [Try.ntmps75]; (repeat (first | refine awp_seq ?_ | refine awp_block ?_ | refine awp_scope ?_ | refine awp_skip ?_ | refine awp_exit ?_ | refine awp_ret ?_ | refine sq_n ?_ | refine sq_r ?_ | refine sq_x ?_ | refine bq_n ?_ | refine bq_r ?_ | refine bq_x ?_ | refine bq_y rfl ?_ | refine pq_n ?_ | refine pq_r ?_ | refine pq_x ?_))
  refine awp_region cx [] fun K hK => ?_
  simp [push_cast]
  repeat (refine And.intro (by clear hK; intros; first | omega | (simp_all; done) | (simp_all <;> omega)) ?_)
  refine hK _ ?_; clear hK K; (repeat (first | refine awp_seq ?_ | refine awp_block ?_ | refine awp_scope ?_ | refine awp_skip ?_ | refine awp_exit ?_ | refine awp_ret ?_ | refine sq_n ?_ | refine sq_r ?_ | refine sq_x ?_ | refine bq_n ?_ | refine bq_r ?_ | refine bq_x ?_ | refine bq_y rfl ?_ | refine pq_n ?_ | refine pq_r ?_ | refine pq_x ?_))
  refine awp_region cx [(1, .p (.bool true))] fun K hK => ?_
  simp [push_cast, c1]
  repeat (refine And.intro (by clear hK; intros; first | omega | (simp_all; done) | (simp_all <;> omega)) ?_)
  refine hK _ ?_; clear hK K; (repeat (first | refine awp_seq ?_ | refine awp_block ?_ | refine awp_scope ?_ | refine awp_skip ?_ | refine awp_exit ?_ | refine awp_ret ?_ | refine sq_n ?_ | refine sq_r ?_ | refine sq_x ?_ | refine bq_n ?_ | refine bq_r ?_ | refine bq_x ?_ | refine bq_y rfl ?_ | refine pq_n ?_ | refine pq_r ?_ | refine pq_x ?_))
  refine awp_cond (b := false) (by simp [push_cast]) (fun hb => ?_) (fun hb => ?_) <;> ((repeat (first | refine awp_seq ?_ | refine awp_block ?_ | refine awp_scope ?_ | refine awp_skip ?_ | refine awp_exit ?_ | refine awp_ret ?_ | refine sq_n ?_ | refine sq_r ?_ | refine sq_x ?_ | refine bq_n ?_ | refine bq_r ?_ | refine bq_x ?_ | refine bq_y rfl ?_ | refine pq_n ?_ | refine pq_r ?_ | refine pq_x ?_)))
  · simp at hb
  · refine awp_region cx [] fun K hK => ?_
    simp [push_cast]
    repeat (refine And.intro (by clear hK; intros; first | omega | (simp_all; done) | (simp_all <;> omega)) ?_)
    refine hK _ ?_; clear hK K; (repeat (first | refine awp_seq ?_ | refine awp_block ?_ | refine awp_scope ?_ | refine awp_skip ?_ | refine awp_exit ?_ | refine awp_ret ?_ | refine sq_n ?_ | refine sq_r ?_ | refine sq_x ?_ | refine bq_n ?_ | refine bq_r ?_ | refine bq_x ?_ | refine bq_y rfl ?_ | refine pq_n ?_ | refine pq_r ?_ | refine pq_x ?_))
    refine awp_region cx [] fun K hK => ?_
    simp [push_cast]
    repeat (refine And.intro (by clear hK; intros; first | omega | (simp_all; done) | (simp_all <;> omega)) ?_)
    refine hK _ ?_; clear hK K; (repeat (first | refine awp_seq ?_ | refine awp_block ?_ | refine awp_scope ?_ | refine awp_skip ?_ | refine awp_exit ?_ | refine awp_ret ?_ | refine sq_n ?_ | refine sq_r ?_ | refine sq_x ?_ | refine bq_n ?_ | refine bq_r ?_ | refine bq_x ?_ | refine bq_y rfl ?_ | refine pq_n ?_ | refine pq_r ?_ | refine pq_x ?_))
    refine awp_loop (β := Nat × Nat) (fun b => ⟨24, [(3, .d (.int .i64 b.2)), (9, .d (encRuns l)), (10, .d (.int .i64 l.length)), (11, .d (.int .i64 b.1))], [], 0⟩) (fun b => b.1 ≤ l.length ∧ b.2 = lenN (l.take b.1)) (fun b => l.length - b.1) (0, 0) ?_ ⟨Nat.zero_le _, by simp [lenN]⟩ ?_
    · refine weak_of [] rfl (by simp [upT, up, upL, push_cast]) (by simp [upH, upR, upL, up, push_cast]) (by simp [namesOk, push_cast]) (by simp [olds])
    · rintro ⟨k, n0⟩ ⟨hk, hn⟩
      simp only at hk hn
      (repeat (first | refine awp_seq ?_ | refine awp_block ?_ | refine awp_scope ?_ | refine awp_skip ?_ | refine awp_exit ?_ | refine awp_ret ?_ | refine sq_n ?_ | refine sq_r ?_ | refine sq_x ?_ | refine bq_n ?_ | refine bq_r ?_ | refine bq_x ?_ | refine bq_y rfl ?_ | refine pq_n ?_ | refine pq_r ?_ | refine pq_x ?_))
      refine awp_region cx [] fun K hK => ?_
      simp [push_cast]
      repeat (refine And.intro (by clear hK; intros; first | omega | (simp_all; done) | (simp_all <;> omega)) ?_)
      refine hK _ ?_; clear hK K; (repeat (first | refine awp_seq ?_ | refine awp_block ?_ | refine awp_scope ?_ | refine awp_skip ?_ | refine awp_exit ?_ | refine awp_ret ?_ | refine sq_n ?_ | refine sq_r ?_ | refine sq_x ?_ | refine bq_n ?_ | refine bq_r ?_ | refine bq_x ?_ | refine bq_y rfl ?_ | refine pq_n ?_ | refine pq_r ?_ | refine pq_x ?_))
      refine awp_cond (b := decide ((k : Int) < l.length)) (by simp [push_cast]) (fun hb => ?_) (fun hb => ?_) <;> ((repeat (first | refine awp_seq ?_ | refine awp_block ?_ | refine awp_scope ?_ | refine awp_skip ?_ | refine awp_exit ?_ | refine awp_ret ?_ | refine sq_n ?_ | refine sq_r ?_ | refine sq_x ?_ | refine bq_n ?_ | refine bq_r ?_ | refine bq_x ?_ | refine bq_y rfl ?_ | refine pq_n ?_ | refine pq_r ?_ | refine pq_x ?_)))
      · have hlt : k < l.length := by simpa using hb
        obtain ⟨r, hr⟩ := getq hlt
        have hs := lenN_take hr
        have hbd := lenN_bound hv k (by omega)
        rw [← hn] at hs hbd
        have hrf := rvalid_at hv hr
        have hf := fitsB_bd hrf.2
        obtain ⟨ra, rb⟩ := r
        simp only at hs hrf hf
        have e0 := wrap_i64 (n := (k : Int) + 1) (by omega) (by omega)
        have e1 := wrap_i64 (n := rb - ra) (by omega) (by omega)
        have e2 := wrap_i64 (n := (n0 : Int) + (rb - ra)) (by omega) (by omega)
        have e3 : (n0 : Int) + (rb - ra) = (lenN (l.take (k + 1)) : Nat) := by rw [hs]; omega
        rw [e3] at e2
        generalize hn1 : lenN (l.take (k + 1)) = n1 at *
        refine awp_region cx [] fun K hK => ?_
        simp [push_cast, hr, Run.row]
        repeat (refine And.intro (by clear hK; intros; first | omega | (simp_all; done) | (simp_all <;> omega)) ?_)
        refine hK _ ?_; clear hK K; (repeat (first | refine awp_seq ?_ | refine awp_block ?_ | refine awp_scope ?_ | refine awp_skip ?_ | refine awp_exit ?_ | refine awp_ret ?_ | refine sq_n ?_ | refine sq_r ?_ | refine sq_x ?_ | refine bq_n ?_ | refine bq_r ?_ | refine bq_x ?_ | refine bq_y rfl ?_ | refine pq_n ?_ | refine pq_r ?_ | refine pq_x ?_))
        refine awp_region cx [] fun K hK => ?_
        simp [push_cast, e1, e2, e3, Run.row]
        repeat (refine And.intro (by clear hK; intros; first | omega | (simp_all; done) | (simp_all <;> omega)) ?_)
        refine hK _ ?_; clear hK K; (repeat (first | refine awp_seq ?_ | refine awp_block ?_ | refine awp_scope ?_ | refine awp_skip ?_ | refine awp_exit ?_ | refine awp_ret ?_ | refine sq_n ?_ | refine sq_r ?_ | refine sq_x ?_ | refine bq_n ?_ | refine bq_r ?_ | refine bq_x ?_ | refine bq_y rfl ?_ | refine pq_n ?_ | refine pq_r ?_ | refine pq_x ?_))
        refine awp_region cx [] fun K hK => ?_
        simp [push_cast, e0]
        repeat (refine And.intro (by clear hK; intros; first | omega | (simp_all; done) | (simp_all <;> omega)) ?_)
        refine hK _ ?_; clear hK K; (repeat (first | refine awp_seq ?_ | refine awp_block ?_ | refine awp_scope ?_ | refine awp_skip ?_ | refine awp_exit ?_ | refine awp_ret ?_ | refine sq_n ?_ | refine sq_r ?_ | refine sq_x ?_ | refine bq_n ?_ | refine bq_r ?_ | refine bq_x ?_ | refine bq_y rfl ?_ | refine pq_n ?_ | refine pq_r ?_ | refine pq_x ?_))
        refine ⟨(k + 1, n1), ⟨hlt, hn1.symm⟩, by simp only; omega, ?_⟩
        refine weak_of [] rfl (by simp [upT, up, upL, push_cast]) (by simp [upH, upR, upL, up, push_cast]) (by simp [namesOk, push_cast]) (by simp [olds])
      · have hge : k = l.length := by simp at hb; omega
        subst hge
        rw [List.take_length] at hn
        subst hn
        refine awp_region cx [] fun K hK => ?_
        simp [push_cast]
        repeat (refine And.intro (by clear hK; intros; first | omega | (simp_all; done) | (simp_all <;> omega)) ?_)
        refine hK _ ?_; clear hK K; (repeat (first | refine awp_seq ?_ | refine awp_block ?_ | refine awp_scope ?_ | refine awp_skip ?_ | refine awp_exit ?_ | refine awp_ret ?_ | refine sq_n ?_ | refine sq_r ?_ | refine sq_x ?_ | refine bq_n ?_ | refine bq_r ?_ | refine bq_x ?_ | refine bq_y rfl ?_ | refine pq_n ?_ | refine pq_r ?_ | refine pq_x ?_))
        simp [push_cast]

def countR (R : List Row) : Nat := if validR R then (regCells R).length else 0
theorem rows_bound {R : List Row} (h : validR R = true) (hR : smallR R) : ∀ i, i ≤ R.length → (rowsTo R i).length ≤ i * 2097152000000
  | 0, _ => by simp [rowsTo]
  | i + 1, hi => by
    obtain ⟨w, hw⟩ := getq (show i < R.length by omega)
    have h1 := rows_bound h hR i (by omega)
    have h2 := lenN_bound (fine_rv (validR_at h hw).2) w.runs.length (Nat.le_refl _)
    have h3 := hR.2 w (List.mem_of_getElem? hw)
    rw [rowsTo_next hw, List.length_append, rowCells_len, Nat.succ_mul]
    rw [List.take_length] at h2
    have := Nat.mul_le_mul_right 2097152 h3
    omega
theorem rows_big {R : List Row} (h : validR R = true) (hR : smallR R) {i : Nat} (hi : i ≤ R.length) : (rowsTo R i).length ≤ 2097152000000000000 := by
  have h1 := rows_bound h hR i hi
  have h2 := hR.1
  have := Nat.mul_le_mul_right 2097152000000 (show i ≤ 1000000 by omega)
  omega

theorem count_ok (R : List Row) (hR : smallR R) : PC Try.prog 35 [.agg (regRow R)] (.p (.int .i64 (countR R))) := by
  have c1 := valid_ok R hR
  have hl := hR.1
  have hC : countR R = if validR R then (regCells R).length else 0 := rfl
  generalize hv : validR R = v at *
  refine pc_of_awp cx (fn := Try.f35) (c := _) Try.func35 rfl rfl (Nat.le_of_ble_eq_true rfl) ?_
  rw [Try.ntmps35]; (repeat (first | refine awp_seq ?_ | refine awp_block ?_ | refine awp_scope ?_ | refine awp_skip ?_ | refine awp_exit ?_ | refine awp_ret ?_ | refine sq_n ?_ | refine sq_r ?_ | refine sq_x ?_ | refine bq_n ?_ | refine bq_r ?_ | refine bq_x ?_ | refine bq_y rfl ?_ | refine pq_n ?_ | refine pq_r ?_ | refine pq_x ?_))
  refine awp_region cx [] fun K hK => ?_
  simp [push_cast]
  repeat (refine And.intro (by clear hK; intros; first | omega | (simp_all; done) | (simp_all <;> omega)) ?_)
  refine hK _ ?_; clear hK K; (repeat (first | refine awp_seq ?_ | refine awp_block ?_ | refine awp_scope ?_ | refine awp_skip ?_ | refine awp_exit ?_ | refine awp_ret ?_ | refine sq_n ?_ | refine sq_r ?_ | refine sq_x ?_ | refine bq_n ?_ | refine bq_r ?_ | refine bq_x ?_ | refine bq_y rfl ?_ | refine pq_n ?_ | refine pq_r ?_ | refine pq_x ?_))
  refine awp_region cx [(1, .p (.bool v))] fun K hK => ?_
  simp [push_cast, c1]
  repeat (refine And.intro (by clear hK; intros; first | omega | (simp_all; done) | (simp_all <;> omega)) ?_)
  refine hK _ ?_; clear hK K; (repeat (first | refine awp_seq ?_ | refine awp_block ?_ | refine awp_scope ?_ | refine awp_skip ?_ | refine awp_exit ?_ | refine awp_ret ?_ | refine sq_n ?_ | refine sq_r ?_ | refine sq_x ?_ | refine bq_n ?_ | refine bq_r ?_ | refine bq_x ?_ | refine bq_y rfl ?_ | refine pq_n ?_ | refine pq_r ?_ | refine pq_x ?_))
  refine awp_cond (b := !v) (by simp [push_cast]) (fun hb => ?_) (fun hb => ?_) <;> ((repeat (first | refine awp_seq ?_ | refine awp_block ?_ | refine awp_scope ?_ | refine awp_skip ?_ | refine awp_exit ?_ | refine awp_ret ?_ | refine sq_n ?_ | refine sq_r ?_ | refine sq_x ?_ | refine bq_n ?_ | refine bq_r ?_ | refine bq_x ?_ | refine bq_y rfl ?_ | refine pq_n ?_ | refine pq_r ?_ | refine pq_x ?_)))
  · simp at hb
    rw [hC, hb]
    refine awp_region cx [] fun K hK => ?_
    simp [push_cast]
    repeat (refine And.intro (by clear hK; intros; first | omega | (simp_all; done) | (simp_all <;> omega)) ?_)
    refine hK _ ?_; clear hK K; (repeat (first | refine awp_seq ?_ | refine awp_block ?_ | refine awp_scope ?_ | refine awp_skip ?_ | refine awp_exit ?_ | refine awp_ret ?_ | refine sq_n ?_ | refine sq_r ?_ | refine sq_x ?_ | refine bq_n ?_ | refine bq_r ?_ | refine bq_x ?_ | refine bq_y rfl ?_ | refine pq_n ?_ | refine pq_r ?_ | refine pq_x ?_))
    simp [push_cast]
  · simp at hb
    rw [hb] at hv hC
    rw [hC, if_pos rfl]
    clear hC
    refine awp_region cx [] fun K hK => ?_
    simp [push_cast]
    repeat (refine And.intro (by clear hK; intros; first | omega | (simp_all; done) | (simp_all <;> omega)) ?_)
    refine hK _ ?_; clear hK K; (repeat (first | refine awp_seq ?_ | refine awp_block ?_ | refine awp_scope ?_ | refine awp_skip ?_ | refine awp_exit ?_ | refine awp_ret ?_ | refine sq_n ?_ | refine sq_r ?_ | refine sq_x ?_ | refine bq_n ?_ | refine bq_r ?_ | refine bq_x ?_ | refine bq_y rfl ?_ | refine pq_n ?_ | refine pq_r ?_ | refine pq_x ?_))
    refine awp_region cx [] fun K hK => ?_
    simp [push_cast]
    repeat (refine And.intro (by clear hK; intros; first | omega | (simp_all; done) | (simp_all <;> omega)) ?_)
    refine hK _ ?_; clear hK K; (repeat (first | refine awp_seq ?_ | refine awp_block ?_ | refine awp_scope ?_ | refine awp_skip ?_ | refine awp_exit ?_ | refine awp_ret ?_ | refine sq_n ?_ | refine sq_r ?_ | refine sq_x ?_ | refine bq_n ?_ | refine bq_r ?_ | refine bq_x ?_ | refine bq_y rfl ?_ | refine pq_n ?_ | refine pq_r ?_ | refine pq_x ?_))
    refine awp_loop (β := Nat × Nat) (fun b => ⟨23, [(3, .d (.int .i64 b.2)), (10, .d (encRows R)), (11, .d (.int .i64 R.length)), (12, .d (.int .i64 b.1))], [], 0⟩) (fun b => b.1 ≤ R.length ∧ b.2 = (rowsTo R b.1).length) (fun b => R.length - b.1) (0, 0) ?_ ⟨Nat.zero_le _, by simp [rowsTo]⟩ ?_
    · refine weak_of [] rfl (by simp [upT, up, upL, push_cast]) (by simp [upH, upR, upL, up, push_cast]) (by simp [namesOk, push_cast]) (by simp [olds])
    · rintro ⟨k, n0⟩ ⟨hk, hn⟩
      simp only at hk hn
      (repeat (first | refine awp_seq ?_ | refine awp_block ?_ | refine awp_scope ?_ | refine awp_skip ?_ | refine awp_exit ?_ | refine awp_ret ?_ | refine sq_n ?_ | refine sq_r ?_ | refine sq_x ?_ | refine bq_n ?_ | refine bq_r ?_ | refine bq_x ?_ | refine bq_y rfl ?_ | refine pq_n ?_ | refine pq_r ?_ | refine pq_x ?_))
      refine awp_region cx [] fun K hK => ?_
      simp [push_cast]
      repeat (refine And.intro (by clear hK; intros; first | omega | (simp_all; done) | (simp_all <;> omega)) ?_)
      refine hK _ ?_; clear hK K; (repeat (first | refine awp_seq ?_ | refine awp_block ?_ | refine awp_scope ?_ | refine awp_skip ?_ | refine awp_exit ?_ | refine awp_ret ?_ | refine sq_n ?_ | refine sq_r ?_ | refine sq_x ?_ | refine bq_n ?_ | refine bq_r ?_ | refine bq_x ?_ | refine bq_y rfl ?_ | refine pq_n ?_ | refine pq_r ?_ | refine pq_x ?_))
      refine awp_cond (b := decide ((k : Int) < R.length)) (by simp [push_cast]) (fun hb => ?_) (fun hb => ?_) <;> ((repeat (first | refine awp_seq ?_ | refine awp_block ?_ | refine awp_scope ?_ | refine awp_skip ?_ | refine awp_exit ?_ | refine awp_ret ?_ | refine sq_n ?_ | refine sq_r ?_ | refine sq_x ?_ | refine bq_n ?_ | refine bq_r ?_ | refine bq_x ?_ | refine bq_y rfl ?_ | refine pq_n ?_ | refine pq_r ?_ | refine pq_x ?_)))
      · have hlt : k < R.length := by simpa using hb
        obtain ⟨w, hw⟩ := getq hlt
        have hs : (rowsTo R (k + 1)).length = n0 + lenN w.runs := by rw [rowsTo_next hw, List.length_append, rowCells_len, hn]
        have hbd := rows_big hv hR (i := k + 1) hlt
        have c2 := length_ok w.runs (hR.2 w (List.mem_of_getElem? hw)) (fine_rv (validR_at hv hw).2)
        have e0 := wrap_i64 (n := (k : Int) + 1) (by omega) (by omega)
        have e2 := wrap_i64 (n := (n0 : Int) + (lenN w.runs : Nat)) (by omega) (by omega)
        have e3 : (n0 : Int) + (lenN w.runs : Nat) = ((rowsTo R (k + 1)).length : Nat) := by rw [hs]; omega
        rw [e3] at e2
        generalize hn1 : (rowsTo R (k + 1)).length = n1 at *
        obtain ⟨y, ru⟩ := w
        simp only at c2 e3
        generalize lenN ru = m at *
        refine awp_region cx [] fun K hK => ?_
        simp [push_cast, hw, Row.row]
        repeat (refine And.intro (by clear hK; intros; first | omega | (simp_all; done) | (simp_all <;> omega)) ?_)
        refine hK _ ?_; clear hK K; (repeat (first | refine awp_seq ?_ | refine awp_block ?_ | refine awp_scope ?_ | refine awp_skip ?_ | refine awp_exit ?_ | refine awp_ret ?_ | refine sq_n ?_ | refine sq_r ?_ | refine sq_x ?_ | refine bq_n ?_ | refine bq_r ?_ | refine bq_x ?_ | refine bq_y rfl ?_ | refine pq_n ?_ | refine pq_r ?_ | refine pq_x ?_))
        refine awp_region cx [(3, .p (.int .i64 m))] fun K hK => ?_
        simp [push_cast, c2, e2, e3, Row.row]
        repeat (refine And.intro (by clear hK; intros; first | omega | (simp_all; done) | (simp_all <;> omega)) ?_)
        refine hK _ ?_; clear hK K; (repeat (first | refine awp_seq ?_ | refine awp_block ?_ | refine awp_scope ?_ | refine awp_skip ?_ | refine awp_exit ?_ | refine awp_ret ?_ | refine sq_n ?_ | refine sq_r ?_ | refine sq_x ?_ | refine bq_n ?_ | refine bq_r ?_ | refine bq_x ?_ | refine bq_y rfl ?_ | refine pq_n ?_ | refine pq_r ?_ | refine pq_x ?_))
        refine awp_region cx [] fun K hK => ?_
        simp [push_cast, e0]
        repeat (refine And.intro (by clear hK; intros; first | omega | (simp_all; done) | (simp_all <;> omega)) ?_)
        refine hK _ ?_; clear hK K; (repeat (first | refine awp_seq ?_ | refine awp_block ?_ | refine awp_scope ?_ | refine awp_skip ?_ | refine awp_exit ?_ | refine awp_ret ?_ | refine sq_n ?_ | refine sq_r ?_ | refine sq_x ?_ | refine bq_n ?_ | refine bq_r ?_ | refine bq_x ?_ | refine bq_y rfl ?_ | refine pq_n ?_ | refine pq_r ?_ | refine pq_x ?_))
        refine ⟨(k + 1, n1), ⟨hlt, hn1.symm⟩, by simp only; omega, ?_⟩
        refine weak_of [] rfl (by simp [upT, up, upL, push_cast]) (by simp [upH, upR, upL, up, push_cast]) (by simp [namesOk, push_cast]) (by simp [olds])
      · have hge : k = R.length := by simp at hb; omega
        subst hge
        rw [rowsTo_all] at hn
        subst hn
        refine awp_region cx [] fun K hK => ?_
        simp [push_cast]
        repeat (refine And.intro (by clear hK; intros; first | omega | (simp_all; done) | (simp_all <;> omega)) ?_)
        refine hK _ ?_; clear hK K; (repeat (first | refine awp_seq ?_ | refine awp_block ?_ | refine awp_scope ?_ | refine awp_skip ?_ | refine awp_exit ?_ | refine awp_ret ?_ | refine sq_n ?_ | refine sq_r ?_ | refine sq_x ?_ | refine bq_n ?_ | refine bq_r ?_ | refine bq_x ?_ | refine bq_y rfl ?_ | refine pq_n ?_ | refine pq_r ?_ | refine pq_x ?_))
        simp [push_cast]

theorem rcount_ok (R : List Row) (hR : smallR R) : PC Try.prog 36 [.agg (regRow R)] (.p (.int .i64 (countR R))) := by
  have c1 := validR_ok R hR
  have hl := hR.1
  have hC : countR R = if validR R then (regCells R).length else 0 := rfl
  generalize hv : validR R = v at *
  refine pc_of_awp cx (fn := Try.f36) (c := _) Try.func36 rfl rfl (Nat.le_of_ble_eq_true rfl) ?_
  rw [Try.ntmps36]; (repeat (first | refine awp_seq ?_ | refine awp_block ?_ | refine awp_scope ?_ | refine awp_skip ?_ | refine awp_exit ?_ | refine awp_ret ?_ | refine sq_n ?_ | refine sq_r ?_ | refine sq_x ?_ | refine bq_n ?_ | refine bq_r ?_ | refine bq_x ?_ | refine bq_y rfl ?_ | refine pq_n ?_ | refine pq_r ?_ | refine pq_x ?_))
  refine awp_region cx [] fun K hK => ?_
  simp [push_cast]
  repeat (refine And.intro (by clear hK; intros; first | omega | (simp_all; done) | (simp_all <;> omega)) ?_)
  refine hK _ ?_; clear hK K; (repeat (first | refine awp_seq ?_ | refine awp_block ?_ | refine awp_scope ?_ | refine awp_skip ?_ | refine awp_exit ?_ | refine awp_ret ?_ | refine sq_n ?_ | refine sq_r ?_ | refine sq_x ?_ | refine bq_n ?_ | refine bq_r ?_ | refine bq_x ?_ | refine bq_y rfl ?_ | refine pq_n ?_ | refine pq_r ?_ | refine pq_x ?_))
  refine awp_region cx [] fun K hK => ?_
  simp [push_cast]
  repeat (refine And.intro (by clear hK; intros; first | omega | (simp_all; done) | (simp_all <;> omega)) ?_)
  refine hK _ ?_; clear hK K; (repeat (first | refine awp_seq ?_ | refine awp_block ?_ | refine awp_scope ?_ | refine awp_skip ?_ | refine awp_exit ?_ | refine awp_ret ?_ | refine sq_n ?_ | refine sq_r ?_ | refine sq_x ?_ | refine bq_n ?_ | refine bq_r ?_ | refine bq_x ?_ | refine bq_y rfl ?_ | refine pq_n ?_ | refine pq_r ?_ | refine pq_x ?_))
  refine awp_region cx [(1, .p (.bool v))] fun K hK => ?_
  simp [push_cast, c1]
  repeat (refine And.intro (by clear hK; intros; first | omega | (simp_all; done) | (simp_all <;> omega)) ?_)
  refine hK _ ?_; clear hK K; (repeat (first | refine awp_seq ?_ | refine awp_block ?_ | refine awp_scope ?_ | refine awp_skip ?_ | refine awp_exit ?_ | refine awp_ret ?_ | refine sq_n ?_ | refine sq_r ?_ | refine sq_x ?_ | refine bq_n ?_ | refine bq_r ?_ | refine bq_x ?_ | refine bq_y rfl ?_ | refine pq_n ?_ | refine pq_r ?_ | refine pq_x ?_))
  refine awp_cond (b := !v) (by simp [push_cast]) (fun hb => ?_) (fun hb => ?_) <;> ((repeat (first | refine awp_seq ?_ | refine awp_block ?_ | refine awp_scope ?_ | refine awp_skip ?_ | refine awp_exit ?_ | refine awp_ret ?_ | refine sq_n ?_ | refine sq_r ?_ | refine sq_x ?_ | refine bq_n ?_ | refine bq_r ?_ | refine bq_x ?_ | refine bq_y rfl ?_ | refine pq_n ?_ | refine pq_r ?_ | refine pq_x ?_)))
  · simp at hb
    rw [hC, hb]
    refine awp_region cx [] fun K hK => ?_
    simp [push_cast]
    repeat (refine And.intro (by clear hK; intros; first | omega | (simp_all; done) | (simp_all <;> omega)) ?_)
    refine hK _ ?_; clear hK K; (repeat (first | refine awp_seq ?_ | refine awp_block ?_ | refine awp_scope ?_ | refine awp_skip ?_ | refine awp_exit ?_ | refine awp_ret ?_ | refine sq_n ?_ | refine sq_r ?_ | refine sq_x ?_ | refine bq_n ?_ | refine bq_r ?_ | refine bq_x ?_ | refine bq_y rfl ?_ | refine pq_n ?_ | refine pq_r ?_ | refine pq_x ?_))
    simp [push_cast]
  · simp at hb
    rw [hb] at hv hC
    rw [hC, if_pos rfl]
    clear hC
    refine awp_region cx [] fun K hK => ?_
    simp [push_cast]
    repeat (refine And.intro (by clear hK; intros; first | omega | (simp_all; done) | (simp_all <;> omega)) ?_)
    refine hK _ ?_; clear hK K; (repeat (first | refine awp_seq ?_ | refine awp_block ?_ | refine awp_scope ?_ | refine awp_skip ?_ | refine awp_exit ?_ | refine awp_ret ?_ | refine sq_n ?_ | refine sq_r ?_ | refine sq_x ?_ | refine bq_n ?_ | refine bq_r ?_ | refine bq_x ?_ | refine bq_y rfl ?_ | refine pq_n ?_ | refine pq_r ?_ | refine pq_x ?_))
    refine awp_loop (β := Nat × Nat) (fun b => ⟨52, [(1, .ptr 0 0 0), (3, .d (.int .i64 b.2)), (4, .d (.int .i64 b.1))], [(0, some ⟨24, 1, [(regRow R).map .d]⟩)], 1⟩) (fun b => b.1 ≤ R.length ∧ b.2 = (rowsTo R b.1).length) (fun b => R.length - b.1) (0, 0) ?_ ⟨Nat.zero_le _, by simp [rowsTo]⟩ ?_
    · refine weak_of [(0, some 0)] rfl (by simp [upT, up, upL, push_cast]) (by simp [upH, upR, upL, up, push_cast]) (by simp [namesOk, push_cast]) (by simp [olds])
    · rintro ⟨k, n0⟩ ⟨hk, hn⟩
      simp only at hk hn
      (repeat (first | refine awp_seq ?_ | refine awp_block ?_ | refine awp_scope ?_ | refine awp_skip ?_ | refine awp_exit ?_ | refine awp_ret ?_ | refine sq_n ?_ | refine sq_r ?_ | refine sq_x ?_ | refine bq_n ?_ | refine bq_r ?_ | refine bq_x ?_ | refine bq_y rfl ?_ | refine pq_n ?_ | refine pq_r ?_ | refine pq_x ?_))
      refine awp_region cx [] fun K hK => ?_
      simp [push_cast]
      repeat (refine And.intro (by clear hK; intros; first | omega | (simp_all; done) | (simp_all <;> omega)) ?_)
      refine hK _ ?_; clear hK K; (repeat (first | refine awp_seq ?_ | refine awp_block ?_ | refine awp_scope ?_ | refine awp_skip ?_ | refine awp_exit ?_ | refine awp_ret ?_ | refine sq_n ?_ | refine sq_r ?_ | refine sq_x ?_ | refine bq_n ?_ | refine bq_r ?_ | refine bq_x ?_ | refine bq_y rfl ?_ | refine pq_n ?_ | refine pq_r ?_ | refine pq_x ?_))
      refine awp_cond (b := decide ((k : Int) < R.length)) (by simp [push_cast]) (fun hb => ?_) (fun hb => ?_) <;> ((repeat (first | refine awp_seq ?_ | refine awp_block ?_ | refine awp_scope ?_ | refine awp_skip ?_ | refine awp_exit ?_ | refine awp_ret ?_ | refine sq_n ?_ | refine sq_r ?_ | refine sq_x ?_ | refine bq_n ?_ | refine bq_r ?_ | refine bq_x ?_ | refine bq_y rfl ?_ | refine pq_n ?_ | refine pq_r ?_ | refine pq_x ?_)))
      · have hlt : k < R.length := by simpa using hb
        obtain ⟨w, hw⟩ := getq hlt
        have hs : (rowsTo R (k + 1)).length = n0 + lenN w.runs := by rw [rowsTo_next hw, List.length_append, rowCells_len, hn]
        have hbd := rows_big hv hR (i := k + 1) hlt
        have hwl := hR.2 w (List.mem_of_getElem? hw)
        have hfi := (validR_at hv hw).2
        have e0 := wrap_i64 (n := (k : Int) + 1) (by omega) (by omega)
        refine awp_region cx [] fun K hK => ?_
        simp [push_cast]
        repeat (refine And.intro (by clear hK; intros; first | omega | (simp_all; done) | (simp_all <;> omega)) ?_)
        refine hK _ ?_; clear hK K; (repeat (first | refine awp_seq ?_ | refine awp_block ?_ | refine awp_scope ?_ | refine awp_skip ?_ | refine awp_exit ?_ | refine awp_ret ?_ | refine sq_n ?_ | refine sq_r ?_ | refine sq_x ?_ | refine bq_n ?_ | refine bq_r ?_ | refine bq_x ?_ | refine bq_y rfl ?_ | refine pq_n ?_ | refine pq_r ?_ | refine pq_x ?_))
        refine awp_loop (β := Nat × Nat) (fun b => ⟨52, [(1, .ptr 0 0 0), (3, .d (.int .i64 b.2)), (4, .d (.int .i64 k)), (5, .d (.int .i64 b.1))], [(0, some ⟨24, 1, [(regRow R).map .d]⟩)], 1⟩) (fun b => b.1 ≤ w.runs.length ∧ b.2 = n0 + lenN (w.runs.take b.1)) (fun b => w.runs.length - b.1) (0, n0) ?_ ⟨Nat.zero_le _, by simp [lenN]⟩ ?_
        · refine weak_of [(0, some 0)] rfl (by simp [upT, up, upL, push_cast]) (by simp [upH, upR, upL, up, push_cast]) (by simp [namesOk, push_cast]) (by simp [olds])
        · rintro ⟨j, n1⟩ ⟨hj, hn1⟩
          simp only at hj hn1
          (repeat (first | refine awp_seq ?_ | refine awp_block ?_ | refine awp_scope ?_ | refine awp_skip ?_ | refine awp_exit ?_ | refine awp_ret ?_ | refine sq_n ?_ | refine sq_r ?_ | refine sq_x ?_ | refine bq_n ?_ | refine bq_r ?_ | refine bq_x ?_ | refine bq_y rfl ?_ | refine pq_n ?_ | refine pq_r ?_ | refine pq_x ?_))
          refine awp_region cx [] fun K hK => ?_
          simp [push_cast, hw, Row.row]
          repeat (refine And.intro (by clear hK; intros; first | omega | (simp_all; done) | (simp_all <;> omega)) ?_)
          refine hK _ ?_; clear hK K; (repeat (first | refine awp_seq ?_ | refine awp_block ?_ | refine awp_scope ?_ | refine awp_skip ?_ | refine awp_exit ?_ | refine awp_ret ?_ | refine sq_n ?_ | refine sq_r ?_ | refine sq_x ?_ | refine bq_n ?_ | refine bq_r ?_ | refine bq_x ?_ | refine bq_y rfl ?_ | refine pq_n ?_ | refine pq_r ?_ | refine pq_x ?_))
          refine awp_cond (b := decide ((j : Int) < w.runs.length)) (by simp [push_cast]) (fun hb => ?_) (fun hb => ?_) <;> ((repeat (first | refine awp_seq ?_ | refine awp_block ?_ | refine awp_scope ?_ | refine awp_skip ?_ | refine awp_exit ?_ | refine awp_ret ?_ | refine sq_n ?_ | refine sq_r ?_ | refine sq_x ?_ | refine bq_n ?_ | refine bq_r ?_ | refine bq_x ?_ | refine bq_y rfl ?_ | refine pq_n ?_ | refine pq_r ?_ | refine pq_x ?_)))
          · have hjl : j < w.runs.length := by simpa using hb
            obtain ⟨r, hr⟩ := getq hjl
            have hs2 := lenN_take hr
            have hbj := lenN_bound (fine_rv hfi) j (by omega)
            have hbig := rows_big hv hR hk
            have hrf := fine_at hfi hr
            obtain ⟨ra, rb⟩ := r
            simp only at hs2 hrf
            have e1 := wrap_i64 (n := (j : Int) + 1) (by omega) (by omega)
            have e4 := wrap_i64 (n := rb - ra) (by omega) (by omega)
            have e2 := wrap_i64 (n := (n1 : Int) + (rb - ra)) (by omega) (by omega)
            have e3 : (n1 : Int) + (rb - ra) = ((n0 + lenN (w.runs.take (j + 1)) : Nat) : Int) := by rw [hs2]; omega
            generalize hn2 : n0 + lenN (w.runs.take (j + 1)) = n2 at *
            rw [e3] at e2
            refine awp_region_draw cx mixed [] fun K hK => ?_
            simp [push_cast, hw, hr, e4, e2, e3, Row.row, Run.row]
            repeat (refine And.intro (by clear hK; intros; first | omega | (simp_all; done) | (simp_all <;> omega)) ?_)
            refine hK _ _ (by kernel_rfl) ?_; clear hK K; (repeat (first | refine awp_seq ?_ | refine awp_block ?_ | refine awp_scope ?_ | refine awp_skip ?_ | refine awp_exit ?_ | refine awp_ret ?_ | refine sq_n ?_ | refine sq_r ?_ | refine sq_x ?_ | refine bq_n ?_ | refine bq_r ?_ | refine bq_x ?_ | refine bq_y rfl ?_ | refine pq_n ?_ | refine pq_r ?_ | refine pq_x ?_))
            refine awp_region cx [] fun K hK => ?_
            simp [push_cast, e1]
            repeat (refine And.intro (by clear hK; intros; first | omega | (simp_all; done) | (simp_all <;> omega)) ?_)
            refine hK _ ?_; clear hK K; (repeat (first | refine awp_seq ?_ | refine awp_block ?_ | refine awp_scope ?_ | refine awp_skip ?_ | refine awp_exit ?_ | refine awp_ret ?_ | refine sq_n ?_ | refine sq_r ?_ | refine sq_x ?_ | refine bq_n ?_ | refine bq_r ?_ | refine bq_x ?_ | refine bq_y rfl ?_ | refine pq_n ?_ | refine pq_r ?_ | refine pq_x ?_))
            refine ⟨(j + 1, n2), ⟨hjl, hn2.symm⟩, by simp only; omega, ?_⟩
            refine weak_of [(0, some 0)] rfl (by simp [upT, up, upL, push_cast]) (by simp [upH, upR, upL, up, push_cast]) (by simp [namesOk, push_cast]) (by simp [olds])
          · have hjn : j = w.runs.length := by simp at hb; omega
            subst hjn
            rw [List.take_length] at hn1
            rw [← hn1] at hs
            refine awp_region cx [] fun K hK => ?_
            simp [push_cast, e0]
            repeat (refine And.intro (by clear hK; intros; first | omega | (simp_all; done) | (simp_all <;> omega)) ?_)
            refine hK _ ?_; clear hK K; (repeat (first | refine awp_seq ?_ | refine awp_block ?_ | refine awp_scope ?_ | refine awp_skip ?_ | refine awp_exit ?_ | refine awp_ret ?_ | refine sq_n ?_ | refine sq_r ?_ | refine sq_x ?_ | refine bq_n ?_ | refine bq_r ?_ | refine bq_x ?_ | refine bq_y rfl ?_ | refine pq_n ?_ | refine pq_r ?_ | refine pq_x ?_))
            refine ⟨(k + 1, n1), ⟨hlt, hs.symm⟩, by simp only; omega, ?_⟩
            refine weak_of [(0, some 0)] rfl (by simp [upT, up, upL, push_cast]) (by simp [upH, upR, upL, up, push_cast]) (by simp [namesOk, push_cast]) (by simp [olds])
      · have hge : k = R.length := by simp at hb; omega
        subst hge
        rw [rowsTo_all] at hn
        subst hn
        refine awp_region cx [] fun K hK => ?_
        simp [push_cast]
        repeat (refine And.intro (by clear hK; intros; first | omega | (simp_all; done) | (simp_all <;> omega)) ?_)
        refine hK _ ?_; clear hK K; (repeat (first | refine awp_seq ?_ | refine awp_block ?_ | refine awp_scope ?_ | refine awp_skip ?_ | refine awp_exit ?_ | refine awp_ret ?_ | refine sq_n ?_ | refine sq_r ?_ | refine sq_x ?_ | refine bq_n ?_ | refine bq_r ?_ | refine bq_x ?_ | refine bq_y rfl ?_ | refine pq_n ?_ | refine pq_r ?_ | refine pq_x ?_))
        simp [push_cast]

/-! Small regions. -/
def smallB (R : List Row) : Bool := decide (R.length ≤ 40) && R.all (fun w => decide (w.runs.length ≤ 40)) && decide (countR R ≤ 600)
theorem small_of {R : List Row} (h1 : R.length ≤ 40) (h2 : ∀ w ∈ R, w.runs.length ≤ 40) : smallR R := ⟨by omega, fun w hw => by have := h2 w hw; omega⟩
theorem smallB_facts {R : List Row} (h : smallB R = true) : R.length ≤ 40 ∧ (∀ w ∈ R, w.runs.length ≤ 40) ∧ countR R ≤ 600 := by
  simp [smallB] at h
  exact ⟨h.1.1, h.1.2, h.2⟩
theorem small_ok (R : List Row) : PC Try.prog 23 [.agg (regRow R)] (.p (.bool (smallB R))) := by
  refine pc_of_awp cx (fn := Try.f23) (c := _) Try.func23 rfl rfl (Nat.le_of_ble_eq_true rfl) ?_
  rw [Try.ntmps23]; (repeat (first | refine awp_seq ?_ | refine awp_block ?_ | refine awp_scope ?_ | refine awp_skip ?_ | refine awp_exit ?_ | refine awp_ret ?_ | refine sq_n ?_ | refine sq_r ?_ | refine sq_x ?_ | refine bq_n ?_ | refine bq_r ?_ | refine bq_x ?_ | refine bq_y rfl ?_ | refine pq_n ?_ | refine pq_r ?_ | refine pq_x ?_))
  refine awp_region cx [] fun K hK => ?_
  simp [push_cast]
  repeat (refine And.intro (by clear hK; intros; first | omega | (simp_all; done) | (simp_all <;> omega)) ?_)
  refine hK _ ?_; clear hK K; (repeat (first | refine awp_seq ?_ | refine awp_block ?_ | refine awp_scope ?_ | refine awp_skip ?_ | refine awp_exit ?_ | refine awp_ret ?_ | refine sq_n ?_ | refine sq_r ?_ | refine sq_x ?_ | refine bq_n ?_ | refine bq_r ?_ | refine bq_x ?_ | refine bq_y rfl ?_ | refine pq_n ?_ | refine pq_r ?_ | refine pq_x ?_))
  refine awp_region cx [] fun K hK => ?_
  simp [push_cast]
  repeat (refine And.intro (by clear hK; intros; first | omega | (simp_all; done) | (simp_all <;> omega)) ?_)
  refine hK _ ?_; clear hK K; (repeat (first | refine awp_seq ?_ | refine awp_block ?_ | refine awp_scope ?_ | refine awp_skip ?_ | refine awp_exit ?_ | refine awp_ret ?_ | refine sq_n ?_ | refine sq_r ?_ | refine sq_x ?_ | refine bq_n ?_ | refine bq_r ?_ | refine bq_x ?_ | refine bq_y rfl ?_ | refine pq_n ?_ | refine pq_r ?_ | refine pq_x ?_))
  refine awp_cond (b := decide (40 < (R.length : Int))) (by simp [push_cast]) (fun hb => ?_) (fun hb => ?_) <;> ((repeat (first | refine awp_seq ?_ | refine awp_block ?_ | refine awp_scope ?_ | refine awp_skip ?_ | refine awp_exit ?_ | refine awp_ret ?_ | refine sq_n ?_ | refine sq_r ?_ | refine sq_x ?_ | refine bq_n ?_ | refine bq_r ?_ | refine bq_x ?_ | refine bq_y rfl ?_ | refine pq_n ?_ | refine pq_r ?_ | refine pq_x ?_)))
  · have hb : ¬ R.length ≤ 40 := by simp at hb; omega
    refine awp_region cx [] fun K hK => ?_
    simp [push_cast]
    repeat (refine And.intro (by clear hK; intros; first | omega | (simp_all; done) | (simp_all <;> omega)) ?_)
    refine hK _ ?_; clear hK K; (repeat (first | refine awp_seq ?_ | refine awp_block ?_ | refine awp_scope ?_ | refine awp_skip ?_ | refine awp_exit ?_ | refine awp_ret ?_ | refine sq_n ?_ | refine sq_r ?_ | refine sq_x ?_ | refine bq_n ?_ | refine bq_r ?_ | refine bq_x ?_ | refine bq_y rfl ?_ | refine pq_n ?_ | refine pq_r ?_ | refine pq_x ?_))
    simp [push_cast, smallB, hb]
  · have h40 : R.length ≤ 40 := by simp at hb; omega
    refine awp_region cx [] fun K hK => ?_
    simp [push_cast]
    repeat (refine And.intro (by clear hK; intros; first | omega | (simp_all; done) | (simp_all <;> omega)) ?_)
    refine hK _ ?_; clear hK K; (repeat (first | refine awp_seq ?_ | refine awp_block ?_ | refine awp_scope ?_ | refine awp_skip ?_ | refine awp_exit ?_ | refine awp_ret ?_ | refine sq_n ?_ | refine sq_r ?_ | refine sq_x ?_ | refine bq_n ?_ | refine bq_r ?_ | refine bq_x ?_ | refine bq_y rfl ?_ | refine pq_n ?_ | refine pq_r ?_ | refine pq_x ?_))
    refine awp_loop (β := Nat) (fun k => ⟨26, [(1, .ptr 0 0 0), (3, .d (.int .i64 k))], [(0, some ⟨24, 1, [(regRow R).map .d]⟩)], 1⟩) (fun k => k ≤ R.length ∧ ∀ w ∈ R.take k, w.runs.length ≤ 40) (fun k => R.length - k) 0 ?_ ⟨Nat.zero_le _, by simp⟩ ?_
    · refine weak_of [(0, some 0)] rfl (by simp [upT, up, upL, push_cast]) (by simp [upH, upR, upL, up, push_cast]) (by simp [namesOk, push_cast]) (by simp [olds])
    · rintro k ⟨hk, hall⟩
      (repeat (first | refine awp_seq ?_ | refine awp_block ?_ | refine awp_scope ?_ | refine awp_skip ?_ | refine awp_exit ?_ | refine awp_ret ?_ | refine sq_n ?_ | refine sq_r ?_ | refine sq_x ?_ | refine bq_n ?_ | refine bq_r ?_ | refine bq_x ?_ | refine bq_y rfl ?_ | refine pq_n ?_ | refine pq_r ?_ | refine pq_x ?_))
      refine awp_region cx [] fun K hK => ?_
      simp [push_cast]
      repeat (refine And.intro (by clear hK; intros; first | omega | (simp_all; done) | (simp_all <;> omega)) ?_)
      refine hK _ ?_; clear hK K; (repeat (first | refine awp_seq ?_ | refine awp_block ?_ | refine awp_scope ?_ | refine awp_skip ?_ | refine awp_exit ?_ | refine awp_ret ?_ | refine sq_n ?_ | refine sq_r ?_ | refine sq_x ?_ | refine bq_n ?_ | refine bq_r ?_ | refine bq_x ?_ | refine bq_y rfl ?_ | refine pq_n ?_ | refine pq_r ?_ | refine pq_x ?_))
      refine awp_cond (b := decide ((k : Int) < R.length)) (by simp [push_cast]) (fun hb => ?_) (fun hb => ?_) <;> ((repeat (first | refine awp_seq ?_ | refine awp_block ?_ | refine awp_scope ?_ | refine awp_skip ?_ | refine awp_exit ?_ | refine awp_ret ?_ | refine sq_n ?_ | refine sq_r ?_ | refine sq_x ?_ | refine bq_n ?_ | refine bq_r ?_ | refine bq_x ?_ | refine bq_y rfl ?_ | refine pq_n ?_ | refine pq_r ?_ | refine pq_x ?_)))
      · have hlt : k < R.length := by simpa using hb
        obtain ⟨w, hw⟩ := getq hlt
        have e0 := wrap_i64 (n := (k : Int) + 1) (by omega) (by omega)
        have hwm := List.mem_of_getElem? hw
        obtain ⟨y, ru⟩ := w
        refine awp_region cx [] fun K hK => ?_
        simp [push_cast, hw, Row.row]
        repeat (refine And.intro (by clear hK; intros; first | omega | (simp_all; done) | (simp_all <;> omega)) ?_)
        refine hK _ ?_; clear hK K; (repeat (first | refine awp_seq ?_ | refine awp_block ?_ | refine awp_scope ?_ | refine awp_skip ?_ | refine awp_exit ?_ | refine awp_ret ?_ | refine sq_n ?_ | refine sq_r ?_ | refine sq_x ?_ | refine bq_n ?_ | refine bq_r ?_ | refine bq_x ?_ | refine bq_y rfl ?_ | refine pq_n ?_ | refine pq_r ?_ | refine pq_x ?_))
        refine awp_cond (b := decide (40 < (ru.length : Int))) (by simp [push_cast]) (fun hb => ?_) (fun hb => ?_) <;> ((repeat (first | refine awp_seq ?_ | refine awp_block ?_ | refine awp_scope ?_ | refine awp_skip ?_ | refine awp_exit ?_ | refine awp_ret ?_ | refine sq_n ?_ | refine sq_r ?_ | refine sq_x ?_ | refine bq_n ?_ | refine bq_r ?_ | refine bq_x ?_ | refine bq_y rfl ?_ | refine pq_n ?_ | refine pq_r ?_ | refine pq_x ?_)))
        · have hb : 40 < ru.length := by simp at hb; omega
          have hno : smallB R = false := by
            rw [Bool.eq_false_iff]
            intro h
            have := (smallB_facts h).2.1 _ hwm
            simp only at this
            omega
          refine awp_region cx [] fun K hK => ?_
          simp [push_cast]
          repeat (refine And.intro (by clear hK; intros; first | omega | (simp_all; done) | (simp_all <;> omega)) ?_)
          refine hK _ ?_; clear hK K; (repeat (first | refine awp_seq ?_ | refine awp_block ?_ | refine awp_scope ?_ | refine awp_skip ?_ | refine awp_exit ?_ | refine awp_ret ?_ | refine sq_n ?_ | refine sq_r ?_ | refine sq_x ?_ | refine bq_n ?_ | refine bq_r ?_ | refine bq_x ?_ | refine bq_y rfl ?_ | refine pq_n ?_ | refine pq_r ?_ | refine pq_x ?_))
          simp [push_cast, hno]
        · have hb : ru.length ≤ 40 := by simp at hb; omega
          refine awp_region cx [] fun K hK => ?_
          simp [push_cast, e0]
          repeat (refine And.intro (by clear hK; intros; first | omega | (simp_all; done) | (simp_all <;> omega)) ?_)
          refine hK _ ?_; clear hK K; (repeat (first | refine awp_seq ?_ | refine awp_block ?_ | refine awp_scope ?_ | refine awp_skip ?_ | refine awp_exit ?_ | refine awp_ret ?_ | refine sq_n ?_ | refine sq_r ?_ | refine sq_x ?_ | refine bq_n ?_ | refine bq_r ?_ | refine bq_x ?_ | refine bq_y rfl ?_ | refine pq_n ?_ | refine pq_r ?_ | refine pq_x ?_))
          refine ⟨k + 1, ⟨hlt, fun v hv => ?_⟩, by omega, ?_⟩
          · rw [take_get hw] at hv
            rcases List.mem_append.1 hv with hv | hv
            · exact hall v hv
            · simp at hv; subst hv; exact hb
          · refine weak_of [(0, some 0)] rfl (by simp [upT, up, upL, push_cast]) (by simp [upH, upR, upL, up, push_cast]) (by simp [namesOk, push_cast]) (by simp [olds])
      · have hge : k = R.length := by simp at hb; omega
        subst hge
        rw [List.take_length] at hall
        have c1 := rcount_ok R (small_of h40 hall)
        have hs : smallB R = decide (countR R ≤ 600) := by
          have : R.all (fun w => decide (w.runs.length ≤ 40)) = true := List.all_eq_true.2 fun w hw => by simpa using hall w hw
          simp [smallB, h40, this]
        rw [hs]
        generalize countR R = n at *
        refine awp_region cx [(1, .p (.int .i64 n))] fun K hK => ?_
        simp [push_cast, c1]
        repeat (refine And.intro (by clear hK; intros; first | omega | (simp_all; done) | (simp_all <;> omega)) ?_)
        refine hK _ ?_; clear hK K; (repeat (first | refine awp_seq ?_ | refine awp_block ?_ | refine awp_scope ?_ | refine awp_skip ?_ | refine awp_exit ?_ | refine awp_ret ?_ | refine sq_n ?_ | refine sq_r ?_ | refine sq_x ?_ | refine bq_n ?_ | refine bq_r ?_ | refine bq_x ?_ | refine bq_y rfl ?_ | refine pq_n ?_ | refine pq_r ?_ | refine pq_x ?_))
        simp [push_cast]
        omega
end Go.Proofs.Ytmfkfgonedgjnaa
