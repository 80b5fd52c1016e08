/-
  The walks of this seat's functions and the plain laws behind them: part U3.
-/
import Derived.Test.YtmfkfgonedgjnaaU2
set_option linter.unusedVariables false
set_option linter.unusedSimpArgs false
namespace Go.Proofs.Ytmfkfgonedgjnaa
open Go.Abs

/-! Regions moved. -/
def shRun (d : Int) (r : Run) : Run := ⟨r.a + d, r.b + d⟩
def shRow (dx dy : Int) (w : Row) : Row := ⟨w.y + dy, w.runs.map (shRun dx)⟩
def inB (R : List Row) (dx dy : Int) : Bool := decide (-4096 - (boxLo R).x ≤ dx) && decide (dx ≤ 4095 - (boxHi R).x) && decide (-4096 - (boxLo R).y ≤ dy) && decide (dy ≤ 4095 - (boxHi R).y)
def shR (R : List Row) (dx dy : Int) : List Row := if some? R && inB R dx dy then R.map (shRow dx dy) else []
def shE (R : List Row) (dx dy : Int) : Int := if validR R then (if R.length = 0 then 0 else if inB R dx dy then 0 else 8) else 1
abbrev shD (R : List Row) (dx dy : Int) : D := .tup [.agg (regRow (shR R dx dy)), .int .i64 (shE R dx dy)]

theorem low_le {R : List Row} : ∀ (n : Nat) (w : Row), n ≤ R.length → w ∈ R.take n → lowX (R.take n) ≤ fstA w ∧ lstB w - 1 ≤ highX (R.take n)
  | 0, w, _, h => by simp at h
  | n + 1, w, hn, h => by
    obtain ⟨v, hv⟩ := getq (show n < R.length by omega)
    rw [lowX_take hv, highX_take hv]
    rw [take_get hv] at h
    rcases List.mem_append.1 h with h | h
    · have := low_le n w (by omega) h; omega
    · simp at h; subst h; omega
theorem low_bd {R : List Row} (h : validR R = true) : ∀ (n : Nat), n ≤ R.length → -4096 ≤ lowX (R.take n) ∧ highX (R.take n) ≤ 4095
  | 0, _ => by simp [lowX, highX]
  | n + 1, hn => by
    obtain ⟨v, hv⟩ := getq (show n < R.length by omega)
    have ih := low_bd h n (by omega)
    obtain ⟨f, z, hf, hz, q1, q2, q3⟩ := fine_ends (validR_at h hv).2
    have g1 : fstA v = f.a := by simp [fstA, hf]
    have g2 : lstB v = z.b := by simp [lstB, hz]
    rw [lowX_take hv, highX_take hv, g1, g2]
    omega
theorem ends_lt {l : List Run} (h : fine l = true) {f z : Run} (hf : l[0]? = some f) (hz : l[l.length - 1]? = some z) : f.a < z.b := by
  by_cases e : l.length - 1 = 0
  · rw [e, hf] at hz; cases hz; have := fine_at h hf; omega
  · have := runs_lt h (l.length - 1) 0 z f (by omega) hz hf
    have := fine_at h hf
    have := fine_at h hz
    omega
theorem box_bd {R : List Row} (h : validR R = true) (hp : 0 < R.length) : -4096 ≤ lowX R ∧ lowX R ≤ highX R ∧ highX R ≤ 4095 ∧ -4096 ≤ fstY R ∧ fstY R ≤ lstY R ∧ lstY R ≤ 4095 := by
  have h1 := low_bd h R.length (Nat.le_refl _)
  rw [List.take_length] at h1
  obtain ⟨w0, hw0⟩ : ∃ w, R[0]? = some w := getq hp
  obtain ⟨w1, hw1⟩ : ∃ w, R[R.length - 1]? = some w := getq (by omega)
  have hy0 : fstY R = w0.y := by simp [fstY, hw0]
  have hy1 : lstY R = w1.y := by simp [lstY, hw1]
  have h2 := low_le (R := R) R.length w0 (Nat.le_refl _) (by rw [List.take_length]; exact List.mem_of_getElem? hw0)
  rw [List.take_length] at h2
  have v0 := validR_at h hw0
  have v1 := validR_at h hw1
  obtain ⟨f, z, hf, hz, q1, q2, q3⟩ := fine_ends v0.2
  have g1 : fstA w0 = f.a := by simp [fstA, hf]
  have g2 : lstB w0 = z.b := by simp [lstB, hz]
  have h3 := ends_lt v0.2 hf hz
  rw [g1, g2] at h2
  rw [hy0, hy1]
  have : w0.y ≤ w1.y := by
    by_cases e : R.length - 1 = 0
    · rw [e, hw0] at hw1; cases hw1; omega
    · have := rows_lt h (R.length - 1) 0 w1 w0 (by omega) hw1 hw0; omega
  omega

set_option maxHeartbeats 1000000 in
theorem rshift_ok (l : List Run) (d : Int) (hf : fine l = true) (hl : l.length ≤ 1000000) (hd : -8192 ≤ d ∧ d ≤ 8192) : PC Try.prog 67 [encRuns l, .int .i64 d] (.p (.tup [encRuns (l.map (shRun d)), .int .i64 0])) := by
  have c1 := rvalid_ok l hl
  rw [fine_rv hf] at c1
  obtain ⟨f, z, hf0, hz, q1, q2, q3⟩ := fine_ends hf
  have hm1 : 16 * (l.length : Int) ≤ 281474976710656 := by omega
  have hm2 : (l.length : Int) ≤ 9223372036854775807 := by omega
  have e1 := wrap_i64 (n := (l.length : Int) - 1) (by omega) (by omega)
  have e2 : ((l.length : Int) - 1).toNat = l.length - 1 := by omega
  have e3 : (0 : Int) ≤ (l.length : Int) - 1 := by omega
  have e4 : ((l.length : Int) == 0) = false := by simp; rintro rfl; simp at q3
  obtain ⟨fa, fb⟩ := f
  obtain ⟨za, zb⟩ := z
  simp only at q1 q2
  have d1 := wrap_i64 (n := fa + d) (by omega) (by omega)
  have d2 := wrap_i64 (n := zb + d) (by omega) (by omega)
  have n1 : ¬ d < -2097152 := by omega
  have n2 : ¬ (2097152 : Int) < d := by omega
  have n3 : ¬ fa + d < -1048576 := by omega
  have n4 : ¬ (1048576 : Int) < zb + d := by omega
  refine pc_of_awp cx (fn := Try.f67) (c := _) Try.func67 rfl rfl (Nat.le_of_ble_eq_true rfl) ?_
  rw [Try.ntmps67]; (repeat (first | refine awp_seq ?_ | refine awp_block ?_ | refine awp_scope ?_ | refine awp_skip ?_ | refine awp_exit ?_ | refine awp_ret ?_ | refine sq_n ?_ | refine sq_r ?_ | refine sq_x ?_ | refine bq_n ?_ | refine bq_r ?_ | refine bq_x ?_ | refine bq_y rfl ?_ | refine pq_n ?_ | refine pq_r ?_ | refine pq_x ?_))
  refine awp_region cx [] fun K hK => ?_
  simp [push_cast]
  repeat (refine And.intro (by clear hK; intros; first | omega | (simp_all; done) | (simp_all <;> omega)) ?_)
  refine hK _ ?_; clear hK K; (repeat (first | refine awp_seq ?_ | refine awp_block ?_ | refine awp_scope ?_ | refine awp_skip ?_ | refine awp_exit ?_ | refine awp_ret ?_ | refine sq_n ?_ | refine sq_r ?_ | refine sq_x ?_ | refine bq_n ?_ | refine bq_r ?_ | refine bq_x ?_ | refine bq_y rfl ?_ | refine pq_n ?_ | refine pq_r ?_ | refine pq_x ?_))
  refine awp_region cx [(1, .p (.bool true))] fun K hK => ?_
  simp [push_cast, c1]
  repeat (refine And.intro (by clear hK; intros; first | omega | (simp_all; done) | (simp_all <;> omega)) ?_)
  refine hK _ ?_; clear hK K; (repeat (first | refine awp_seq ?_ | refine awp_block ?_ | refine awp_scope ?_ | refine awp_skip ?_ | refine awp_exit ?_ | refine awp_ret ?_ | refine sq_n ?_ | refine sq_r ?_ | refine sq_x ?_ | refine bq_n ?_ | refine bq_r ?_ | refine bq_x ?_ | refine bq_y rfl ?_ | refine pq_n ?_ | refine pq_r ?_ | refine pq_x ?_))
  refine awp_cond (b := false) (by simp [push_cast]) (fun hb => ?_) (fun hb => ?_) <;> ((repeat (first | refine awp_seq ?_ | refine awp_block ?_ | refine awp_scope ?_ | refine awp_skip ?_ | refine awp_exit ?_ | refine awp_ret ?_ | refine sq_n ?_ | refine sq_r ?_ | refine sq_x ?_ | refine bq_n ?_ | refine bq_r ?_ | refine bq_x ?_ | refine bq_y rfl ?_ | refine pq_n ?_ | refine pq_r ?_ | refine pq_x ?_)))
  · simp at hb
  · refine awp_region cx [] fun K hK => ?_
    simp [push_cast]
    repeat (refine And.intro (by clear hK; intros; first | omega | (simp_all; done) | (simp_all <;> omega)) ?_)
    refine hK _ ?_; clear hK K; (repeat (first | refine awp_seq ?_ | refine awp_block ?_ | refine awp_scope ?_ | refine awp_skip ?_ | refine awp_exit ?_ | refine awp_ret ?_ | refine sq_n ?_ | refine sq_r ?_ | refine sq_x ?_ | refine bq_n ?_ | refine bq_r ?_ | refine bq_x ?_ | refine bq_y rfl ?_ | refine pq_n ?_ | refine pq_r ?_ | refine pq_x ?_))
    refine awp_cond (b := false) (by simp [push_cast, e4]) (fun hb => ?_) (fun hb => ?_) <;> ((repeat (first | refine awp_seq ?_ | refine awp_block ?_ | refine awp_scope ?_ | refine awp_skip ?_ | refine awp_exit ?_ | refine awp_ret ?_ | refine sq_n ?_ | refine sq_r ?_ | refine sq_x ?_ | refine bq_n ?_ | refine bq_r ?_ | refine bq_x ?_ | refine bq_y rfl ?_ | refine pq_n ?_ | refine pq_r ?_ | refine pq_x ?_)))
    · simp at hb
    · refine awp_region cx [] fun K hK => ?_
      simp [push_cast, hf0, hz, e1, e2, e3, d1, d2, n1, n2, n3, n4, Run.row]
      repeat (refine And.intro (by clear hK; intros; first | omega | (simp_all; done) | (simp_all <;> omega)) ?_)
      refine hK _ ?_; clear hK K; (repeat (first | refine awp_seq ?_ | refine awp_block ?_ | refine awp_scope ?_ | refine awp_skip ?_ | refine awp_exit ?_ | refine awp_ret ?_ | refine sq_n ?_ | refine sq_r ?_ | refine sq_x ?_ | refine bq_n ?_ | refine bq_r ?_ | refine bq_x ?_ | refine bq_y rfl ?_ | refine pq_n ?_ | refine pq_r ?_ | refine pq_x ?_))
      refine awp_cond (b := false) (by simp [push_cast, n1, n2, n3, n4]) (fun hb => ?_) (fun hb => ?_) <;> ((repeat (first | refine awp_seq ?_ | refine awp_block ?_ | refine awp_scope ?_ | refine awp_skip ?_ | refine awp_exit ?_ | refine awp_ret ?_ | refine sq_n ?_ | refine sq_r ?_ | refine sq_x ?_ | refine bq_n ?_ | refine bq_r ?_ | refine bq_x ?_ | refine bq_y rfl ?_ | refine pq_n ?_ | refine pq_r ?_ | refine pq_x ?_)))
      · simp at hb
      · refine awp_region cx [] fun K hK => ?_
        simp [push_cast, hm1, hm2]
        repeat (refine And.intro (by clear hK; intros; first | omega | (simp_all; done) | (simp_all <;> omega)) ?_)
        refine hK _ ?_; clear hK K; (repeat (first | refine awp_seq ?_ | refine awp_block ?_ | refine awp_scope ?_ | refine awp_skip ?_ | refine awp_exit ?_ | refine awp_ret ?_ | refine sq_n ?_ | refine sq_r ?_ | refine sq_x ?_ | refine bq_n ?_ | refine bq_r ?_ | refine bq_x ?_ | refine bq_y rfl ?_ | refine pq_n ?_ | refine pq_r ?_ | refine pq_x ?_))
        refine awp_region cx [] fun K hK => ?_
        simp [push_cast]
        repeat (refine And.intro (by clear hK; intros; first | omega | (simp_all; done) | (simp_all <;> omega)) ?_)
        refine hK _ ?_; clear hK K; (repeat (first | refine awp_seq ?_ | refine awp_block ?_ | refine awp_scope ?_ | refine awp_skip ?_ | refine awp_exit ?_ | refine awp_ret ?_ | refine sq_n ?_ | refine sq_r ?_ | refine sq_x ?_ | refine bq_n ?_ | refine bq_r ?_ | refine bq_x ?_ | refine bq_y rfl ?_ | refine pq_n ?_ | refine pq_r ?_ | refine pq_x ?_))
        refine awp_loop (β := Nat × List Run) (fun b => ⟨69, [(1, .d (.int .i64 d)), (6, .hs 0 0 b.2.length), (48, .d (encRuns l)), (49, .d (.int .i64 l.length)), (50, .d (.int .i64 b.1))], [(0, some ⟨60, 2, dr (b.2.map Run.row)⟩)], 1⟩) (fun b => b.1 ≤ l.length ∧ b.2.length = l.length ∧ b.2.take b.1 = (l.take b.1).map (shRun d)) (fun b => l.length - b.1) (0, List.replicate l.length ⟨0, 0⟩) ?_ ⟨Nat.zero_le _, by simp, by simp⟩ ?_
        · have hrep : List.replicate l.length [AV.d (.int .i64 0), AV.d (.int .i64 0)] = dr ((List.replicate l.length (⟨0, 0⟩ : Run)).map Run.row) := by simp [dr, Run.row]
          refine weak_of [(0, some 40)] rfl (by simp [upT, up, upL, push_cast, hrep]) (by simp [upH, upR, upL, up, push_cast, hrep]) (by simp [namesOk, push_cast]) (by simp [olds])
        · rintro ⟨k, Z⟩ ⟨hk, hZl, hZ⟩
          simp only at hk hZl hZ
          (repeat (first | refine awp_seq ?_ | refine awp_block ?_ | refine awp_scope ?_ | refine awp_skip ?_ | refine awp_exit ?_ | refine awp_ret ?_ | refine sq_n ?_ | refine sq_r ?_ | refine sq_x ?_ | refine bq_n ?_ | refine bq_r ?_ | refine bq_x ?_ | refine bq_y rfl ?_ | refine pq_n ?_ | refine pq_r ?_ | refine pq_x ?_))
          refine awp_region cx [] fun K hK => ?_
          simp [push_cast]
          repeat (refine And.intro (by clear hK; intros; first | omega | (simp_all; done) | (simp_all <;> omega)) ?_)
          refine hK _ ?_; clear hK K; (repeat (first | refine awp_seq ?_ | refine awp_block ?_ | refine awp_scope ?_ | refine awp_skip ?_ | refine awp_exit ?_ | refine awp_ret ?_ | refine sq_n ?_ | refine sq_r ?_ | refine sq_x ?_ | refine bq_n ?_ | refine bq_r ?_ | refine bq_x ?_ | refine bq_y rfl ?_ | refine pq_n ?_ | refine pq_r ?_ | refine pq_x ?_))
          refine awp_cond (b := decide ((k : Int) < l.length)) (by simp [push_cast]) (fun hb => ?_) (fun hb => ?_) <;> ((repeat (first | refine awp_seq ?_ | refine awp_block ?_ | refine awp_scope ?_ | refine awp_skip ?_ | refine awp_exit ?_ | refine awp_ret ?_ | refine sq_n ?_ | refine sq_r ?_ | refine sq_x ?_ | refine bq_n ?_ | refine bq_r ?_ | refine bq_x ?_ | refine bq_y rfl ?_ | refine pq_n ?_ | refine pq_r ?_ | refine pq_x ?_)))
          · have hlt : k < l.length := by simpa using hb
            obtain ⟨r, hr⟩ := getq hlt
            have hrb := fine_at hf hr
            have e0 := wrap_i64 (n := (k : Int) + 1) (by omega) (by omega)
            obtain ⟨ra, rb⟩ := r
            simp only at hrb
            have s1 := wrap_i64 (n := ra + d) (by omega) (by omega)
            have s2 := wrap_i64 (n := rb + d) (by omega) (by omega)
            obtain ⟨y, hy⟩ : ∃ y, Z[k]? = some y := getq (by omega)
            obtain ⟨Y, hY⟩ : ∃ Y, Y = Z.set k ⟨ra + d, rb + d⟩ := ⟨_, rfl⟩
            have hset : (dr (Z.map Run.row)).set k [.d (.int .i64 (ra + d)), .d (.int .i64 (rb + d))] = dr (Y.map Run.row) := by rw [hY]; simp [dr, List.map_set]
            have hYl : Y.length = Z.length := by rw [hY]; simp
            have hYt : Y.take (k + 1) = (l.take (k + 1)).map (shRun d) := by
              rw [hY, take_get hr, List.map_append, ← hZ, take_get (x := ⟨ra + d, rb + d⟩) (by rw [List.getElem?_set_self (by omega)]), List.take_set_of_le (by omega)]
              rfl
            clear hY
            refine awp_region cx [] fun K hK => ?_
            simp [push_cast, hr, Run.row]
            repeat (refine And.intro (by clear hK; intros; first | omega | (simp_all; done) | (simp_all <;> omega)) ?_)
            refine hK _ ?_; clear hK K; (repeat (first | refine awp_seq ?_ | refine awp_block ?_ | refine awp_scope ?_ | refine awp_skip ?_ | refine awp_exit ?_ | refine awp_ret ?_ | refine sq_n ?_ | refine sq_r ?_ | refine sq_x ?_ | refine bq_n ?_ | refine bq_r ?_ | refine bq_x ?_ | refine bq_y rfl ?_ | refine pq_n ?_ | refine pq_r ?_ | refine pq_x ?_))
            refine awp_region cx [] fun K hK => ?_
            simp [push_cast, hy, s1, s2, hset, Run.row]
            repeat (refine And.intro (by clear hK; intros; first | omega | (simp_all; done) | (simp_all <;> omega)) ?_)
            refine hK _ ?_; clear hK K; (repeat (first | refine awp_seq ?_ | refine awp_block ?_ | refine awp_scope ?_ | refine awp_skip ?_ | refine awp_exit ?_ | refine awp_ret ?_ | refine sq_n ?_ | refine sq_r ?_ | refine sq_x ?_ | refine bq_n ?_ | refine bq_r ?_ | refine bq_x ?_ | refine bq_y rfl ?_ | refine pq_n ?_ | refine pq_r ?_ | refine pq_x ?_))
            refine awp_region cx [] fun K hK => ?_
            simp [push_cast, e0]
            repeat (refine And.intro (by clear hK; intros; first | omega | (simp_all; done) | (simp_all <;> omega)) ?_)
            refine hK _ ?_; clear hK K; (repeat (first | refine awp_seq ?_ | refine awp_block ?_ | refine awp_scope ?_ | refine awp_skip ?_ | refine awp_exit ?_ | refine awp_ret ?_ | refine sq_n ?_ | refine sq_r ?_ | refine sq_x ?_ | refine bq_n ?_ | refine bq_r ?_ | refine bq_x ?_ | refine bq_y rfl ?_ | refine pq_n ?_ | refine pq_r ?_ | refine pq_x ?_))
            rw [← hYl]
            refine ⟨(k + 1, Y), ⟨hlt, by simp only; omega, hYt⟩, by simp only; omega, ?_⟩
            refine weak_of [(0, some 0)] rfl (by simp [upT, up, upL, push_cast]) (by simp [upH, upR, upL, up, push_cast]) (by simp [namesOk, push_cast]) (by simp [olds])
          · have hge : k = l.length := by simp at hb; omega
            subst hge
            rw [List.take_length, ← hZl, List.take_length] at hZ
            rw [← hZ]
            refine awp_region cx [] fun K hK => ?_
            simp [push_cast]
            repeat (refine And.intro (by clear hK; intros; first | omega | (simp_all; done) | (simp_all <;> omega)) ?_)
            refine hK _ ?_; clear hK K; (repeat (first | refine awp_seq ?_ | refine awp_block ?_ | refine awp_scope ?_ | refine awp_skip ?_ | refine awp_exit ?_ | refine awp_ret ?_ | refine sq_n ?_ | refine sq_r ?_ | refine sq_x ?_ | refine bq_n ?_ | refine bq_r ?_ | refine bq_x ?_ | refine bq_y rfl ?_ | refine pq_n ?_ | refine pq_r ?_ | refine pq_x ?_))
            have ht : List.take Z.length (Z.map Run.row) = Z.map Run.row := List.take_of_length_le (by simp)
            simp [push_cast, ht]
end Go.Proofs.Ytmfkfgonedgjnaa
