/-
  The walks of this seat's functions and the plain laws behind them: part U4.
-/
import Derived.Test.YtmfkfgonedgjnaaU3
set_option linter.unusedVariables false
set_option linter.unusedSimpArgs false
set_option maxRecDepth 100000
namespace Go.Proofs.Ytmfkfgonedgjnaa
open Go.Abs

theorem inB_box {R : List Row} (h : validR R = true) (hp : 0 < R.length) (dx dy : Int) : boxLo R = ⟨lowX R, fstY R⟩ ∧ boxHi R = ⟨highX R, lstY R⟩ ∧ some? R = true ∧ inB R dx dy = (decide (-4096 - lowX R ≤ dx) && decide (dx ≤ 4095 - highX R) && decide (-4096 - fstY R ≤ dy) && decide (dy ≤ 4095 - lstY R)) := by
  have hs : some? R = true := by simp [some?, h, hp]
  have h1 : boxLo R = ⟨lowX R, fstY R⟩ := by simp [boxLo, hs]
  have h2 : boxHi R = ⟨highX R, lstY R⟩ := by simp [boxHi, hs]
  exact ⟨h1, h2, hs, by simp [inB, h1, h2]⟩

/-- A row in the box. -/
theorem row_box {R : List Row} (h : validR R = true) {k : Nat} {w : Row} (hw : R[k]? = some w) : fstY R ≤ w.y ∧ w.y ≤ lstY R ∧ lowX R ≤ fstA w ∧ lstB w - 1 ≤ highX R := by
  have hk := (List.getElem?_eq_some_iff.1 hw).1
  obtain ⟨w0, hw0⟩ : ∃ w, R[0]? = some w := getq (by omega)
  obtain ⟨w1, hw1⟩ : ∃ w, R[R.length - 1]? = some w := getq (by omega)
  have hy0 : fstY R = w0.y := by simp [fstY, hw0]
  have hy1 : lstY R = w1.y := by simp [lstY, hw1]
  have h2 := low_le (R := R) R.length w (Nat.le_refl _) (by rw [List.take_length]; exact List.mem_of_getElem? hw)
  rw [List.take_length] at h2
  rw [hy0, hy1]
  refine ⟨?_, ?_, h2.1, h2.2⟩
  · by_cases e : k = 0
    · subst e; rw [hw0] at hw; cases hw; omega
    · have := rows_lt h k 0 w w0 (by omega) hw hw0; omega
  · by_cases e : k = R.length - 1
    · subst e; rw [hw1] at hw; cases hw; omega
    · have := rows_lt h (R.length - 1) k w1 w (by omega) hw1 hw; omega

set_option maxHeartbeats 4000000 in
theorem shift_ok (R : List Row) (dx dy : Int) (hR : smallR R) : PC Try.prog 24 [.agg (regRow R), .int .i64 dx, .int .i64 dy] (.p (shD R dx dy)) := by
  have hD : shD R dx dy = .tup [.agg (regRow (shR R dx dy)), .int .i64 (shE R dx dy)] := rfl
  have c1 := box_ok R hR
  have c2 := valid_ok R hR
  have hBD : boxD R = .tup [.agg (boxLo R).row, .agg (boxHi R).row, .bool (some? R)] := rfl
  rw [hBD] at c1
  rw [hD]
  have hl := hR.1
  have hsv : some? R = (validR R && decide (0 < R.length)) := rfl
  have hE : shE R dx dy = if validR R then (if R.length = 0 then 0 else if inB R dx dy then 0 else 8) else 1 := rfl
  have hS : shR R dx dy = if some? R && inB R dx dy then R.map (shRow dx dy) else [] := rfl
  cases hv : validR R with
  | false =>
    have h1 : shR R dx dy = [] := by rw [hS, hsv, hv]; simp
    have h2 : shE R dx dy = 1 := by rw [hE, hv]; simp
    rw [h1, h2]
    rw [hv] at c2
    clear hE hS h1 h2 hsv
    generalize boxLo R = lo at *
    generalize boxHi R = hi at *
    generalize some? R = so at *
    refine pc_of_awp cx (fn := Try.f24) (c := _) Try.func24 rfl rfl (Nat.le_of_ble_eq_true rfl) ?_
    rw [Try.ntmps24]; (repeat (first | refine awp_seq ?_ | refine awp_block ?_ | refine awp_scope ?_ | refine awp_skip ?_ | refine awp_exit ?_ | refine awp_ret ?_ | refine sq_n ?_ | refine sq_r ?_ | refine sq_x ?_ | refine bq_n ?_ | refine bq_r ?_ | refine bq_x ?_ | refine bq_y rfl ?_ | refine pq_n ?_ | refine pq_r ?_ | refine pq_x ?_))
    refine awp_region cx [] fun K hK => ?_
    simp [push_cast]
    repeat (refine And.intro (by clear hK; intros; first | omega | (simp_all; done) | (simp_all <;> omega)) ?_)
    refine hK _ ?_; clear hK K; (repeat (first | refine awp_seq ?_ | refine awp_block ?_ | refine awp_scope ?_ | refine awp_skip ?_ | refine awp_exit ?_ | refine awp_ret ?_ | refine sq_n ?_ | refine sq_r ?_ | refine sq_x ?_ | refine bq_n ?_ | refine bq_r ?_ | refine bq_x ?_ | refine bq_y rfl ?_ | refine pq_n ?_ | refine pq_r ?_ | refine pq_x ?_))
    refine awp_region cx [(1, .p (.tup [.agg lo.row, .agg hi.row, .bool so]))] fun K hK => ?_
    simp [push_cast, c1]
    repeat (refine And.intro (by clear hK; intros; first | omega | (simp_all; done) | (simp_all <;> omega)) ?_)
    refine hK _ ?_; clear hK K; (repeat (first | refine awp_seq ?_ | refine awp_block ?_ | refine awp_scope ?_ | refine awp_skip ?_ | refine awp_exit ?_ | refine awp_ret ?_ | refine sq_n ?_ | refine sq_r ?_ | refine sq_x ?_ | refine bq_n ?_ | refine bq_r ?_ | refine bq_x ?_ | refine bq_y rfl ?_ | refine pq_n ?_ | refine pq_r ?_ | refine pq_x ?_))
    refine awp_region cx [(1, .p (.bool false))] fun K hK => ?_
    simp [push_cast, c2]
    repeat (refine And.intro (by clear hK; intros; first | omega | (simp_all; done) | (simp_all <;> omega)) ?_)
    refine hK _ ?_; clear hK K; (repeat (first | refine awp_seq ?_ | refine awp_block ?_ | refine awp_scope ?_ | refine awp_skip ?_ | refine awp_exit ?_ | refine awp_ret ?_ | refine sq_n ?_ | refine sq_r ?_ | refine sq_x ?_ | refine bq_n ?_ | refine bq_r ?_ | refine bq_x ?_ | refine bq_y rfl ?_ | refine pq_n ?_ | refine pq_r ?_ | refine pq_x ?_))
    refine awp_cond (b := true) (by simp [push_cast]) (fun hb => ?_) (fun hb => ?_) <;> ((repeat (first | refine awp_seq ?_ | refine awp_block ?_ | refine awp_scope ?_ | refine awp_skip ?_ | refine awp_exit ?_ | refine awp_ret ?_ | refine sq_n ?_ | refine sq_r ?_ | refine sq_x ?_ | refine bq_n ?_ | refine bq_r ?_ | refine bq_x ?_ | refine bq_y rfl ?_ | refine pq_n ?_ | refine pq_r ?_ | refine pq_x ?_)))
    · refine awp_region cx [] fun K hK => ?_
      simp [push_cast]
      repeat (refine And.intro (by clear hK; intros; first | omega | (simp_all; done) | (simp_all <;> omega)) ?_)
      refine hK _ ?_; clear hK K; (repeat (first | refine awp_seq ?_ | refine awp_block ?_ | refine awp_scope ?_ | refine awp_skip ?_ | refine awp_exit ?_ | refine awp_ret ?_ | refine sq_n ?_ | refine sq_r ?_ | refine sq_x ?_ | refine bq_n ?_ | refine bq_r ?_ | refine bq_x ?_ | refine bq_y rfl ?_ | refine pq_n ?_ | refine pq_r ?_ | refine pq_x ?_))
      simp [push_cast]
    · simp at hb
  | true =>
    rw [hv] at c2
    by_cases hp : 0 < R.length
    · obtain ⟨hlo, hhi, hso, hin⟩ := inB_box hv hp dx dy
      have hbd := box_bd hv hp
      have hn0 : R.length ≠ 0 := by omega
      rw [hv, if_pos rfl, if_neg hn0] at hE
      rw [hso, Bool.true_and] at hS
      rw [hlo, hhi, hso] at c1
      have hrows := fun k w => @row_box R hv k w
      clear hlo hhi hso hsv hBD hD
      generalize lowX R = lx at *
      generalize highX R = hx at *
      generalize fstY R = ly at *
      generalize lstY R = hy at *
      have n1 := near_ok dx
      have n2 := near_ok dy
      refine pc_of_awp cx (fn := Try.f24) (c := _) Try.func24 rfl rfl (Nat.le_of_ble_eq_true rfl) ?_
      rw [Try.ntmps24]; (repeat (first | refine awp_seq ?_ | refine awp_block ?_ | refine awp_scope ?_ | refine awp_skip ?_ | refine awp_exit ?_ | refine awp_ret ?_ | refine sq_n ?_ | refine sq_r ?_ | refine sq_x ?_ | refine bq_n ?_ | refine bq_r ?_ | refine bq_x ?_ | refine bq_y rfl ?_ | refine pq_n ?_ | refine pq_r ?_ | refine pq_x ?_))
      refine awp_region cx [] fun K hK => ?_
      simp [push_cast]
      repeat (refine And.intro (by clear hK; intros; first | omega | (simp_all; done) | (simp_all <;> omega)) ?_)
      refine hK _ ?_; clear hK K; (repeat (first | refine awp_seq ?_ | refine awp_block ?_ | refine awp_scope ?_ | refine awp_skip ?_ | refine awp_exit ?_ | refine awp_ret ?_ | refine sq_n ?_ | refine sq_r ?_ | refine sq_x ?_ | refine bq_n ?_ | refine bq_r ?_ | refine bq_x ?_ | refine bq_y rfl ?_ | refine pq_n ?_ | refine pq_r ?_ | refine pq_x ?_))
      refine awp_region cx [(1, .p (.tup [.agg (Cell.row ⟨lx, ly⟩), .agg (Cell.row ⟨hx, hy⟩), .bool true]))] fun K hK => ?_
      simp [push_cast, c1]
      repeat (refine And.intro (by clear hK; intros; first | omega | (simp_all; done) | (simp_all <;> omega)) ?_)
      refine hK _ ?_; clear hK K; (repeat (first | refine awp_seq ?_ | refine awp_block ?_ | refine awp_scope ?_ | refine awp_skip ?_ | refine awp_exit ?_ | refine awp_ret ?_ | refine sq_n ?_ | refine sq_r ?_ | refine sq_x ?_ | refine bq_n ?_ | refine bq_r ?_ | refine bq_x ?_ | refine bq_y rfl ?_ | refine pq_n ?_ | refine pq_r ?_ | refine pq_x ?_))
      refine awp_region cx [(1, .p (.bool true))] fun K hK => ?_
      simp [push_cast, c2]
      repeat (refine And.intro (by clear hK; intros; first | omega | (simp_all; done) | (simp_all <;> omega)) ?_)
      refine hK _ ?_; clear hK K; (repeat (first | refine awp_seq ?_ | refine awp_block ?_ | refine awp_scope ?_ | refine awp_skip ?_ | refine awp_exit ?_ | refine awp_ret ?_ | refine sq_n ?_ | refine sq_r ?_ | refine sq_x ?_ | refine bq_n ?_ | refine bq_r ?_ | refine bq_x ?_ | refine bq_y rfl ?_ | refine pq_n ?_ | refine pq_r ?_ | refine pq_x ?_))
      refine awp_cond (b := false) (by simp [push_cast]) (fun hb => ?_) (fun hb => ?_) <;> ((repeat (first | refine awp_seq ?_ | refine awp_block ?_ | refine awp_scope ?_ | refine awp_skip ?_ | refine awp_exit ?_ | refine awp_ret ?_ | refine sq_n ?_ | refine sq_r ?_ | refine sq_x ?_ | refine bq_n ?_ | refine bq_r ?_ | refine bq_x ?_ | refine bq_y rfl ?_ | refine pq_n ?_ | refine pq_r ?_ | refine pq_x ?_)))
      · simp at hb
      · refine awp_region cx [] fun K hK => ?_
        simp [push_cast]
        repeat (refine And.intro (by clear hK; intros; first | omega | (simp_all; done) | (simp_all <;> omega)) ?_)
        refine hK _ ?_; clear hK K; (repeat (first | refine awp_seq ?_ | refine awp_block ?_ | refine awp_scope ?_ | refine awp_skip ?_ | refine awp_exit ?_ | refine awp_ret ?_ | refine sq_n ?_ | refine sq_r ?_ | refine sq_x ?_ | refine bq_n ?_ | refine bq_r ?_ | refine bq_x ?_ | refine bq_y rfl ?_ | refine pq_n ?_ | refine pq_r ?_ | refine pq_x ?_))
        refine awp_cond (b := false) (by simp [push_cast]) (fun hb => ?_) (fun hb => ?_) <;> ((repeat (first | refine awp_seq ?_ | refine awp_block ?_ | refine awp_scope ?_ | refine awp_skip ?_ | refine awp_exit ?_ | refine awp_ret ?_ | refine sq_n ?_ | refine sq_r ?_ | refine sq_x ?_ | refine bq_n ?_ | refine bq_r ?_ | refine bq_x ?_ | refine bq_y rfl ?_ | refine pq_n ?_ | refine pq_r ?_ | refine pq_x ?_)))
        · simp at hb
        · by_cases hI : inB R dx dy = true
          · rw [hI] at hE hS hin
            simp only [if_true] at hE hS
            rw [hE, hS]
            simp at hin
            have o1 := ok_ok (lx + dx)
            have o2 := ok_ok (hx + dx)
            have o3 := ok_ok (ly + dy)
            have o4 := ok_ok (hy + dy)
            have t1 : (decide (-8192 ≤ dx) && decide (dx ≤ 8192)) = true := by simp; omega
            have t2 : (decide (-8192 ≤ dy) && decide (dy ≤ 8192)) = true := by simp; omega
            have t3 : okB (lx + dx) = true := by simp [okB]; omega
            have t4 : okB (hx + dx) = true := by simp [okB]; omega
            have t5 : okB (ly + dy) = true := by simp [okB]; omega
            have t6 : okB (hy + dy) = true := by simp [okB]; omega
            rw [t1] at n1
            rw [t2] at n2
            rw [t3] at o1
            rw [t4] at o2
            rw [t5] at o3
            rw [t6] at o4
            have w1 := wrap_i64 (n := lx + dx) (by omega) (by omega)
            have w2 := wrap_i64 (n := hx + dx) (by omega) (by omega)
            have w3 := wrap_i64 (n := ly + dy) (by omega) (by omega)
            have w4 := wrap_i64 (n := hy + dy) (by omega) (by omega)
            have hdx : -8192 ≤ dx ∧ dx ≤ 8192 := by omega
            have hdy : -8192 ≤ dy ∧ dy ≤ 8192 := by omega
            refine awp_region cx [(1, .p (.bool true)), (5, .p (.bool true)), (13, .p (.bool true)), (21, .p (.bool true)), (29, .p (.bool true)), (37, .p (.bool true))] fun K hK => ?_
            simp [push_cast, n1, n2, o1, o2, o3, o4, w1, w2, w3, w4]
            repeat (refine And.intro (by clear hK; intros; first | omega | (simp_all; done) | (simp_all <;> omega)) ?_)
            refine hK _ ?_; clear hK K; (repeat (first | refine awp_seq ?_ | refine awp_block ?_ | refine awp_scope ?_ | refine awp_skip ?_ | refine awp_exit ?_ | refine awp_ret ?_ | refine sq_n ?_ | refine sq_r ?_ | refine sq_x ?_ | refine bq_n ?_ | refine bq_r ?_ | refine bq_x ?_ | refine bq_y rfl ?_ | refine pq_n ?_ | refine pq_r ?_ | refine pq_x ?_))
            refine awp_cond (b := false) (by simp [push_cast]) (fun hb => ?_) (fun hb => ?_) <;> ((repeat (first | refine awp_seq ?_ | refine awp_block ?_ | refine awp_scope ?_ | refine awp_skip ?_ | refine awp_exit ?_ | refine awp_ret ?_ | refine sq_n ?_ | refine sq_r ?_ | refine sq_x ?_ | refine bq_n ?_ | refine bq_r ?_ | refine bq_x ?_ | refine bq_y rfl ?_ | refine pq_n ?_ | refine pq_r ?_ | refine pq_x ?_)))
            · simp at hb
            · refine awp_region cx [] fun K hK => ?_
              simp [push_cast]
              repeat (refine And.intro (by clear hK; intros; first | omega | (simp_all; done) | (simp_all <;> omega)) ?_)
              refine hK _ ?_; clear hK K; (repeat (first | refine awp_seq ?_ | refine awp_block ?_ | refine awp_scope ?_ | refine awp_skip ?_ | refine awp_exit ?_ | refine awp_ret ?_ | refine sq_n ?_ | refine sq_r ?_ | refine sq_x ?_ | refine bq_n ?_ | refine bq_r ?_ | refine bq_x ?_ | refine bq_y rfl ?_ | refine pq_n ?_ | refine pq_r ?_ | refine pq_x ?_))
              refine awp_region cx [] fun K hK => ?_
              simp [push_cast]
              repeat (refine And.intro (by clear hK; intros; first | omega | (simp_all; done) | (simp_all <;> omega)) ?_)
              refine hK _ ?_; clear hK K; (repeat (first | refine awp_seq ?_ | refine awp_block ?_ | refine awp_scope ?_ | refine awp_skip ?_ | refine awp_exit ?_ | refine awp_ret ?_ | refine sq_n ?_ | refine sq_r ?_ | refine sq_x ?_ | refine bq_n ?_ | refine bq_r ?_ | refine bq_x ?_ | refine bq_y rfl ?_ | refine pq_n ?_ | refine pq_r ?_ | refine pq_x ?_))
              refine awp_loop (β := Nat × List Row) (fun b => ⟨100, [(1, .d (.int .i64 dx)), (2, .d (.int .i64 dy)), (6, .ptr 0 0 0), (11, .ptr 1 0 0), (74, .d (encRows R)), (75, .d (.int .i64 R.length)), (76, .d (.int .i64 b.1))], [(0, some ⟨24, 1, [[.nl]]⟩), (1, some ⟨24, 1, [[.hs 2 0 b.2.length]]⟩), (2, some ⟨58, 2, dr (b.2.map Row.row)⟩)], 3⟩) (fun b => b.1 ≤ R.length ∧ b.2 = (R.take b.1).map (shRow dx dy)) (fun b => R.length - b.1) (0, []) ?_ ⟨Nat.zero_le _, by simp⟩ ?_
              · refine weak_of [(0, some 1), (1, some 62), (2, none)] rfl (by simp [upT, up, upL, push_cast]) (by simp [upH, upR, upL, up, push_cast]) (by simp [namesOk, push_cast]) (by simp [olds])
              · rintro ⟨k, Z⟩ ⟨hk, hZ⟩
                simp only at hk hZ
                (repeat (first | refine awp_seq ?_ | refine awp_block ?_ | refine awp_scope ?_ | refine awp_skip ?_ | refine awp_exit ?_ | refine awp_ret ?_ | refine sq_n ?_ | refine sq_r ?_ | refine sq_x ?_ | refine bq_n ?_ | refine bq_r ?_ | refine bq_x ?_ | refine bq_y rfl ?_ | refine pq_n ?_ | refine pq_r ?_ | refine pq_x ?_))
                refine awp_region cx [] fun K hK => ?_
                simp [push_cast]
                repeat (refine And.intro (by clear hK; intros; first | omega | (simp_all; done) | (simp_all <;> omega)) ?_)
                refine hK _ ?_; clear hK K; (repeat (first | refine awp_seq ?_ | refine awp_block ?_ | refine awp_scope ?_ | refine awp_skip ?_ | refine awp_exit ?_ | refine awp_ret ?_ | refine sq_n ?_ | refine sq_r ?_ | refine sq_x ?_ | refine bq_n ?_ | refine bq_r ?_ | refine bq_x ?_ | refine bq_y rfl ?_ | refine pq_n ?_ | refine pq_r ?_ | refine pq_x ?_))
                refine awp_cond (b := decide ((k : Int) < R.length)) (by simp [push_cast]) (fun hb => ?_) (fun hb => ?_) <;> ((repeat (first | refine awp_seq ?_ | refine awp_block ?_ | refine awp_scope ?_ | refine awp_skip ?_ | refine awp_exit ?_ | refine awp_ret ?_ | refine sq_n ?_ | refine sq_r ?_ | refine sq_x ?_ | refine bq_n ?_ | refine bq_r ?_ | refine bq_x ?_ | refine bq_y rfl ?_ | refine pq_n ?_ | refine pq_r ?_ | refine pq_x ?_)))
                · have hlt : k < R.length := by simpa using hb
                  obtain ⟨w, hw⟩ := getq hlt
                  have hb := hrows k w hw
                  have hwv := validR_at hv hw
                  have c3 := rshift_ok w.runs dx hwv.2 (hR.2 w (List.mem_of_getElem? hw)) hdx
                  have e0 := wrap_i64 (n := (k : Int) + 1) (by omega) (by omega)
                  have e1 := wrap_i64 (n := w.y + dy) (by omega) (by omega)
                  have hnx : (R.take (k + 1)).map (shRow dx dy) = Z ++ [shRow dx dy w] := by rw [take_get hw, List.map_append, hZ]; rfl
                  have hsr : shRow dx dy w = ⟨w.y + dy, w.runs.map (shRun dx)⟩ := rfl
                  rw [hsr] at hnx
                  have hZl : Z.length ≤ 1000000 := by rw [hZ]; simp; omega
                  have hZ32 : (Z.length + 1) * 32 ≤ 140737488355328 := by omega
                  obtain ⟨y, ru⟩ := w
                  simp only at c3 e1 hnx
                  generalize ru.map (shRun dx) = sr at *
                  refine awp_region cx [] fun K hK => ?_
                  simp [push_cast, hw, Row.row]
                  repeat (refine And.intro (by clear hK; intros; first | omega | (simp_all; done) | (simp_all <;> omega)) ?_)
                  refine hK _ ?_; clear hK K; (repeat (first | refine awp_seq ?_ | refine awp_block ?_ | refine awp_scope ?_ | refine awp_skip ?_ | refine awp_exit ?_ | refine awp_ret ?_ | refine sq_n ?_ | refine sq_r ?_ | refine sq_x ?_ | refine bq_n ?_ | refine bq_r ?_ | refine bq_x ?_ | refine bq_y rfl ?_ | refine pq_n ?_ | refine pq_r ?_ | refine pq_x ?_))
                  refine awp_region cx [(3, .p (.tup [encRuns sr, .int .i64 0]))] fun K hK => ?_
                  simp [push_cast, c3, Row.row]
                  repeat (refine And.intro (by clear hK; intros; first | omega | (simp_all; done) | (simp_all <;> omega)) ?_)
                  refine hK _ ?_; clear hK K; (repeat (first | refine awp_seq ?_ | refine awp_block ?_ | refine awp_scope ?_ | refine awp_skip ?_ | refine awp_exit ?_ | refine awp_ret ?_ | refine sq_n ?_ | refine sq_r ?_ | refine sq_x ?_ | refine bq_n ?_ | refine bq_r ?_ | refine bq_x ?_ | refine bq_y rfl ?_ | refine pq_n ?_ | refine pq_r ?_ | refine pq_x ?_))
                  refine awp_region cx [] fun K hK => ?_
                  simp [push_cast, e1, hZ32, Row.row]
                  repeat (refine And.intro (by clear hK; intros; first | omega | (simp_all; done) | (simp_all <;> omega)) ?_)
                  refine hK _ ?_; clear hK K; (repeat (first | refine awp_seq ?_ | refine awp_block ?_ | refine awp_scope ?_ | refine awp_skip ?_ | refine awp_exit ?_ | refine awp_ret ?_ | refine sq_n ?_ | refine sq_r ?_ | refine sq_x ?_ | refine bq_n ?_ | refine bq_r ?_ | refine bq_x ?_ | refine bq_y rfl ?_ | refine pq_n ?_ | refine pq_r ?_ | refine pq_x ?_))
                  refine awp_region cx [] fun K hK => ?_
                  simp [push_cast, e0]
                  repeat (refine And.intro (by clear hK; intros; first | omega | (simp_all; done) | (simp_all <;> omega)) ?_)
                  refine hK _ ?_; clear hK K; (repeat (first | refine awp_seq ?_ | refine awp_block ?_ | refine awp_scope ?_ | refine awp_skip ?_ | refine awp_exit ?_ | refine awp_ret ?_ | refine sq_n ?_ | refine sq_r ?_ | refine sq_x ?_ | refine bq_n ?_ | refine bq_r ?_ | refine bq_x ?_ | refine bq_y rfl ?_ | refine pq_n ?_ | refine pq_r ?_ | refine pq_x ?_))
                  refine ⟨(k + 1, Z ++ [⟨y + dy, sr⟩]), ⟨hlt, hnx.symm⟩, by simp only; omega, ?_⟩
                  refine weak_of [(0, some 0), (1, some 1), (2, some 26)] rfl (by simp [upT, up, upL, push_cast, Row.row]) (by simp [upH, upR, upL, up, push_cast, Row.row]) (by simp [namesOk, push_cast]) (by simp [olds])
                · have hge : k = R.length := by simp at hb; omega
                  subst hge
                  rw [List.take_length] at hZ
                  rw [← hZ]
                  clear hZ
                  refine awp_freeze 2 (Z.map Row.row) rfl (by simp [push_cast, Row.row]) fun K hK => ?_
                  simp [push_cast, St.fz, fzT, fzH, fzO, fz, fzL, fzR, fzR_dr, fzR_app, fzR_set, fzL_map, Row.row]
                  refine hK _ ?_; clear hK K; (repeat (first | refine awp_seq ?_ | refine awp_block ?_ | refine awp_scope ?_ | refine awp_skip ?_ | refine awp_exit ?_ | refine awp_ret ?_ | refine sq_n ?_ | refine sq_r ?_ | refine sq_x ?_ | refine bq_n ?_ | refine bq_r ?_ | refine bq_x ?_ | refine bq_y rfl ?_ | refine pq_n ?_ | refine pq_r ?_ | refine pq_x ?_))
                  refine awp_region cx [] fun K hK => ?_
                  simp [push_cast]
                  repeat (refine And.intro (by clear hK; intros; first | omega | (simp_all; done) | (simp_all <;> omega)) ?_)
                  refine hK _ ?_; clear hK K; (repeat (first | refine awp_seq ?_ | refine awp_block ?_ | refine awp_scope ?_ | refine awp_skip ?_ | refine awp_exit ?_ | refine awp_ret ?_ | refine sq_n ?_ | refine sq_r ?_ | refine sq_x ?_ | refine bq_n ?_ | refine bq_r ?_ | refine bq_x ?_ | refine bq_y rfl ?_ | refine pq_n ?_ | refine pq_r ?_ | refine pq_x ?_))
                  simp [push_cast]
          · have hI : inB R dx dy = false := by simpa using hI
            rw [hI] at hE hS hin
            simp only [Bool.false_eq_true, if_false] at hE hS
            rw [hE, hS]
            have hin' : ¬ (-4096 - lx ≤ dx ∧ dx ≤ 4095 - hx ∧ -4096 - ly ≤ dy ∧ dy ≤ 4095 - hy) := by
              rintro ⟨a, b, c, d⟩
              simp [a, b, c, d] at hin
            clear hin
            by_cases t1 : -8192 ≤ dx ∧ dx ≤ 8192
            · have t1' : (decide (-8192 ≤ dx) && decide (dx ≤ 8192)) = true := by simp; omega
              rw [t1'] at n1
              by_cases t2 : -8192 ≤ dy ∧ dy ≤ 8192
              · have t2' : (decide (-8192 ≤ dy) && decide (dy ≤ 8192)) = true := by simp; omega
                rw [t2'] at n2
                have o1 := ok_ok (lx + dx)
                have o2 := ok_ok (hx + dx)
                have o3 := ok_ok (ly + dy)
                have o4 := ok_ok (hy + dy)
                have w1 := wrap_i64 (n := lx + dx) (by omega) (by omega)
                have w2 := wrap_i64 (n := hx + dx) (by omega) (by omega)
                have w3 := wrap_i64 (n := ly + dy) (by omega) (by omega)
                have w4 := wrap_i64 (n := hy + dy) (by omega) (by omega)
                have k1 : okB (lx + dx) = true ↔ (-4096 ≤ lx + dx ∧ lx + dx < 4096) := by simp [okB]
                have k2 : okB (hx + dx) = true ↔ (-4096 ≤ hx + dx ∧ hx + dx < 4096) := by simp [okB]
                have k3 : okB (ly + dy) = true ↔ (-4096 ≤ ly + dy ∧ ly + dy < 4096) := by simp [okB]
                have k4 : okB (hy + dy) = true ↔ (-4096 ≤ hy + dy ∧ hy + dy < 4096) := by simp [okB]
                generalize okB (lx + dx) = p1 at *
                generalize okB (hx + dx) = p2 at *
                generalize okB (ly + dy) = p3 at *
                generalize okB (hy + dy) = p4 at *
                cases p1 with
                | false =>
                  refine awp_region cx [(1, .p (.bool true)), (5, .p (.bool true)), (13, .p (.bool false)), (21, .skip), (29, .skip), (37, .skip)] fun K hK => ?_
                  simp [push_cast, n1, n2, o1, w1]
                  repeat (refine And.intro (by clear hK; intros; first | omega | (simp_all; done) | (simp_all <;> omega)) ?_)
                  refine hK _ ?_; clear hK K; (repeat (first | refine awp_seq ?_ | refine awp_block ?_ | refine awp_scope ?_ | refine awp_skip ?_ | refine awp_exit ?_ | refine awp_ret ?_ | refine sq_n ?_ | refine sq_r ?_ | refine sq_x ?_ | refine bq_n ?_ | refine bq_r ?_ | refine bq_x ?_ | refine bq_y rfl ?_ | refine pq_n ?_ | refine pq_r ?_ | refine pq_x ?_))
                  refine awp_cond (b := true) (by simp [push_cast]) (fun hb => ?_) (fun hb => ?_) <;> ((repeat (first | refine awp_seq ?_ | refine awp_block ?_ | refine awp_scope ?_ | refine awp_skip ?_ | refine awp_exit ?_ | refine awp_ret ?_ | refine sq_n ?_ | refine sq_r ?_ | refine sq_x ?_ | refine bq_n ?_ | refine bq_r ?_ | refine bq_x ?_ | refine bq_y rfl ?_ | refine pq_n ?_ | refine pq_r ?_ | refine pq_x ?_)))
                  · refine awp_region cx [] fun K hK => ?_
                    simp [push_cast]
                    repeat (refine And.intro (by clear hK; intros; first | omega | (simp_all; done) | (simp_all <;> omega)) ?_)
                    refine hK _ ?_; clear hK K; (repeat (first | refine awp_seq ?_ | refine awp_block ?_ | refine awp_scope ?_ | refine awp_skip ?_ | refine awp_exit ?_ | refine awp_ret ?_ | refine sq_n ?_ | refine sq_r ?_ | refine sq_x ?_ | refine bq_n ?_ | refine bq_r ?_ | refine bq_x ?_ | refine bq_y rfl ?_ | refine pq_n ?_ | refine pq_r ?_ | refine pq_x ?_))
                    simp [push_cast]
                  · simp at hb
                | true =>
                  cases p2 with
                  | false =>
                    refine awp_region cx [(1, .p (.bool true)), (5, .p (.bool true)), (13, .p (.bool true)), (21, .p (.bool false)), (29, .skip), (37, .skip)] fun K hK => ?_
                    simp [push_cast, n1, n2, o1, o2, w1, w2]
                    repeat (refine And.intro (by clear hK; intros; first | omega | (simp_all; done) | (simp_all <;> omega)) ?_)
                    refine hK _ ?_; clear hK K; (repeat (first | refine awp_seq ?_ | refine awp_block ?_ | refine awp_scope ?_ | refine awp_skip ?_ | refine awp_exit ?_ | refine awp_ret ?_ | refine sq_n ?_ | refine sq_r ?_ | refine sq_x ?_ | refine bq_n ?_ | refine bq_r ?_ | refine bq_x ?_ | refine bq_y rfl ?_ | refine pq_n ?_ | refine pq_r ?_ | refine pq_x ?_))
                    refine awp_cond (b := true) (by simp [push_cast]) (fun hb => ?_) (fun hb => ?_) <;> ((repeat (first | refine awp_seq ?_ | refine awp_block ?_ | refine awp_scope ?_ | refine awp_skip ?_ | refine awp_exit ?_ | refine awp_ret ?_ | refine sq_n ?_ | refine sq_r ?_ | refine sq_x ?_ | refine bq_n ?_ | refine bq_r ?_ | refine bq_x ?_ | refine bq_y rfl ?_ | refine pq_n ?_ | refine pq_r ?_ | refine pq_x ?_)))
                    · refine awp_region cx [] fun K hK => ?_
                      simp [push_cast]
                      repeat (refine And.intro (by clear hK; intros; first | omega | (simp_all; done) | (simp_all <;> omega)) ?_)
                      refine hK _ ?_; clear hK K; (repeat (first | refine awp_seq ?_ | refine awp_block ?_ | refine awp_scope ?_ | refine awp_skip ?_ | refine awp_exit ?_ | refine awp_ret ?_ | refine sq_n ?_ | refine sq_r ?_ | refine sq_x ?_ | refine bq_n ?_ | refine bq_r ?_ | refine bq_x ?_ | refine bq_y rfl ?_ | refine pq_n ?_ | refine pq_r ?_ | refine pq_x ?_))
                      simp [push_cast]
                    · simp at hb
                  | true =>
                    cases p3 with
                    | false =>
                      refine awp_region cx [(1, .p (.bool true)), (5, .p (.bool true)), (13, .p (.bool true)), (21, .p (.bool true)), (29, .p (.bool false)), (37, .skip)] fun K hK => ?_
                      simp [push_cast, n1, n2, o1, o2, o3, w1, w2, w3]
                      repeat (refine And.intro (by clear hK; intros; first | omega | (simp_all; done) | (simp_all <;> omega)) ?_)
                      refine hK _ ?_; clear hK K; (repeat (first | refine awp_seq ?_ | refine awp_block ?_ | refine awp_scope ?_ | refine awp_skip ?_ | refine awp_exit ?_ | refine awp_ret ?_ | refine sq_n ?_ | refine sq_r ?_ | refine sq_x ?_ | refine bq_n ?_ | refine bq_r ?_ | refine bq_x ?_ | refine bq_y rfl ?_ | refine pq_n ?_ | refine pq_r ?_ | refine pq_x ?_))
                      refine awp_cond (b := true) (by simp [push_cast]) (fun hb => ?_) (fun hb => ?_) <;> ((repeat (first | refine awp_seq ?_ | refine awp_block ?_ | refine awp_scope ?_ | refine awp_skip ?_ | refine awp_exit ?_ | refine awp_ret ?_ | refine sq_n ?_ | refine sq_r ?_ | refine sq_x ?_ | refine bq_n ?_ | refine bq_r ?_ | refine bq_x ?_ | refine bq_y rfl ?_ | refine pq_n ?_ | refine pq_r ?_ | refine pq_x ?_)))
                      · refine awp_region cx [] fun K hK => ?_
                        simp [push_cast]
                        repeat (refine And.intro (by clear hK; intros; first | omega | (simp_all; done) | (simp_all <;> omega)) ?_)
                        refine hK _ ?_; clear hK K; (repeat (first | refine awp_seq ?_ | refine awp_block ?_ | refine awp_scope ?_ | refine awp_skip ?_ | refine awp_exit ?_ | refine awp_ret ?_ | refine sq_n ?_ | refine sq_r ?_ | refine sq_x ?_ | refine bq_n ?_ | refine bq_r ?_ | refine bq_x ?_ | refine bq_y rfl ?_ | refine pq_n ?_ | refine pq_r ?_ | refine pq_x ?_))
                        simp [push_cast]
                      · simp at hb
                    | true =>
                      cases p4 with
                      | false =>
                        refine awp_region cx [(1, .p (.bool true)), (5, .p (.bool true)), (13, .p (.bool true)), (21, .p (.bool true)), (29, .p (.bool true)), (37, .p (.bool false))] fun K hK => ?_
                        simp [push_cast, n1, n2, o1, o2, o3, o4, w1, w2, w3, w4]
                        repeat (refine And.intro (by clear hK; intros; first | omega | (simp_all; done) | (simp_all <;> omega)) ?_)
                        refine hK _ ?_; clear hK K; (repeat (first | refine awp_seq ?_ | refine awp_block ?_ | refine awp_scope ?_ | refine awp_skip ?_ | refine awp_exit ?_ | refine awp_ret ?_ | refine sq_n ?_ | refine sq_r ?_ | refine sq_x ?_ | refine bq_n ?_ | refine bq_r ?_ | refine bq_x ?_ | refine bq_y rfl ?_ | refine pq_n ?_ | refine pq_r ?_ | refine pq_x ?_))
                        refine awp_cond (b := true) (by simp [push_cast]) (fun hb => ?_) (fun hb => ?_) <;> ((repeat (first | refine awp_seq ?_ | refine awp_block ?_ | refine awp_scope ?_ | refine awp_skip ?_ | refine awp_exit ?_ | refine awp_ret ?_ | refine sq_n ?_ | refine sq_r ?_ | refine sq_x ?_ | refine bq_n ?_ | refine bq_r ?_ | refine bq_x ?_ | refine bq_y rfl ?_ | refine pq_n ?_ | refine pq_r ?_ | refine pq_x ?_)))
                        · refine awp_region cx [] fun K hK => ?_
                          simp [push_cast]
                          repeat (refine And.intro (by clear hK; intros; first | omega | (simp_all; done) | (simp_all <;> omega)) ?_)
                          refine hK _ ?_; clear hK K; (repeat (first | refine awp_seq ?_ | refine awp_block ?_ | refine awp_scope ?_ | refine awp_skip ?_ | refine awp_exit ?_ | refine awp_ret ?_ | refine sq_n ?_ | refine sq_r ?_ | refine sq_x ?_ | refine bq_n ?_ | refine bq_r ?_ | refine bq_x ?_ | refine bq_y rfl ?_ | refine pq_n ?_ | refine pq_r ?_ | refine pq_x ?_))
                          simp [push_cast]
                        · simp at hb
                      | true =>
                        have := k1.1 rfl
                        have := k2.1 rfl
                        have := k3.1 rfl
                        have := k4.1 rfl
                        omega
              · have t2' : (decide (-8192 ≤ dy) && decide (dy ≤ 8192)) = false := by
                  rw [Bool.eq_false_iff]; intro h; simp at h; omega
                rw [t2'] at n2
                refine awp_region cx [(1, .p (.bool true)), (5, .p (.bool false)), (13, .skip), (21, .skip), (29, .skip), (37, .skip)] fun K hK => ?_
                simp [push_cast, n1, n2]
                repeat (refine And.intro (by clear hK; intros; first | omega | (simp_all; done) | (simp_all <;> omega)) ?_)
                refine hK _ ?_; clear hK K; (repeat (first | refine awp_seq ?_ | refine awp_block ?_ | refine awp_scope ?_ | refine awp_skip ?_ | refine awp_exit ?_ | refine awp_ret ?_ | refine sq_n ?_ | refine sq_r ?_ | refine sq_x ?_ | refine bq_n ?_ | refine bq_r ?_ | refine bq_x ?_ | refine bq_y rfl ?_ | refine pq_n ?_ | refine pq_r ?_ | refine pq_x ?_))
                refine awp_cond (b := true) (by simp [push_cast]) (fun hb => ?_) (fun hb => ?_) <;> ((repeat (first | refine awp_seq ?_ | refine awp_block ?_ | refine awp_scope ?_ | refine awp_skip ?_ | refine awp_exit ?_ | refine awp_ret ?_ | refine sq_n ?_ | refine sq_r ?_ | refine sq_x ?_ | refine bq_n ?_ | refine bq_r ?_ | refine bq_x ?_ | refine bq_y rfl ?_ | refine pq_n ?_ | refine pq_r ?_ | refine pq_x ?_)))
                · refine awp_region cx [] fun K hK => ?_
                  simp [push_cast]
                  repeat (refine And.intro (by clear hK; intros; first | omega | (simp_all; done) | (simp_all <;> omega)) ?_)
                  refine hK _ ?_; clear hK K; (repeat (first | refine awp_seq ?_ | refine awp_block ?_ | refine awp_scope ?_ | refine awp_skip ?_ | refine awp_exit ?_ | refine awp_ret ?_ | refine sq_n ?_ | refine sq_r ?_ | refine sq_x ?_ | refine bq_n ?_ | refine bq_r ?_ | refine bq_x ?_ | refine bq_y rfl ?_ | refine pq_n ?_ | refine pq_r ?_ | refine pq_x ?_))
                  simp [push_cast]
                · simp at hb
            · have t1' : (decide (-8192 ≤ dx) && decide (dx ≤ 8192)) = false := by
                rw [Bool.eq_false_iff]; intro h; simp at h; omega
              rw [t1'] at n1
              refine awp_region cx [(1, .p (.bool false)), (5, .skip), (13, .skip), (21, .skip), (29, .skip), (37, .skip)] fun K hK => ?_
              simp [push_cast, n1]
              repeat (refine And.intro (by clear hK; intros; first | omega | (simp_all; done) | (simp_all <;> omega)) ?_)
              refine hK _ ?_; clear hK K; (repeat (first | refine awp_seq ?_ | refine awp_block ?_ | refine awp_scope ?_ | refine awp_skip ?_ | refine awp_exit ?_ | refine awp_ret ?_ | refine sq_n ?_ | refine sq_r ?_ | refine sq_x ?_ | refine bq_n ?_ | refine bq_r ?_ | refine bq_x ?_ | refine bq_y rfl ?_ | refine pq_n ?_ | refine pq_r ?_ | refine pq_x ?_))
              refine awp_cond (b := true) (by simp [push_cast]) (fun hb => ?_) (fun hb => ?_) <;> ((repeat (first | refine awp_seq ?_ | refine awp_block ?_ | refine awp_scope ?_ | refine awp_skip ?_ | refine awp_exit ?_ | refine awp_ret ?_ | refine sq_n ?_ | refine sq_r ?_ | refine sq_x ?_ | refine bq_n ?_ | refine bq_r ?_ | refine bq_x ?_ | refine bq_y rfl ?_ | refine pq_n ?_ | refine pq_r ?_ | refine pq_x ?_)))
              · refine awp_region cx [] fun K hK => ?_
                simp [push_cast]
                repeat (refine And.intro (by clear hK; intros; first | omega | (simp_all; done) | (simp_all <;> omega)) ?_)
                refine hK _ ?_; clear hK K; (repeat (first | refine awp_seq ?_ | refine awp_block ?_ | refine awp_scope ?_ | refine awp_skip ?_ | refine awp_exit ?_ | refine awp_ret ?_ | refine sq_n ?_ | refine sq_r ?_ | refine sq_x ?_ | refine bq_n ?_ | refine bq_r ?_ | refine bq_x ?_ | refine bq_y rfl ?_ | refine pq_n ?_ | refine pq_r ?_ | refine pq_x ?_))
                simp [push_cast]
              · simp at hb
    · have hnil : R = [] := List.eq_nil_of_length_eq_zero (by omega)
      have hso : some? R = false := by rw [hsv]; simp [hnil]
      have h1 : shR R dx dy = [] := by rw [hS, hso]; simp
      have h2 : shE R dx dy = 0 := by rw [hE, hv, hnil]; simp
      rw [h1, h2]
      rw [hso] at c1
      clear hE hS h1 h2 hsv hso hBD hD
      generalize boxLo R = lo at *
      generalize boxHi R = hi at *
      refine pc_of_awp cx (fn := Try.f24) (c := _) Try.func24 rfl rfl (Nat.le_of_ble_eq_true rfl) ?_
      rw [Try.ntmps24]; (repeat (first | refine awp_seq ?_ | refine awp_block ?_ | refine awp_scope ?_ | refine awp_skip ?_ | refine awp_exit ?_ | refine awp_ret ?_ | refine sq_n ?_ | refine sq_r ?_ | refine sq_x ?_ | refine bq_n ?_ | refine bq_r ?_ | refine bq_x ?_ | refine bq_y rfl ?_ | refine pq_n ?_ | refine pq_r ?_ | refine pq_x ?_))
      refine awp_region cx [] fun K hK => ?_
      simp [push_cast]
      repeat (refine And.intro (by clear hK; intros; first | omega | (simp_all; done) | (simp_all <;> omega)) ?_)
      refine hK _ ?_; clear hK K; (repeat (first | refine awp_seq ?_ | refine awp_block ?_ | refine awp_scope ?_ | refine awp_skip ?_ | refine awp_exit ?_ | refine awp_ret ?_ | refine sq_n ?_ | refine sq_r ?_ | refine sq_x ?_ | refine bq_n ?_ | refine bq_r ?_ | refine bq_x ?_ | refine bq_y rfl ?_ | refine pq_n ?_ | refine pq_r ?_ | refine pq_x ?_))
      refine awp_region cx [(1, .p (.tup [.agg lo.row, .agg hi.row, .bool false]))] fun K hK => ?_
      simp [push_cast, c1]
      repeat (refine And.intro (by clear hK; intros; first | omega | (simp_all; done) | (simp_all <;> omega)) ?_)
      refine hK _ ?_; clear hK K; (repeat (first | refine awp_seq ?_ | refine awp_block ?_ | refine awp_scope ?_ | refine awp_skip ?_ | refine awp_exit ?_ | refine awp_ret ?_ | refine sq_n ?_ | refine sq_r ?_ | refine sq_x ?_ | refine bq_n ?_ | refine bq_r ?_ | refine bq_x ?_ | refine bq_y rfl ?_ | refine pq_n ?_ | refine pq_r ?_ | refine pq_x ?_))
      refine awp_region cx [(1, .p (.bool true))] fun K hK => ?_
      simp [push_cast, c2]
      repeat (refine And.intro (by clear hK; intros; first | omega | (simp_all; done) | (simp_all <;> omega)) ?_)
      refine hK _ ?_; clear hK K; (repeat (first | refine awp_seq ?_ | refine awp_block ?_ | refine awp_scope ?_ | refine awp_skip ?_ | refine awp_exit ?_ | refine awp_ret ?_ | refine sq_n ?_ | refine sq_r ?_ | refine sq_x ?_ | refine bq_n ?_ | refine bq_r ?_ | refine bq_x ?_ | refine bq_y rfl ?_ | refine pq_n ?_ | refine pq_r ?_ | refine pq_x ?_))
      refine awp_cond (b := false) (by simp [push_cast]) (fun hb => ?_) (fun hb => ?_) <;> ((repeat (first | refine awp_seq ?_ | refine awp_block ?_ | refine awp_scope ?_ | refine awp_skip ?_ | refine awp_exit ?_ | refine awp_ret ?_ | refine sq_n ?_ | refine sq_r ?_ | refine sq_x ?_ | refine bq_n ?_ | refine bq_r ?_ | refine bq_x ?_ | refine bq_y rfl ?_ | refine pq_n ?_ | refine pq_r ?_ | refine pq_x ?_)))
      · simp at hb
      · refine awp_region cx [] fun K hK => ?_
        simp [push_cast]
        repeat (refine And.intro (by clear hK; intros; first | omega | (simp_all; done) | (simp_all <;> omega)) ?_)
        refine hK _ ?_; clear hK K; (repeat (first | refine awp_seq ?_ | refine awp_block ?_ | refine awp_scope ?_ | refine awp_skip ?_ | refine awp_exit ?_ | refine awp_ret ?_ | refine sq_n ?_ | refine sq_r ?_ | refine sq_x ?_ | refine bq_n ?_ | refine bq_r ?_ | refine bq_x ?_ | refine bq_y rfl ?_ | refine pq_n ?_ | refine pq_r ?_ | refine pq_x ?_))
        refine awp_cond (b := true) (by simp [push_cast]) (fun hb => ?_) (fun hb => ?_) <;> ((repeat (first | refine awp_seq ?_ | refine awp_block ?_ | refine awp_scope ?_ | refine awp_skip ?_ | refine awp_exit ?_ | refine awp_ret ?_ | refine sq_n ?_ | refine sq_r ?_ | refine sq_x ?_ | refine bq_n ?_ | refine bq_r ?_ | refine bq_x ?_ | refine bq_y rfl ?_ | refine pq_n ?_ | refine pq_r ?_ | refine pq_x ?_)))
        · refine awp_region cx [] fun K hK => ?_
          simp [push_cast]
          repeat (refine And.intro (by clear hK; intros; first | omega | (simp_all; done) | (simp_all <;> omega)) ?_)
          refine hK _ ?_; clear hK K; (repeat (first | refine awp_seq ?_ | refine awp_block ?_ | refine awp_scope ?_ | refine awp_skip ?_ | refine awp_exit ?_ | refine awp_ret ?_ | refine sq_n ?_ | refine sq_r ?_ | refine sq_x ?_ | refine bq_n ?_ | refine bq_r ?_ | refine bq_x ?_ | refine bq_y rfl ?_ | refine pq_n ?_ | refine pq_r ?_ | refine pq_x ?_))
          simp [push_cast]
        · simp at hb
end Go.Proofs.Ytmfkfgonedgjnaa
