/-
  The walks of this seat's functions and the plain laws behind them: part R5.
-/
import Derived.Test.YtmfkfgonedgjnaaR4
set_option linter.unusedVariables false
set_option linter.unusedSimpArgs false
namespace Go.Proofs.Ytmfkfgonedgjnaa
open Go.Abs

/-! The horizontal tracks of a region, and the other cells. -/
def trkOf (y : Int) (r : Run) : List Track := if r.b = r.a + 1 then [] else [⟨2, false, runCells y r⟩]
def sngOf (y : Int) (r : Run) : List Cell := if r.b = r.a + 1 then [⟨r.a, y⟩] else []
def rowTrk (w : Row) : List Track := w.runs.flatMap (trkOf w.y)
def rowSng (w : Row) : List Cell := w.runs.flatMap (sngOf w.y)
def regTrk (R : List Row) : List Track := R.flatMap rowTrk
def regSng (R : List Row) : List Cell := R.flatMap rowSng

theorem flat_le {α β γ : Type} {f : α → List β} {g : α → List γ} : ∀ {l : List α}, (∀ x ∈ l, (f x).length ≤ (g x).length) → (l.flatMap f).length ≤ (l.flatMap g).length
  | [], _ => by simp
  | x :: l, h => by
    have h1 := h x (by simp)
    have h2 := flat_le (f := f) (g := g) (l := l) fun y hy => h y (by simp [hy])
    rw [List.flatMap_cons, List.flatMap_cons, List.length_append, List.length_append]
    omega
theorem flat_sub {α β : Type} (f : α → List β) {l l' : List α} (h : l'.length ≤ l.length) (hp : l' = l.take l'.length) : (l'.flatMap f).length ≤ (l.flatMap f).length := by
  conv => rhs; rw [← List.take_append_drop l'.length l, List.flatMap_append, List.length_append]
  rw [← hp]; omega

theorem run_one {r : Run} (y : Int) (h : r.a < r.b) : (trkOf y r).length ≤ (runCells y r).length ∧ (sngOf y r).length ≤ (runCells y r).length := by
  rw [runCells_len]
  unfold trkOf sngOf
  split <;> simp <;> omega
theorem row_runs {R : List Row} (h : validR R = true) {w : Row} (hw : w ∈ R) {r : Run} (hr : r ∈ w.runs) : -4096 ≤ r.a ∧ r.a < r.b ∧ r.b ≤ 4096 := by
  obtain ⟨i, hi⟩ := List.mem_iff_getElem?.1 hw
  obtain ⟨k, hk⟩ := List.mem_iff_getElem?.1 hr
  exact fine_at (validR_at h hi).2 hk
theorem row_le {R : List Row} (h : validR R = true) {w : Row} (hw : w ∈ R) : (rowTrk w).length ≤ (rowCells w).length ∧ (rowSng w).length ≤ (rowCells w).length :=
  ⟨flat_le fun r hr => (run_one w.y (row_runs h hw hr).2.1).1, flat_le fun r hr => (run_one w.y (row_runs h hw hr).2.1).2⟩
theorem reg_le {R : List Row} (h : validR R = true) : (regTrk R).length ≤ (regCells R).length ∧ (regSng R).length ≤ (regCells R).length :=
  ⟨flat_le fun w hw => (row_le h hw).1, flat_le fun w hw => (row_le h hw).2⟩

/-- What lies before run k of row i is a part. -/
theorem part_le {α : Type} (f : Int → Run → List α) {R : List Row} {i k : Nat} {w : Row} {r : Run} (hw : R[i]? = some w) (hr : w.runs[k]? = some r) : ((R.take i).flatMap fun w => w.runs.flatMap (f w.y)).length + ((w.runs.take k).flatMap (f w.y)).length + (f w.y r).length ≤ (R.flatMap fun w => w.runs.flatMap (f w.y)).length := by
  rw [flat_split (fun w : Row => w.runs.flatMap (f w.y)) hw, List.length_append, List.length_append, flat_split (f w.y) hr, List.length_append, List.length_append]
  omega

set_option maxHeartbeats 4000000 in
theorem wide_ok (R : List Row) (hR : smallR R) (hv : validR R = true) (hn : (regCells R).length ≤ 1000000) : PX Try.prog 51 [.d (.agg (regRow R))] [] [] [(1, ⟨33, 3, dr ((regTrk R).map Track.row)⟩), (2, ⟨35, 2, dr ((regSng R).map Cell.row)⟩)] (.tup [.hs 1 0 (regTrk R).length, .hs 2 0 (regSng R).length]) := by
  have hl := hR.1
  refine px_of_awp cx (fn := Try.f51) (c := _) 0 Try.func51 rfl rfl (Nat.le_of_ble_eq_true rfl) rfl rfl fun Ls => ?_
  rw [Try.ntmps51]; (repeat (first | refine awp_seq ?_ | refine awp_block ?_ | refine awp_scope ?_ | refine awp_skip ?_ | refine awp_exit ?_ | refine awp_ret ?_ | refine sq_n ?_ | refine sq_r ?_ | refine sq_x ?_ | refine bq_n ?_ | refine bq_r ?_ | refine bq_x ?_ | refine bq_y rfl ?_ | refine pq_n ?_ | refine pq_r ?_ | refine pq_x ?_))
  refine awp_region cx [] fun K hK => ?_
  simp [push_cast]
  repeat (refine And.intro (by clear hK; intros; first | omega | (simp_all; done) | (simp_all <;> omega)) ?_)
  refine hK _ ?_; clear hK K; (repeat (first | refine awp_seq ?_ | refine awp_block ?_ | refine awp_scope ?_ | refine awp_skip ?_ | refine awp_exit ?_ | refine awp_ret ?_ | refine sq_n ?_ | refine sq_r ?_ | refine sq_x ?_ | refine bq_n ?_ | refine bq_r ?_ | refine bq_x ?_ | refine bq_y rfl ?_ | refine pq_n ?_ | refine pq_r ?_ | refine pq_x ?_))
  refine awp_region cx [] fun K hK => ?_
  simp [push_cast]
  repeat (refine And.intro (by clear hK; intros; first | omega | (simp_all; done) | (simp_all <;> omega)) ?_)
  refine hK _ ?_; clear hK K; (repeat (first | refine awp_seq ?_ | refine awp_block ?_ | refine awp_scope ?_ | refine awp_skip ?_ | refine awp_exit ?_ | refine awp_ret ?_ | refine sq_n ?_ | refine sq_r ?_ | refine sq_x ?_ | refine bq_n ?_ | refine bq_r ?_ | refine bq_x ?_ | refine bq_y rfl ?_ | refine pq_n ?_ | refine pq_r ?_ | refine pq_x ?_))
  refine awp_region cx [] fun K hK => ?_
  simp [push_cast]
  repeat (refine And.intro (by clear hK; intros; first | omega | (simp_all; done) | (simp_all <;> omega)) ?_)
  refine hK _ ?_; clear hK K; (repeat (first | refine awp_seq ?_ | refine awp_block ?_ | refine awp_scope ?_ | refine awp_skip ?_ | refine awp_exit ?_ | refine awp_ret ?_ | refine sq_n ?_ | refine sq_r ?_ | refine sq_x ?_ | refine bq_n ?_ | refine bq_r ?_ | refine bq_x ?_ | refine bq_y rfl ?_ | refine pq_n ?_ | refine pq_r ?_ | refine pq_x ?_))
  refine awp_region cx [] fun K hK => ?_
  simp [push_cast]
  repeat (refine And.intro (by clear hK; intros; first | omega | (simp_all; done) | (simp_all <;> omega)) ?_)
  refine hK _ ?_; clear hK K; (repeat (first | refine awp_seq ?_ | refine awp_block ?_ | refine awp_scope ?_ | refine awp_skip ?_ | refine awp_exit ?_ | refine awp_ret ?_ | refine sq_n ?_ | refine sq_r ?_ | refine sq_x ?_ | refine bq_n ?_ | refine bq_r ?_ | refine bq_x ?_ | refine bq_y rfl ?_ | refine pq_n ?_ | refine pq_r ?_ | refine pq_x ?_))
  refine awp_region cx [] fun K hK => ?_
  simp [push_cast]
  repeat (refine And.intro (by clear hK; intros; first | omega | (simp_all; done) | (simp_all <;> omega)) ?_)
  refine hK _ ?_; clear hK K; (repeat (first | refine awp_seq ?_ | refine awp_block ?_ | refine awp_scope ?_ | refine awp_skip ?_ | refine awp_exit ?_ | refine awp_ret ?_ | refine sq_n ?_ | refine sq_r ?_ | refine sq_x ?_ | refine bq_n ?_ | refine bq_r ?_ | refine bq_x ?_ | refine bq_y rfl ?_ | refine pq_n ?_ | refine pq_r ?_ | refine pq_x ?_))
  refine awp_loop (β := Nat × List Track × List Cell × List Cell) (fun b => ⟨66, [(4, .hs 1 0 b.2.1.length), (5, .hs 2 0 b.2.2.1.length), (6, .hs 3 0 b.2.2.2.length), (13, .d (encRows R)), (14, .d (.int .i64 R.length)), (15, .d (.int .i64 b.1))], [(1, some ⟨33, 3, dr (b.2.1.map Track.row)⟩), (2, some ⟨35, 2, dr (b.2.2.1.map Cell.row)⟩), (3, some ⟨35, 2, dr (b.2.2.2.map Cell.row)⟩)], 4⟩)
    (fun b => b.1 ≤ R.length ∧ b.2.1 = (R.take b.1).flatMap rowTrk ∧ b.2.2.1 = (R.take b.1).flatMap rowSng) (fun b => R.length - b.1) (0, [], [], []) ?_ ⟨Nat.zero_le _, by simp, by simp⟩ ?_
  · refine weak_of [(1, none), (2, none), (3, none)] rfl (by simp [upT, up, upL, push_cast]) (by simp [upH, upR, upL, up, push_cast]) (by simp [namesOk, push_cast]) (by simp [olds])
  · rintro ⟨i, A, B, C⟩ ⟨hi, hA, hB⟩
    simp only at hi hA hB
    (repeat (first | refine awp_seq ?_ | refine awp_block ?_ | refine awp_scope ?_ | refine awp_skip ?_ | refine awp_exit ?_ | refine awp_ret ?_ | refine sq_n ?_ | refine sq_r ?_ | refine sq_x ?_ | refine bq_n ?_ | refine bq_r ?_ | refine bq_x ?_ | refine bq_y rfl ?_ | refine pq_n ?_ | refine pq_r ?_ | refine pq_x ?_))
    refine awp_region cx [] fun K hK => ?_
    simp [push_cast]
    repeat (refine And.intro (by clear hK; intros; first | omega | (simp_all; done) | (simp_all <;> omega)) ?_)
    refine hK _ ?_; clear hK K; (repeat (first | refine awp_seq ?_ | refine awp_block ?_ | refine awp_scope ?_ | refine awp_skip ?_ | refine awp_exit ?_ | refine awp_ret ?_ | refine sq_n ?_ | refine sq_r ?_ | refine sq_x ?_ | refine bq_n ?_ | refine bq_r ?_ | refine bq_x ?_ | refine bq_y rfl ?_ | refine pq_n ?_ | refine pq_r ?_ | refine pq_x ?_))
    refine awp_cond (b := decide ((i : Int) < R.length)) (by simp [push_cast]) (fun hb => ?_) (fun hb => ?_) <;> ((repeat (first | refine awp_seq ?_ | refine awp_block ?_ | refine awp_scope ?_ | refine awp_skip ?_ | refine awp_exit ?_ | refine awp_ret ?_ | refine sq_n ?_ | refine sq_r ?_ | refine sq_x ?_ | refine bq_n ?_ | refine bq_r ?_ | refine bq_x ?_ | refine bq_y rfl ?_ | refine pq_n ?_ | refine pq_r ?_ | refine pq_x ?_)))
    · have hlt : i < R.length := by simpa using hb
      obtain ⟨w, hw⟩ := getq hlt
      have e0 := wrap_i64 (n := (i : Int) + 1) (by omega) (by omega)
      have hwl := hR.2 w (List.mem_of_getElem? hw)
      have hwb := (validR_at hv hw).1
      refine awp_region cx [] fun K hK => ?_
      simp [push_cast, hw, Row.row]
      repeat (refine And.intro (by clear hK; intros; first | omega | (simp_all; done) | (simp_all <;> omega)) ?_)
      refine hK _ ?_; clear hK K; (repeat (first | refine awp_seq ?_ | refine awp_block ?_ | refine awp_scope ?_ | refine awp_skip ?_ | refine awp_exit ?_ | refine awp_ret ?_ | refine sq_n ?_ | refine sq_r ?_ | refine sq_x ?_ | refine bq_n ?_ | refine bq_r ?_ | refine bq_x ?_ | refine bq_y rfl ?_ | refine pq_n ?_ | refine pq_r ?_ | refine pq_x ?_))
      refine awp_region cx [] fun K hK => ?_
      simp [push_cast, hw, Row.row]
      repeat (refine And.intro (by clear hK; intros; first | omega | (simp_all; done) | (simp_all <;> omega)) ?_)
      refine hK _ ?_; clear hK K; (repeat (first | refine awp_seq ?_ | refine awp_block ?_ | refine awp_scope ?_ | refine awp_skip ?_ | refine awp_exit ?_ | refine awp_ret ?_ | refine sq_n ?_ | refine sq_r ?_ | refine sq_x ?_ | refine bq_n ?_ | refine bq_r ?_ | refine bq_x ?_ | refine bq_y rfl ?_ | refine pq_n ?_ | refine pq_r ?_ | refine pq_x ?_))
      refine awp_loop (β := Nat × List Track × List Cell × List Cell) (fun b => ⟨66, [(4, .hs 1 0 b.2.1.length), (5, .hs 2 0 b.2.2.1.length), (6, .hs 3 0 b.2.2.2.length), (8, .ptr 4 0 0), (13, .d (encRows R)), (14, .d (.int .i64 R.length)), (15, .d (.int .i64 i)), (20, .d (encRuns w.runs)), (21, .d (.int .i64 w.runs.length)), (22, .d (.int .i64 b.1))], [(1, some ⟨33, 3, dr (b.2.1.map Track.row)⟩), (2, some ⟨35, 2, dr (b.2.2.1.map Cell.row)⟩), (3, some ⟨35, 2, dr (b.2.2.2.map Cell.row)⟩), (4, some ⟨58, 2, [w.row.map .d]⟩)], 5⟩)
        (fun b => b.1 ≤ w.runs.length ∧ b.2.1 = A ++ (w.runs.take b.1).flatMap (trkOf w.y) ∧ b.2.2.1 = B ++ (w.runs.take b.1).flatMap (sngOf w.y)) (fun b => w.runs.length - b.1) (0, A, B, C) ?_ ⟨Nat.zero_le _, by simp, by simp⟩ ?_
      · refine weak_of [(1, some 1), (2, some 2), (3, some 3), (4, some 7)] rfl (by simp [upT, up, upL, push_cast, Row.row]) (by simp [upH, upR, upL, up, push_cast, Row.row]) (by simp [namesOk, push_cast]) (by simp [olds])
      · rintro ⟨k, A', B', C'⟩ ⟨hk, hA', hB'⟩
        simp only at hk hA' hB'
        (repeat (first | refine awp_seq ?_ | refine awp_block ?_ | refine awp_scope ?_ | refine awp_skip ?_ | refine awp_exit ?_ | refine awp_ret ?_ | refine sq_n ?_ | refine sq_r ?_ | refine sq_x ?_ | refine bq_n ?_ | refine bq_r ?_ | refine bq_x ?_ | refine bq_y rfl ?_ | refine pq_n ?_ | refine pq_r ?_ | refine pq_x ?_))
        refine awp_region cx [] fun K hK => ?_
        simp [push_cast]
        repeat (refine And.intro (by clear hK; intros; first | omega | (simp_all; done) | (simp_all <;> omega)) ?_)
        refine hK _ ?_; clear hK K; (repeat (first | refine awp_seq ?_ | refine awp_block ?_ | refine awp_scope ?_ | refine awp_skip ?_ | refine awp_exit ?_ | refine awp_ret ?_ | refine sq_n ?_ | refine sq_r ?_ | refine sq_x ?_ | refine bq_n ?_ | refine bq_r ?_ | refine bq_x ?_ | refine bq_y rfl ?_ | refine pq_n ?_ | refine pq_r ?_ | refine pq_x ?_))
        refine awp_cond (b := decide ((k : Int) < w.runs.length)) (by simp [push_cast]) (fun hb => ?_) (fun hb => ?_) <;> ((repeat (first | refine awp_seq ?_ | refine awp_block ?_ | refine awp_scope ?_ | refine awp_skip ?_ | refine awp_exit ?_ | refine awp_ret ?_ | refine sq_n ?_ | refine sq_r ?_ | refine sq_x ?_ | refine bq_n ?_ | refine bq_r ?_ | refine bq_x ?_ | refine bq_y rfl ?_ | refine pq_n ?_ | refine pq_r ?_ | refine pq_x ?_)))
        · have hlk : k < w.runs.length := by simpa using hb
          obtain ⟨r, hr⟩ := getq hlk
          have e1 := wrap_i64 (n := (k : Int) + 1) (by omega) (by omega)
          have hrb := row_runs hv (List.mem_of_getElem? hw) (List.mem_of_getElem? hr)
          have hAl : A'.length ≤ 1000000 := by
            have h1 := part_le trkOf hw hr
            have h2 := (reg_le hv).1
            have h3 : A'.length = ((R.take i).flatMap fun w => w.runs.flatMap (trkOf w.y)).length + ((w.runs.take k).flatMap (trkOf w.y)).length := by rw [hA', hA, List.length_append]; rfl
            have h4 : (regTrk R).length = (R.flatMap fun w => w.runs.flatMap (trkOf w.y)).length := rfl
            omega
          have hBl : B'.length ≤ 1000000 := by
            have h1 := part_le sngOf hw hr
            have h2 := (reg_le hv).2
            have h3 : B'.length = ((R.take i).flatMap fun w => w.runs.flatMap (sngOf w.y)).length + ((w.runs.take k).flatMap (sngOf w.y)).length := by rw [hB', hB, List.length_append]; rfl
            have h4 : (regSng R).length = (R.flatMap fun w => w.runs.flatMap (sngOf w.y)).length := rfl
            omega
          have hcl : (runCells w.y r).length ≤ 1000000 := by rw [runCells_len]; omega
          have hnA : (w.runs.take (k + 1)).flatMap (trkOf w.y) = (w.runs.take k).flatMap (trkOf w.y) ++ trkOf w.y r := flat_take _ hr
          have hnB : (w.runs.take (k + 1)).flatMap (sngOf w.y) = (w.runs.take k).flatMap (sngOf w.y) ++ sngOf w.y r := flat_take _ hr
          have hrl := runCells_len w.y r
          have htk := fun j => @runCells_take w.y r j
          have et : trkOf w.y r = if r.b = r.a + 1 then [] else [⟨2, false, runCells w.y r⟩] := rfl
          have es : sngOf w.y r = if r.b = r.a + 1 then [⟨r.a, w.y⟩] else [] := rfl
          obtain ⟨ra, rb⟩ := r
          simp only at hrb hrl htk et es
          have e2 := wrap_i64 (n := ra + 1) (by omega) (by omega)
          have hA40 : (A'.length + 1) * 40 ≤ 140737488355328 := by omega
          have hB16 : (B'.length + 1) * 16 ≤ 140737488355328 := by omega
          refine awp_region cx [] fun K hK => ?_
          simp [push_cast, hr, Run.row]
          repeat (refine And.intro (by clear hK; intros; first | omega | (simp_all; done) | (simp_all <;> omega)) ?_)
          refine hK _ ?_; clear hK K; (repeat (first | refine awp_seq ?_ | refine awp_block ?_ | refine awp_scope ?_ | refine awp_skip ?_ | refine awp_exit ?_ | refine awp_ret ?_ | refine sq_n ?_ | refine sq_r ?_ | refine sq_x ?_ | refine bq_n ?_ | refine bq_r ?_ | refine bq_x ?_ | refine bq_y rfl ?_ | refine pq_n ?_ | refine pq_r ?_ | refine pq_x ?_))
          refine awp_region cx [] fun K hK => ?_
          simp [push_cast, e2, Run.row]
          repeat (refine And.intro (by clear hK; intros; first | omega | (simp_all; done) | (simp_all <;> omega)) ?_)
          refine hK _ ?_; clear hK K; (repeat (first | refine awp_seq ?_ | refine awp_block ?_ | refine awp_scope ?_ | refine awp_skip ?_ | refine awp_exit ?_ | refine awp_ret ?_ | refine sq_n ?_ | refine sq_r ?_ | refine sq_x ?_ | refine bq_n ?_ | refine bq_r ?_ | refine bq_x ?_ | refine bq_y rfl ?_ | refine pq_n ?_ | refine pq_r ?_ | refine pq_x ?_))
          refine awp_cond (by simp [push_cast] <;> exact rfl) (fun hb => ?_) (fun hb => ?_) <;> ((repeat (first | refine awp_seq ?_ | refine awp_block ?_ | refine awp_scope ?_ | refine awp_skip ?_ | refine awp_exit ?_ | refine awp_ret ?_ | refine sq_n ?_ | refine sq_r ?_ | refine sq_x ?_ | refine bq_n ?_ | refine bq_r ?_ | refine bq_x ?_ | refine bq_y rfl ?_ | refine pq_n ?_ | refine pq_r ?_ | refine pq_x ?_)))
          · simp at hb
            rw [if_pos hb] at et es
            refine awp_region cx [] fun K hK => ?_
            simp [push_cast, Row.row, Run.row, hB16]
            repeat (refine And.intro (by clear hK; intros; first | omega | (simp_all; done) | (simp_all <;> omega)) ?_)
            refine hK _ ?_; clear hK K; (repeat (first | refine awp_seq ?_ | refine awp_block ?_ | refine awp_scope ?_ | refine awp_skip ?_ | refine awp_exit ?_ | refine awp_ret ?_ | refine sq_n ?_ | refine sq_r ?_ | refine sq_x ?_ | refine bq_n ?_ | refine bq_r ?_ | refine bq_x ?_ | refine bq_y rfl ?_ | refine pq_n ?_ | refine pq_r ?_ | refine pq_x ?_))
            refine awp_region cx [] fun K hK => ?_
            simp [push_cast, e1]
            repeat (refine And.intro (by clear hK; intros; first | omega | (simp_all; done) | (simp_all <;> omega)) ?_)
            refine hK _ ?_; clear hK K; (repeat (first | refine awp_seq ?_ | refine awp_block ?_ | refine awp_scope ?_ | refine awp_skip ?_ | refine awp_exit ?_ | refine awp_ret ?_ | refine sq_n ?_ | refine sq_r ?_ | refine sq_x ?_ | refine bq_n ?_ | refine bq_r ?_ | refine bq_x ?_ | refine bq_y rfl ?_ | refine pq_n ?_ | refine pq_r ?_ | refine pq_x ?_))
            refine ⟨(k + 1, A', B' ++ [⟨ra, w.y⟩], C'), ⟨hlk, by rw [hA', hnA, et]; simp, by rw [hB', hnB, es]; simp⟩, by simp only; omega, ?_⟩
            refine weak_of [(1, some 1), (2, some 23), (3, some 3), (4, some 4)] rfl (by simp [upT, up, upL, push_cast, Row.row]) (by simp [upH, upR, upL, up, push_cast, Row.row]) (by simp [namesOk, push_cast]) (by simp [olds])
          · simp at hb
            rw [if_neg hb] at et es
            refine awp_region cx [] fun K hK => ?_
            simp [push_cast]
            repeat (refine And.intro (by clear hK; intros; first | omega | (simp_all; done) | (simp_all <;> omega)) ?_)
            refine hK _ ?_; clear hK K; (repeat (first | refine awp_seq ?_ | refine awp_block ?_ | refine awp_scope ?_ | refine awp_skip ?_ | refine awp_exit ?_ | refine awp_ret ?_ | refine sq_n ?_ | refine sq_r ?_ | refine sq_x ?_ | refine bq_n ?_ | refine bq_r ?_ | refine bq_x ?_ | refine bq_y rfl ?_ | refine pq_n ?_ | refine pq_r ?_ | refine pq_x ?_))
            refine awp_trunc 3 0 rfl fun K hK => ?_
            simp [push_cast]
            refine hK _ ?_; clear hK K; (repeat (first | refine awp_seq ?_ | refine awp_block ?_ | refine awp_scope ?_ | refine awp_skip ?_ | refine awp_exit ?_ | refine awp_ret ?_ | refine sq_n ?_ | refine sq_r ?_ | refine sq_x ?_ | refine bq_n ?_ | refine bq_r ?_ | refine bq_x ?_ | refine bq_y rfl ?_ | refine pq_n ?_ | refine pq_r ?_ | refine pq_x ?_))
            refine awp_region cx [] fun K hK => ?_
            simp [push_cast, Run.row]
            repeat (refine And.intro (by clear hK; intros; first | omega | (simp_all; done) | (simp_all <;> omega)) ?_)
            refine hK _ ?_; clear hK K; (repeat (first | refine awp_seq ?_ | refine awp_block ?_ | refine awp_scope ?_ | refine awp_skip ?_ | refine awp_exit ?_ | refine awp_ret ?_ | refine sq_n ?_ | refine sq_r ?_ | refine sq_x ?_ | refine bq_n ?_ | refine bq_r ?_ | refine bq_x ?_ | refine bq_y rfl ?_ | refine pq_n ?_ | refine pq_r ?_ | refine pq_x ?_))
            refine awp_loop (β := Nat × List Cell) (fun b => ⟨66, [(4, .hs 1 0 A'.length), (5, .hs 2 0 B'.length), (6, .hs 3 0 b.2.length), (8, .ptr 4 0 0), (10, .ptr 5 0 0), (11, .d (.int .i64 (ra + b.1))), (13, .d (encRows R)), (14, .d (.int .i64 R.length)), (15, .d (.int .i64 i)), (20, .d (encRuns w.runs)), (21, .d (.int .i64 w.runs.length)), (22, .d (.int .i64 k))], [(1, some ⟨33, 3, dr (A'.map Track.row)⟩), (2, some ⟨35, 2, dr (B'.map Cell.row)⟩), (3, some ⟨35, 2, dr (b.2.map Cell.row)⟩), (4, some ⟨58, 2, [w.row.map .d]⟩), (5, some ⟨60, 2, [(Run.row ⟨ra, rb⟩).map .d]⟩)], 6⟩)
              (fun b => b.1 ≤ (rb - ra).toNat ∧ b.2 = (runCells w.y ⟨ra, rb⟩).take b.1) (fun b => (rb - ra).toNat - b.1) (0, []) ?_ ⟨Nat.zero_le _, by simp⟩ ?_
            · refine weak_of [(1, some 1), (2, some 2), (3, some 3), (4, some 4), (5, some 8)] rfl (by simp [upT, up, upL, push_cast, Row.row, Run.row]) (by simp [upH, upR, upL, up, push_cast, Row.row, Run.row]) (by simp [namesOk, push_cast]) (by simp [olds])
            · rintro ⟨j, W⟩ ⟨hj, hW⟩
              simp only at hj hW
              (repeat (first | refine awp_seq ?_ | refine awp_block ?_ | refine awp_scope ?_ | refine awp_skip ?_ | refine awp_exit ?_ | refine awp_ret ?_ | refine sq_n ?_ | refine sq_r ?_ | refine sq_x ?_ | refine bq_n ?_ | refine bq_r ?_ | refine bq_x ?_ | refine bq_y rfl ?_ | refine pq_n ?_ | refine pq_r ?_ | refine pq_x ?_))
              have hWl : W.length = j := by rw [hW, List.length_take, hrl]; omega
              by_cases hjl : j < (rb - ra).toNat
              · have hcd : ra + (j : Int) < rb := by omega
                have e3 := wrap_i64 (n := ra + (j : Int) + 1) (by omega) (by omega)
                have hap : (W.length + 1) * 16 ≤ 140737488355328 := by omega
                have htk' := htk j hjl
                refine awp_region cx [] fun K hK => ?_
                simp [push_cast, Run.row]
                repeat (refine And.intro (by clear hK; intros; first | omega | (simp_all; done) | (simp_all <;> omega)) ?_)
                refine hK _ ?_; clear hK K; (repeat (first | refine awp_seq ?_ | refine awp_block ?_ | refine awp_scope ?_ | refine awp_skip ?_ | refine awp_exit ?_ | refine awp_ret ?_ | refine sq_n ?_ | refine sq_r ?_ | refine sq_x ?_ | refine bq_n ?_ | refine bq_r ?_ | refine bq_x ?_ | refine bq_y rfl ?_ | refine pq_n ?_ | refine pq_r ?_ | refine pq_x ?_))
                refine awp_cond (b := true) (by simp [push_cast, hcd]) (fun hb => ?_) (fun hb => ?_) <;> ((repeat (first | refine awp_seq ?_ | refine awp_block ?_ | refine awp_scope ?_ | refine awp_skip ?_ | refine awp_exit ?_ | refine awp_ret ?_ | refine sq_n ?_ | refine sq_r ?_ | refine sq_x ?_ | refine bq_n ?_ | refine bq_r ?_ | refine bq_x ?_ | refine bq_y rfl ?_ | refine pq_n ?_ | refine pq_r ?_ | refine pq_x ?_)))
                · refine awp_region cx [] fun K hK => ?_
                  simp [push_cast, Row.row, hap]
                  repeat (refine And.intro (by clear hK; intros; first | omega | (simp_all; done) | (simp_all <;> omega)) ?_)
                  refine hK _ ?_; clear hK K; (repeat (first | refine awp_seq ?_ | refine awp_block ?_ | refine awp_scope ?_ | refine awp_skip ?_ | refine awp_exit ?_ | refine awp_ret ?_ | refine sq_n ?_ | refine sq_r ?_ | refine sq_x ?_ | refine bq_n ?_ | refine bq_r ?_ | refine bq_x ?_ | refine bq_y rfl ?_ | refine pq_n ?_ | refine pq_r ?_ | refine pq_x ?_))
                  refine awp_region cx [] fun K hK => ?_
                  simp [push_cast, e3]
                  repeat (refine And.intro (by clear hK; intros; first | omega | (simp_all; done) | (simp_all <;> omega)) ?_)
                  refine hK _ ?_; clear hK K; (repeat (first | refine awp_seq ?_ | refine awp_block ?_ | refine awp_scope ?_ | refine awp_skip ?_ | refine awp_exit ?_ | refine awp_ret ?_ | refine sq_n ?_ | refine sq_r ?_ | refine sq_x ?_ | refine bq_n ?_ | refine bq_r ?_ | refine bq_x ?_ | refine bq_y rfl ?_ | refine pq_n ?_ | refine pq_r ?_ | refine pq_x ?_))
                  refine ⟨(j + 1, W ++ [⟨ra + j, w.y⟩]), ⟨hjl, by rw [hW, htk']⟩, by simp only; omega, ?_⟩
                  refine weak_of [(1, some 1), (2, some 2), (3, some 16), (4, some 4), (5, some 5)] rfl (by simp [upT, up, upL, push_cast, Row.row, Run.row, Int.add_assoc]) (by simp [upH, upR, upL, up, push_cast, Row.row, Run.row, Int.add_assoc]) (by simp [namesOk, push_cast]) (by simp [olds])
                · simp at hb
              · have hje : j = (rb - ra).toNat := by omega
                have hcd : ¬ ra + (j : Int) < rb := by omega
                have hfull : W = runCells w.y ⟨ra, rb⟩ := by rw [hW]; exact List.take_of_length_le (by rw [hrl]; omega)
                have c1 := path_ok W (by rw [hfull]; exact hcl)
                rw [← hfull] at et
                have hWt : List.take W.length (W.map Cell.row) = W.map Cell.row := List.take_of_length_le (by simp)
                refine awp_region cx [] fun K hK => ?_
                simp [push_cast, Run.row]
                repeat (refine And.intro (by clear hK; intros; first | omega | (simp_all; done) | (simp_all <;> omega)) ?_)
                refine hK _ ?_; clear hK K; (repeat (first | refine awp_seq ?_ | refine awp_block ?_ | refine awp_scope ?_ | refine awp_skip ?_ | refine awp_exit ?_ | refine awp_ret ?_ | refine sq_n ?_ | refine sq_r ?_ | refine sq_x ?_ | refine bq_n ?_ | refine bq_r ?_ | refine bq_x ?_ | refine bq_y rfl ?_ | refine pq_n ?_ | refine pq_r ?_ | refine pq_x ?_))
                refine awp_cond (b := false) (by simp [push_cast, hcd]) (fun hb => ?_) (fun hb => ?_) <;> ((repeat (first | refine awp_seq ?_ | refine awp_block ?_ | refine awp_scope ?_ | refine awp_skip ?_ | refine awp_exit ?_ | refine awp_ret ?_ | refine sq_n ?_ | refine sq_r ?_ | refine sq_x ?_ | refine bq_n ?_ | refine bq_r ?_ | refine bq_x ?_ | refine bq_y rfl ?_ | refine pq_n ?_ | refine pq_r ?_ | refine pq_x ?_)))
                · simp at hb
                · refine awp_region cx [(2, .f (.agg (Track.row ⟨2, false, W⟩)))] fun K hK => ?_
                  simp [push_cast, c1, hWt, hA40]
                  repeat (refine And.intro (by clear hK; intros; first | omega | (simp_all; done) | (simp_all <;> omega)) ?_)
                  refine hK _ ?_; clear hK K; (repeat (first | refine awp_seq ?_ | refine awp_block ?_ | refine awp_scope ?_ | refine awp_skip ?_ | refine awp_exit ?_ | refine awp_ret ?_ | refine sq_n ?_ | refine sq_r ?_ | refine sq_x ?_ | refine bq_n ?_ | refine bq_r ?_ | refine bq_x ?_ | refine bq_y rfl ?_ | refine pq_n ?_ | refine pq_r ?_ | refine pq_x ?_))
                  refine awp_region cx [] fun K hK => ?_
                  simp [push_cast, e1]
                  repeat (refine And.intro (by clear hK; intros; first | omega | (simp_all; done) | (simp_all <;> omega)) ?_)
                  refine hK _ ?_; clear hK K; (repeat (first | refine awp_seq ?_ | refine awp_block ?_ | refine awp_scope ?_ | refine awp_skip ?_ | refine awp_exit ?_ | refine awp_ret ?_ | refine sq_n ?_ | refine sq_r ?_ | refine sq_x ?_ | refine bq_n ?_ | refine bq_r ?_ | refine bq_x ?_ | refine bq_y rfl ?_ | refine pq_n ?_ | refine pq_r ?_ | refine pq_x ?_))
                  refine ⟨(k + 1, A' ++ [⟨2, false, W⟩], B', W), ⟨hlk, by rw [hA', hnA, et]; simp, by rw [hB', hnB, es]; simp⟩, by simp only; omega, ?_⟩
                  refine weak_of [(1, some 14), (2, some 2), (3, some 3), (4, some 4)] rfl (by simp [upT, up, upL, push_cast, Row.row]) (by simp [upH, upR, upL, up, push_cast, Row.row]) (by simp [namesOk, push_cast]) (by simp [olds])
        · have hkn : k = w.runs.length := by simp at hb; omega
          subst hkn
          rw [List.take_length] at hA' hB'
          refine awp_region cx [] fun K hK => ?_
          simp [push_cast, e0]
          repeat (refine And.intro (by clear hK; intros; first | omega | (simp_all; done) | (simp_all <;> omega)) ?_)
          refine hK _ ?_; clear hK K; (repeat (first | refine awp_seq ?_ | refine awp_block ?_ | refine awp_scope ?_ | refine awp_skip ?_ | refine awp_exit ?_ | refine awp_ret ?_ | refine sq_n ?_ | refine sq_r ?_ | refine sq_x ?_ | refine bq_n ?_ | refine bq_r ?_ | refine bq_x ?_ | refine bq_y rfl ?_ | refine pq_n ?_ | refine pq_r ?_ | refine pq_x ?_))
          refine ⟨(i + 1, A', B', C'), ⟨hlt, by rw [hA', hA, flat_take rowTrk hw]; rfl, by rw [hB', hB, flat_take rowSng hw]; rfl⟩, by simp only; omega, ?_⟩
          refine weak_of [(1, some 1), (2, some 2), (3, some 3)] rfl (by simp [upT, up, upL, push_cast]) (by simp [upH, upR, upL, up, push_cast]) (by simp [namesOk, push_cast]) (by simp [olds])
    · have hin : i = R.length := by simp at hb; omega
      subst hin
      rw [List.take_length] at hA hB
      have hA2 : regTrk R = A := hA.symm
      have hB2 : regSng R = B := hB.symm
      rw [hA2, hB2]
      refine awp_region cx [] fun K hK => ?_
      simp [push_cast]
      repeat (refine And.intro (by clear hK; intros; first | omega | (simp_all; done) | (simp_all <;> omega)) ?_)
      refine hK _ ?_; clear hK K; (repeat (first | refine awp_seq ?_ | refine awp_block ?_ | refine awp_scope ?_ | refine awp_skip ?_ | refine awp_exit ?_ | refine awp_ret ?_ | refine sq_n ?_ | refine sq_r ?_ | refine sq_x ?_ | refine bq_n ?_ | refine bq_r ?_ | refine bq_x ?_ | refine bq_y rfl ?_ | refine pq_n ?_ | refine pq_r ?_ | refine pq_x ?_))
      first | refine rx_r [(1, 1), (2, 2)] ?_ | refine rx_n [(1, 1), (2, 2)] ?_
      simp [push_cast]
      try decide
end Go.Proofs.Ytmfkfgonedgjnaa
