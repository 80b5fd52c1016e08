/-
  The walks of this seat's functions and the plain laws behind them: part R4.
-/
import Derived.Test.YtmfkfgonedgjnaaR3
set_option linter.unusedVariables false
set_option linter.unusedSimpArgs false
namespace Go.Proofs.Ytmfkfgonedgjnaa
open Go.Abs

/-! The cells of a region. -/
def runCells (y : Int) (r : Run) : List Cell := (List.range (r.b - r.a).toNat).map fun k : Nat => ⟨r.a + k, y⟩
def rowCells (w : Row) : List Cell := w.runs.flatMap (runCells w.y)
def regCells (R : List Row) : List Cell := R.flatMap rowCells
def cellsOf (R : List Row) : List Cell := if validR R then regCells R else []

theorem flat_take {α β : Type} (f : α → List β) {l : List α} {i : Nat} {x : α} (h : l[i]? = some x) : (l.take (i + 1)).flatMap f = (l.take i).flatMap f ++ f x := by
  rw [take_get h]; simp
theorem flat_split {α β : Type} (f : α → List β) {l : List α} {i : Nat} {x : α} (h : l[i]? = some x) : l.flatMap f = (l.take i).flatMap f ++ f x ++ (l.drop (i + 1)).flatMap f := by
  conv => lhs; rw [← List.take_append_drop (i + 1) l, List.flatMap_append, flat_take f h]
theorem runCells_take (y : Int) (r : Run) {j : Nat} (hj : j < (r.b - r.a).toNat) : (runCells y r).take (j + 1) = (runCells y r).take j ++ [⟨r.a + j, y⟩] :=
  take_get (by simp [runCells, hj])
theorem runCells_len (y : Int) (r : Run) : (runCells y r).length = (r.b - r.a).toNat := by simp [runCells]

def rowsTo (R : List Row) (i : Nat) : List Cell := (R.take i).flatMap rowCells
def runsTo (w : Row) (k : Nat) : List Cell := (w.runs.take k).flatMap (runCells w.y)
theorem rowsTo_zero (R : List Row) : rowsTo R 0 = [] := by simp [rowsTo]
theorem runsTo_zero (w : Row) : runsTo w 0 = [] := by simp [runsTo]
theorem rowsTo_all (R : List Row) : rowsTo R R.length = regCells R := by simp [rowsTo, regCells]
theorem runsTo_all (w : Row) : runsTo w w.runs.length = rowCells w := by simp [runsTo, rowCells]
theorem rowsTo_next {R : List Row} {i : Nat} {w : Row} (h : R[i]? = some w) : rowsTo R (i + 1) = rowsTo R i ++ rowCells w := flat_take rowCells h
theorem runsTo_next {w : Row} {k : Nat} {r : Run} (h : w.runs[k]? = some r) : runsTo w (k + 1) = runsTo w k ++ runCells w.y r := flat_take (runCells w.y) h
theorem cells_big {R : List Row} {i k : Nat} {w : Row} {r : Run} (hw : R[i]? = some w) (hr : w.runs[k]? = some r) : (rowsTo R i).length + (runsTo w k).length + (r.b - r.a).toNat ≤ (regCells R).length := by
  have h1 := flat_split rowCells hw
  have h2 := flat_split (runCells w.y) hr
  unfold regCells
  rw [h1, show rowCells w = _ from h2]
  simp only [List.length_append, rowsTo, runsTo, runCells_len]
  omega

theorem fine_at {l : List Run} (h : fine l = true) {k : Nat} {r : Run} (hr : l[k]? = some r) : -4096 ≤ r.a ∧ r.a < r.b ∧ r.b ≤ 4096 := by
  simp only [fine, Bool.and_eq_true] at h
  have hk := (List.getElem?_eq_some_iff.1 hr).1
  obtain ⟨p, hp⟩ : ∃ p, l[k - 1]? = some p := getq (by omega)
  have := all_range_at h.1 hk
  rw [fnAt_some hr hp] at this
  simp at this
  omega
theorem fine_gap {l : List Run} (h : fine l = true) {k : Nat} {r p : Run} (hr : l[k + 1]? = some r) (hp : l[k]? = some p) : p.b < r.a := by
  simp only [fine, Bool.and_eq_true] at h
  have hk := (List.getElem?_eq_some_iff.1 hr).1
  have := all_range_at h.1 hk
  rw [fnAt_some hr (by simpa using hp)] at this
  simp at this
  omega
theorem validR_at {R : List Row} (h : validR R = true) {i : Nat} {w : Row} (hw : R[i]? = some w) : (-4096 ≤ w.y ∧ w.y < 4096) ∧ fine w.runs = true := by
  have hk := (List.getElem?_eq_some_iff.1 hw).1
  obtain ⟨p, hp⟩ : ∃ p, R[i - 1]? = some p := getq (by omega)
  have := all_range_at h hk
  rw [rowAt_some hw hp] at this
  simp [okB] at this
  exact ⟨this.1.1, this.2⟩
theorem validR_gap {R : List Row} (h : validR R = true) {i : Nat} {w p : Row} (hw : R[i + 1]? = some w) (hp : R[i]? = some p) : p.y < w.y := by
  have hk := (List.getElem?_eq_some_iff.1 hw).1
  have := all_range_at h hk
  rw [rowAt_some hw (by simpa using hp)] at this
  simp at this
  omega

set_option maxHeartbeats 4000000 in
theorem rcells_ok (R : List Row) (hR : smallR R) (hn : validR R = true → (regCells R).length ≤ 1000000) : PC Try.prog 32 [.agg (regRow R)] (.p (encCells (cellsOf R))) := by
  have c1 := validR_ok R hR
  have hl := hR.1
  have hC : cellsOf R = if validR R then regCells R else [] := rfl
  generalize hv : validR R = v at *
  refine pc_of_awp cx (fn := Try.f32) (c := _) Try.func32 rfl rfl (Nat.le_of_ble_eq_true rfl) ?_
  rw [Try.ntmps32]; (repeat (first | refine awp_seq ?_ | refine awp_block ?_ | refine awp_scope ?_ | refine awp_skip ?_ | refine awp_exit ?_ | refine awp_ret ?_ | refine sq_n ?_ | refine sq_r ?_ | refine sq_x ?_ | refine bq_n ?_ | refine bq_r ?_ | refine bq_x ?_ | refine bq_y rfl ?_ | refine pq_n ?_ | refine pq_r ?_ | refine pq_x ?_))
  refine awp_region cx [] fun K hK => ?_
  simp [push_cast]
  repeat (refine And.intro (by clear hK; intros; first | omega | (simp_all; done) | (simp_all <;> omega)) ?_)
  refine hK _ ?_; clear hK K; (repeat (first | refine awp_seq ?_ | refine awp_block ?_ | refine awp_scope ?_ | refine awp_skip ?_ | refine awp_exit ?_ | refine awp_ret ?_ | refine sq_n ?_ | refine sq_r ?_ | refine sq_x ?_ | refine bq_n ?_ | refine bq_r ?_ | refine bq_x ?_ | refine bq_y rfl ?_ | refine pq_n ?_ | refine pq_r ?_ | refine pq_x ?_))
  refine awp_region cx [] fun K hK => ?_
  simp [push_cast]
  repeat (refine And.intro (by clear hK; intros; first | omega | (simp_all; done) | (simp_all <;> omega)) ?_)
  refine hK _ ?_; clear hK K; (repeat (first | refine awp_seq ?_ | refine awp_block ?_ | refine awp_scope ?_ | refine awp_skip ?_ | refine awp_exit ?_ | refine awp_ret ?_ | refine sq_n ?_ | refine sq_r ?_ | refine sq_x ?_ | refine bq_n ?_ | refine bq_r ?_ | refine bq_x ?_ | refine bq_y rfl ?_ | refine pq_n ?_ | refine pq_r ?_ | refine pq_x ?_))
  refine awp_region cx [(1, .p (.bool v))] fun K hK => ?_
  simp [push_cast, c1]
  repeat (refine And.intro (by clear hK; intros; first | omega | (simp_all; done) | (simp_all <;> omega)) ?_)
  refine hK _ ?_; clear hK K; (repeat (first | refine awp_seq ?_ | refine awp_block ?_ | refine awp_scope ?_ | refine awp_skip ?_ | refine awp_exit ?_ | refine awp_ret ?_ | refine sq_n ?_ | refine sq_r ?_ | refine sq_x ?_ | refine bq_n ?_ | refine bq_r ?_ | refine bq_x ?_ | refine bq_y rfl ?_ | refine pq_n ?_ | refine pq_r ?_ | refine pq_x ?_))
  refine awp_cond (b := !v) (by simp [push_cast]) (fun hb => ?_) (fun hb => ?_) <;> ((repeat (first | refine awp_seq ?_ | refine awp_block ?_ | refine awp_scope ?_ | refine awp_skip ?_ | refine awp_exit ?_ | refine awp_ret ?_ | refine sq_n ?_ | refine sq_r ?_ | refine sq_x ?_ | refine bq_n ?_ | refine bq_r ?_ | refine bq_x ?_ | refine bq_y rfl ?_ | refine pq_n ?_ | refine pq_r ?_ | refine pq_x ?_)))
  · simp at hb
    rw [hC, hb]
    refine awp_region cx [] fun K hK => ?_
    simp [push_cast]
    repeat (refine And.intro (by clear hK; intros; first | omega | (simp_all; done) | (simp_all <;> omega)) ?_)
    refine hK _ ?_; clear hK K; (repeat (first | refine awp_seq ?_ | refine awp_block ?_ | refine awp_scope ?_ | refine awp_skip ?_ | refine awp_exit ?_ | refine awp_ret ?_ | refine sq_n ?_ | refine sq_r ?_ | refine sq_x ?_ | refine bq_n ?_ | refine bq_r ?_ | refine bq_x ?_ | refine bq_y rfl ?_ | refine pq_n ?_ | refine pq_r ?_ | refine pq_x ?_))
    simp [push_cast]
  · simp at hb
    rw [hb] at hC hv
    have hn := hn hb
    rw [hC, if_pos rfl]
    clear hC
    refine awp_region cx [] fun K hK => ?_
    simp [push_cast]
    repeat (refine And.intro (by clear hK; intros; first | omega | (simp_all; done) | (simp_all <;> omega)) ?_)
    refine hK _ ?_; clear hK K; (repeat (first | refine awp_seq ?_ | refine awp_block ?_ | refine awp_scope ?_ | refine awp_skip ?_ | refine awp_exit ?_ | refine awp_ret ?_ | refine sq_n ?_ | refine sq_r ?_ | refine sq_x ?_ | refine bq_n ?_ | refine bq_r ?_ | refine bq_x ?_ | refine bq_y rfl ?_ | refine pq_n ?_ | refine pq_r ?_ | refine pq_x ?_))
    refine awp_loop (β := Nat) (fun i => ⟨65, [(1, .ptr 0 0 0), (3, .hs 1 0 (rowsTo R i).length), (4, .d (.int .i64 i))], [(0, some ⟨24, 1, [(regRow R).map .d]⟩), (1, some ⟨35, 2, dr ((rowsTo R i).map Cell.row)⟩)], 2⟩) (fun i => i ≤ R.length) (fun i => R.length - i) 0 ?_ (Nat.zero_le _) ?_
    · refine weak_of [(0, some 0), (1, none)] rfl (by simp [upT, up, upL, push_cast, rowsTo_zero]) (by simp [upH, upR, upL, up, push_cast, rowsTo_zero]) (by simp [namesOk, push_cast]) (by simp [olds])
    · intro i hi
      (repeat (first | refine awp_seq ?_ | refine awp_block ?_ | refine awp_scope ?_ | refine awp_skip ?_ | refine awp_exit ?_ | refine awp_ret ?_ | refine sq_n ?_ | refine sq_r ?_ | refine sq_x ?_ | refine bq_n ?_ | refine bq_r ?_ | refine bq_x ?_ | refine bq_y rfl ?_ | refine pq_n ?_ | refine pq_r ?_ | refine pq_x ?_))
      refine awp_region cx [] fun K hK => ?_
      simp [push_cast]
      repeat (refine And.intro (by clear hK; intros; first | omega | (simp_all; done) | (simp_all <;> omega)) ?_)
      refine hK _ ?_; clear hK K; (repeat (first | refine awp_seq ?_ | refine awp_block ?_ | refine awp_scope ?_ | refine awp_skip ?_ | refine awp_exit ?_ | refine awp_ret ?_ | refine sq_n ?_ | refine sq_r ?_ | refine sq_x ?_ | refine bq_n ?_ | refine bq_r ?_ | refine bq_x ?_ | refine bq_y rfl ?_ | refine pq_n ?_ | refine pq_r ?_ | refine pq_x ?_))
      refine awp_cond (b := decide ((i : Int) < R.length)) (by simp [push_cast]) (fun hb => ?_) (fun hb => ?_) <;> ((repeat (first | refine awp_seq ?_ | refine awp_block ?_ | refine awp_scope ?_ | refine awp_skip ?_ | refine awp_exit ?_ | refine awp_ret ?_ | refine sq_n ?_ | refine sq_r ?_ | refine sq_x ?_ | refine bq_n ?_ | refine bq_r ?_ | refine bq_x ?_ | refine bq_y rfl ?_ | refine pq_n ?_ | refine pq_r ?_ | refine pq_x ?_)))
      · have hlt : i < R.length := by simpa using hb
        obtain ⟨w, hw⟩ := getq hlt
        have e0 := wrap_i64 (n := (i : Int) + 1) (by omega) (by omega)
        have hwl := hR.2 w (List.mem_of_getElem? hw)
        have hft := rowsTo_next hw
        have hfine := (validR_at hv hw).2
        have hsum : ∀ k r, w.runs[k]? = some r → (rowsTo R i).length + (runsTo w k).length + (r.b - r.a).toNat ≤ 1000000 := fun k r hr => Nat.le_trans (cells_big hw hr) hn
        generalize rowsTo R i = X at *
        refine awp_region cx [] fun K hK => ?_
        simp [push_cast]
        repeat (refine And.intro (by clear hK; intros; first | omega | (simp_all; done) | (simp_all <;> omega)) ?_)
        refine hK _ ?_; clear hK K; (repeat (first | refine awp_seq ?_ | refine awp_block ?_ | refine awp_scope ?_ | refine awp_skip ?_ | refine awp_exit ?_ | refine awp_ret ?_ | refine sq_n ?_ | refine sq_r ?_ | refine sq_x ?_ | refine bq_n ?_ | refine bq_r ?_ | refine bq_x ?_ | refine bq_y rfl ?_ | refine pq_n ?_ | refine pq_r ?_ | refine pq_x ?_))
        refine awp_loop (β := Nat) (fun k => ⟨65, [(1, .ptr 0 0 0), (3, .hs 1 0 (X ++ runsTo w k).length), (4, .d (.int .i64 i)), (5, .d (.int .i64 k))], [(0, some ⟨24, 1, [(regRow R).map .d]⟩), (1, some ⟨35, 2, dr ((X ++ runsTo w k).map Cell.row)⟩)], 2⟩) (fun k => k ≤ w.runs.length) (fun k => w.runs.length - k) 0 ?_ (Nat.zero_le _) ?_
        · refine weak_of [(0, some 0), (1, some 1)] rfl (by simp [upT, up, upL, push_cast, runsTo_zero]) (by simp [upH, upR, upL, up, push_cast, runsTo_zero]) (by simp [namesOk, push_cast]) (by simp [olds])
        · intro k hk
          (repeat (first | refine awp_seq ?_ | refine awp_block ?_ | refine awp_scope ?_ | refine awp_skip ?_ | refine awp_exit ?_ | refine awp_ret ?_ | refine sq_n ?_ | refine sq_r ?_ | refine sq_x ?_ | refine bq_n ?_ | refine bq_r ?_ | refine bq_x ?_ | refine bq_y rfl ?_ | refine pq_n ?_ | refine pq_r ?_ | refine pq_x ?_))
          refine awp_region cx [] fun K hK => ?_
          simp [push_cast, hw, Row.row]
          repeat (refine And.intro (by clear hK; intros; first | omega | (simp_all; done) | (simp_all <;> omega)) ?_)
          refine hK _ ?_; clear hK K; (repeat (first | refine awp_seq ?_ | refine awp_block ?_ | refine awp_scope ?_ | refine awp_skip ?_ | refine awp_exit ?_ | refine awp_ret ?_ | refine sq_n ?_ | refine sq_r ?_ | refine sq_x ?_ | refine bq_n ?_ | refine bq_r ?_ | refine bq_x ?_ | refine bq_y rfl ?_ | refine pq_n ?_ | refine pq_r ?_ | refine pq_x ?_))
          refine awp_cond (b := decide ((k : Int) < w.runs.length)) (by simp [push_cast]) (fun hb => ?_) (fun hb => ?_) <;> ((repeat (first | refine awp_seq ?_ | refine awp_block ?_ | refine awp_scope ?_ | refine awp_skip ?_ | refine awp_exit ?_ | refine awp_ret ?_ | refine sq_n ?_ | refine sq_r ?_ | refine sq_x ?_ | refine bq_n ?_ | refine bq_r ?_ | refine bq_x ?_ | refine bq_y rfl ?_ | refine pq_n ?_ | refine pq_r ?_ | refine pq_x ?_)))
          · have hlk : k < w.runs.length := by simpa using hb
            obtain ⟨r, hr⟩ := getq hlk
            have e1 := wrap_i64 (n := (k : Int) + 1) (by omega) (by omega)
            have hft2 := runsTo_next hr
            have hbig := hsum k r hr
            have hrb := fine_at hfine hr
            have hrl := runCells_len w.y r
            generalize runsTo w k = Y at *
            obtain ⟨ra, rb⟩ := r
            simp only at hbig hrl hrb
            refine awp_region cx [] fun K hK => ?_
            simp [push_cast, hw, hr, Row.row, Run.row]
            repeat (refine And.intro (by clear hK; intros; first | omega | (simp_all; done) | (simp_all <;> omega)) ?_)
            refine hK _ ?_; clear hK K; (repeat (first | refine awp_seq ?_ | refine awp_block ?_ | refine awp_scope ?_ | refine awp_skip ?_ | refine awp_exit ?_ | refine awp_ret ?_ | refine sq_n ?_ | refine sq_r ?_ | refine sq_x ?_ | refine bq_n ?_ | refine bq_r ?_ | refine bq_x ?_ | refine bq_y rfl ?_ | refine pq_n ?_ | refine pq_r ?_ | refine pq_x ?_))
            refine awp_loop (β := Nat × List Cell) (fun b => ⟨65, [(1, .ptr 0 0 0), (3, .hs 1 0 b.2.length), (4, .d (.int .i64 i)), (5, .d (.int .i64 k)), (6, .d (.int .i64 (ra + b.1)))], [(0, some ⟨24, 1, [(regRow R).map .d]⟩), (1, some ⟨35, 2, dr (b.2.map Cell.row)⟩)], 2⟩) (fun b => b.1 ≤ (rb - ra).toNat ∧ b.2 = X ++ (Y ++ (runCells w.y ⟨ra, rb⟩).take b.1)) (fun b => (rb - ra).toNat - b.1) (0, X ++ Y) ?_ ⟨Nat.zero_le _, by simp⟩ ?_
            · refine weak_of [(0, some 0), (1, some 1)] rfl (by simp [upT, up, upL, push_cast]) (by simp [upH, upR, upL, up, push_cast]) (by simp [namesOk, push_cast]) (by simp [olds])
            · rintro ⟨j, W⟩ ⟨hj, hW⟩
              simp only at hj hW
              (repeat (first | refine awp_seq ?_ | refine awp_block ?_ | refine awp_scope ?_ | refine awp_skip ?_ | refine awp_exit ?_ | refine awp_ret ?_ | refine sq_n ?_ | refine sq_r ?_ | refine sq_x ?_ | refine bq_n ?_ | refine bq_r ?_ | refine bq_x ?_ | refine bq_y rfl ?_ | refine pq_n ?_ | refine pq_r ?_ | refine pq_x ?_))
              by_cases hjl : j < (rb - ra).toNat
              · have hcd : ra + (j : Int) < rb := by omega
                have e2 := wrap_i64 (n := ra + (j : Int) + 1) (by omega) (by omega)
                have htk := runCells_take w.y ⟨ra, rb⟩ hjl
                have hZl : ((runCells w.y ⟨ra, rb⟩).take j).length = j := by rw [List.length_take, hrl]; omega
                have hWl : W.length = X.length + (Y.length + j) := by rw [hW, List.length_append, List.length_append, hZl]
                have hap : (W.length + 1) * 16 ≤ 140737488355328 := by omega
                refine awp_region cx [] fun K hK => ?_
                simp [push_cast, hw, hr, Row.row, Run.row]
                repeat (refine And.intro (by clear hK; intros; first | omega | (simp_all; done) | (simp_all <;> omega)) ?_)
                refine hK _ ?_; clear hK K; (repeat (first | refine awp_seq ?_ | refine awp_block ?_ | refine awp_scope ?_ | refine awp_skip ?_ | refine awp_exit ?_ | refine awp_ret ?_ | refine sq_n ?_ | refine sq_r ?_ | refine sq_x ?_ | refine bq_n ?_ | refine bq_r ?_ | refine bq_x ?_ | refine bq_y rfl ?_ | refine pq_n ?_ | refine pq_r ?_ | refine pq_x ?_))
                refine awp_cond (b := true) (by simp [push_cast, hcd]) (fun hb => ?_) (fun hb => ?_) <;> ((repeat (first | refine awp_seq ?_ | refine awp_block ?_ | refine awp_scope ?_ | refine awp_skip ?_ | refine awp_exit ?_ | refine awp_ret ?_ | refine sq_n ?_ | refine sq_r ?_ | refine sq_x ?_ | refine bq_n ?_ | refine bq_r ?_ | refine bq_x ?_ | refine bq_y rfl ?_ | refine pq_n ?_ | refine pq_r ?_ | refine pq_x ?_)))
                · refine awp_region cx [] fun K hK => ?_
                  simp [push_cast, hw, hr, Row.row, Run.row, hap]
                  repeat (refine And.intro (by clear hK; intros; first | omega | (simp_all; done) | (simp_all <;> omega)) ?_)
                  refine hK _ ?_; clear hK K; (repeat (first | refine awp_seq ?_ | refine awp_block ?_ | refine awp_scope ?_ | refine awp_skip ?_ | refine awp_exit ?_ | refine awp_ret ?_ | refine sq_n ?_ | refine sq_r ?_ | refine sq_x ?_ | refine bq_n ?_ | refine bq_r ?_ | refine bq_x ?_ | refine bq_y rfl ?_ | refine pq_n ?_ | refine pq_r ?_ | refine pq_x ?_))
                  refine awp_region cx [] fun K hK => ?_
                  simp [push_cast, e2]
                  repeat (refine And.intro (by clear hK; intros; first | omega | (simp_all; done) | (simp_all <;> omega)) ?_)
                  refine hK _ ?_; clear hK K; (repeat (first | refine awp_seq ?_ | refine awp_block ?_ | refine awp_scope ?_ | refine awp_skip ?_ | refine awp_exit ?_ | refine awp_ret ?_ | refine sq_n ?_ | refine sq_r ?_ | refine sq_x ?_ | refine bq_n ?_ | refine bq_r ?_ | refine bq_x ?_ | refine bq_y rfl ?_ | refine pq_n ?_ | refine pq_r ?_ | refine pq_x ?_))
                  refine ⟨(j + 1, W ++ [⟨ra + j, w.y⟩]), ⟨hjl, by rw [hW, htk]; simp⟩, by simp only; omega, ?_⟩
                  refine weak_of [(0, some 0), (1, some 24)] rfl (by simp [upT, up, upL, push_cast, Int.add_assoc]) (by simp [upH, upR, upL, up, push_cast, Int.add_assoc]) (by simp [namesOk, push_cast]) (by simp [olds])
                · simp at hb
              · have hje : j = (rb - ra).toNat := by omega
                have hcd : ¬ ra + (j : Int) < rb := by omega
                have hfull : (runCells w.y ⟨ra, rb⟩).take j = runCells w.y ⟨ra, rb⟩ := List.take_of_length_le (by rw [hrl]; omega)
                rw [hfull, ← hft2] at hW
                refine awp_region cx [] fun K hK => ?_
                simp [push_cast, hw, hr, Row.row, Run.row]
                repeat (refine And.intro (by clear hK; intros; first | omega | (simp_all; done) | (simp_all <;> omega)) ?_)
                refine hK _ ?_; clear hK K; (repeat (first | refine awp_seq ?_ | refine awp_block ?_ | refine awp_scope ?_ | refine awp_skip ?_ | refine awp_exit ?_ | refine awp_ret ?_ | refine sq_n ?_ | refine sq_r ?_ | refine sq_x ?_ | refine bq_n ?_ | refine bq_r ?_ | refine bq_x ?_ | refine bq_y rfl ?_ | refine pq_n ?_ | refine pq_r ?_ | refine pq_x ?_))
                refine awp_cond (b := false) (by simp [push_cast, hcd]) (fun hb => ?_) (fun hb => ?_) <;> ((repeat (first | refine awp_seq ?_ | refine awp_block ?_ | refine awp_scope ?_ | refine awp_skip ?_ | refine awp_exit ?_ | refine awp_ret ?_ | refine sq_n ?_ | refine sq_r ?_ | refine sq_x ?_ | refine bq_n ?_ | refine bq_r ?_ | refine bq_x ?_ | refine bq_y rfl ?_ | refine pq_n ?_ | refine pq_r ?_ | refine pq_x ?_)))
                · simp at hb
                · refine awp_region cx [] fun K hK => ?_
                  simp [push_cast, e1]
                  repeat (refine And.intro (by clear hK; intros; first | omega | (simp_all; done) | (simp_all <;> omega)) ?_)
                  refine hK _ ?_; clear hK K; (repeat (first | refine awp_seq ?_ | refine awp_block ?_ | refine awp_scope ?_ | refine awp_skip ?_ | refine awp_exit ?_ | refine awp_ret ?_ | refine sq_n ?_ | refine sq_r ?_ | refine sq_x ?_ | refine bq_n ?_ | refine bq_r ?_ | refine bq_x ?_ | refine bq_y rfl ?_ | refine pq_n ?_ | refine pq_r ?_ | refine pq_x ?_))
                  refine ⟨k + 1, hlk, by omega, ?_⟩
                  rw [← hW]
                  refine weak_of [(0, some 0), (1, some 1)] rfl (by simp [upT, up, upL, push_cast]) (by simp [upH, upR, upL, up, push_cast]) (by simp [namesOk, push_cast]) (by simp [olds])
          · have hkn : k = w.runs.length := by simp at hb; omega
            subst hkn
            rw [runsTo_all]
            refine awp_region cx [] fun K hK => ?_
            simp [push_cast, e0]
            repeat (refine And.intro (by clear hK; intros; first | omega | (simp_all; done) | (simp_all <;> omega)) ?_)
            refine hK _ ?_; clear hK K; (repeat (first | refine awp_seq ?_ | refine awp_block ?_ | refine awp_scope ?_ | refine awp_skip ?_ | refine awp_exit ?_ | refine awp_ret ?_ | refine sq_n ?_ | refine sq_r ?_ | refine sq_x ?_ | refine bq_n ?_ | refine bq_r ?_ | refine bq_x ?_ | refine bq_y rfl ?_ | refine pq_n ?_ | refine pq_r ?_ | refine pq_x ?_))
            refine ⟨i + 1, hlt, by omega, ?_⟩
            rw [hft]
            refine weak_of [(0, some 0), (1, some 1)] rfl (by simp [upT, up, upL, push_cast]) (by simp [upH, upR, upL, up, push_cast]) (by simp [namesOk, push_cast]) (by simp [olds])
      · have hin : i = R.length := by simp at hb; omega
        subst hin
        rw [rowsTo_all]
        generalize regCells R = X at *
        refine awp_region cx [] fun K hK => ?_
        simp [push_cast]
        repeat (refine And.intro (by clear hK; intros; first | omega | (simp_all; done) | (simp_all <;> omega)) ?_)
        refine hK _ ?_; clear hK K; (repeat (first | refine awp_seq ?_ | refine awp_block ?_ | refine awp_scope ?_ | refine awp_skip ?_ | refine awp_exit ?_ | refine awp_ret ?_ | refine sq_n ?_ | refine sq_r ?_ | refine sq_x ?_ | refine bq_n ?_ | refine bq_r ?_ | refine bq_x ?_ | refine bq_y rfl ?_ | refine pq_n ?_ | refine pq_r ?_ | refine pq_x ?_))
        have ht : List.take X.length (X.map Cell.row) = X.map Cell.row := List.take_of_length_le (by simp)
        simp [push_cast, ht]
end Go.Proofs.Ytmfkfgonedgjnaa
