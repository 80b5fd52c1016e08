/-
  The walks of this seat's functions and the plain laws behind them: part Z1.
-/
import Derived.Test.YtmfkfgonedgjnaaAbsV
import Derived.Test.YtmfkfgonedgjnaaR4
set_option linter.unusedVariables false
set_option linter.unusedSimpArgs false
set_option maxRecDepth 100000
namespace Go.Proofs.Ytmfkfgonedgjnaa
open Go.Abs

/-! The iterator over a region's cells. -/
theorem all_ok (R : List Row) : PC Try.prog 70 [.agg (regRow R)] (.p (.fn (.func 93) [.rp (regRow R)])) := by
  refine pc_of_awp cx (fn := Try.f70) (c := _) Try.func70 rfl rfl (Nat.le_of_ble_eq_true rfl) ?_
  rw [Try.ntmps70]; (repeat (first | refine awp_seq ?_ | refine awp_block ?_ | refine awp_scope ?_ | refine awp_skip ?_ | refine awp_exit ?_ | refine awp_ret ?_ | refine sq_n ?_ | refine sq_r ?_ | refine sq_x ?_ | refine bq_n ?_ | refine bq_r ?_ | refine bq_x ?_ | refine bq_y rfl ?_ | refine pq_n ?_ | refine pq_r ?_ | refine pq_x ?_))
  refine awp_region cx [] fun K hK => ?_
  simp [push_cast]
  repeat (refine And.intro (by clear hK; intros; first | omega | (simp_all; done) | (simp_all <;> omega)) ?_)
  refine hK _ ?_; clear hK K; (repeat (first | refine awp_seq ?_ | refine awp_block ?_ | refine awp_scope ?_ | refine awp_skip ?_ | refine awp_exit ?_ | refine awp_ret ?_ | refine sq_n ?_ | refine sq_r ?_ | refine sq_x ?_ | refine bq_n ?_ | refine bq_r ?_ | refine bq_x ?_ | refine bq_y rfl ?_ | refine pq_n ?_ | refine pq_r ?_ | refine pq_x ?_))
  refine awp_region cx [] fun K hK => ?_
  simp [push_cast]
  repeat (refine And.intro (by clear hK; intros; first | omega | (simp_all; done) | (simp_all <;> omega)) ?_)
  refine hK _ ?_; clear hK K; (repeat (first | refine awp_seq ?_ | refine awp_block ?_ | refine awp_scope ?_ | refine awp_skip ?_ | refine awp_exit ?_ | refine awp_ret ?_ | refine sq_n ?_ | refine sq_r ?_ | refine sq_x ?_ | refine bq_n ?_ | refine bq_r ?_ | refine bq_x ?_ | refine bq_y rfl ?_ | refine pq_n ?_ | refine pq_r ?_ | refine pq_x ?_))
  simp [push_cast]
theorem cells_at {R : List Row} {i j q : Nat} {w : Row} {r : Run} (hw : R[i]? = some w) (hr : w.runs[j]? = some r) (hq : q < (r.b - r.a).toNat) :
    (regCells R)[(rowsTo R i).length + ((runsTo w j).length + q)]? = some ⟨r.a + q, w.y⟩ := by
  have h1 : regCells R = rowsTo R i ++ rowCells w ++ (R.drop (i + 1)).flatMap rowCells := flat_split rowCells hw
  have h2 : rowCells w = runsTo w j ++ runCells w.y r ++ (w.runs.drop (j + 1)).flatMap (runCells w.y) := flat_split (runCells w.y) hr
  have hl := runCells_len w.y r
  rw [h1, List.append_assoc, List.getElem?_append_right (by omega), Nat.add_sub_cancel_left, h2]
  rw [List.append_assoc, List.append_assoc, List.getElem?_append_right (by omega), Nat.add_sub_cancel_left, List.getElem?_append_left (by omega)]
  simp [runCells, hq]
def itemsOf (R : List Row) : List D := (regCells R).map fun c => .agg c.row

set_option maxHeartbeats 4000000 in
theorem iter_ok (R : List Row) (hsm : smallR R) (hv : validR R = true) : IterOk Try.prog 93 [.rp (regRow R)] (itemsOf R) := by
  have hRl := hsm.1
  have hlen : (itemsOf R).length = (regCells R).length := by simp [itemsOf]
  rw [← rowsTo_all] at hlen
  refine iter_of_awi (fn := Try.f93) (c := _) Try.func93 rfl rfl (Nat.le_of_ble_eq_true rfl) rfl fun m l W0 J hJ hR => ?_
  rw [Try.ntmps93]; (repeat (first | refine awi_seq ?_ | refine awi_block ?_ | refine awi_skip ?_ | refine awi_exit ?_ | refine awi_ret ?_ | refine si_n ?_ | refine si_r ?_ | refine si_x ?_ | refine bi_n ?_ | refine bi_r ?_ | refine bi_x ?_ | refine bi_y rfl ?_))
  rw [hlen]
  clear hlen
  refine awi_of_awp hJ (awp_region cx [] fun K hK => ?_)
  simp [push_cast]
  repeat (refine And.intro (by clear hK; intros; first | omega | (simp_all; done) | (simp_all <;> omega)) ?_)
  refine hK _ ?_; clear hK K; (try dsimp only); (repeat (first | refine awi_seq ?_ | refine awi_block ?_ | refine awi_skip ?_ | refine awi_exit ?_ | refine awi_ret ?_ | refine si_n ?_ | refine si_r ?_ | refine si_x ?_ | refine bi_n ?_ | refine bi_r ?_ | refine bi_x ?_ | refine bi_y rfl ?_))
  refine awi_loop hJ (β := Nat) (fun i => ((rowsTo R i).length, ⟨39, [(0, .d (.fn (.yield l) [])), (9, .d (encRows R)), (10, .d (.int .i64 R.length)), (11, .d (.int .i64 i))], [], 0⟩)) (fun i => i ≤ R.length) (fun i => R.length - i) 0 ?_ (by simp [rowsTo]) (Nat.zero_le _) ?_
  · refine weak_of [] rfl (by simp [upT, up, upL, push_cast]) (by simp [upH, upR, upL, up, push_cast]) (by simp [namesOk, push_cast]) (by simp [olds])
  · intro i hi
    replace hi : i ≤ R.length := hi
    (repeat (first | refine awi_seq ?_ | refine awi_block ?_ | refine awi_skip ?_ | refine awi_exit ?_ | refine awi_ret ?_ | refine si_n ?_ | refine si_r ?_ | refine si_x ?_ | refine bi_n ?_ | refine bi_r ?_ | refine bi_x ?_ | refine bi_y rfl ?_))
    refine awi_of_awp hJ (awp_region cx [] fun K hK => ?_)
    simp [push_cast]
    repeat (refine And.intro (by clear hK; intros; first | omega | (simp_all; done) | (simp_all <;> omega)) ?_)
    refine hK _ ?_; clear hK K; (try dsimp only); (repeat (first | refine awi_seq ?_ | refine awi_block ?_ | refine awi_skip ?_ | refine awi_exit ?_ | refine awi_ret ?_ | refine si_n ?_ | refine si_r ?_ | refine si_x ?_ | refine bi_n ?_ | refine bi_r ?_ | refine bi_x ?_ | refine bi_y rfl ?_))
    refine awi_cond (b := decide ((i : Int) < R.length)) (by simp [push_cast]) (fun hb => ?_) (fun hb => ?_) <;> ((repeat (first | refine awi_seq ?_ | refine awi_block ?_ | refine awi_skip ?_ | refine awi_exit ?_ | refine awi_ret ?_ | refine si_n ?_ | refine si_r ?_ | refine si_x ?_ | refine bi_n ?_ | refine bi_r ?_ | refine bi_x ?_ | refine bi_y rfl ?_)))
    · have hlt : i < R.length := by simpa using hb
      obtain ⟨w, hw⟩ := getq hlt
      have e0 := wrap_i64 (n := (i : Int) + 1) (by omega) (by omega)
      have hwl := hsm.2 w (List.mem_of_getElem? hw)
      have hfine := (validR_at hv hw).2
      have hnx : (rowsTo R i).length + (runsTo w w.runs.length).length = (rowsTo R (i + 1)).length := by rw [rowsTo_next hw, runsTo_all, List.length_append]
      refine awi_of_awp hJ (awp_region cx [] fun K hK => ?_)
      simp [push_cast, hw, Row.row]
      repeat (refine And.intro (by clear hK; intros; first | omega | (simp_all; done) | (simp_all <;> omega)) ?_)
      refine hK _ ?_; clear hK K; (try dsimp only); (repeat (first | refine awi_seq ?_ | refine awi_block ?_ | refine awi_skip ?_ | refine awi_exit ?_ | refine awi_ret ?_ | refine si_n ?_ | refine si_r ?_ | refine si_x ?_ | refine bi_n ?_ | refine bi_r ?_ | refine bi_x ?_ | refine bi_y rfl ?_))
      refine awi_of_awp hJ (awp_region cx [] fun K hK => ?_)
      simp [push_cast]
      repeat (refine And.intro (by clear hK; intros; first | omega | (simp_all; done) | (simp_all <;> omega)) ?_)
      refine hK _ ?_; clear hK K; (try dsimp only); (repeat (first | refine awi_seq ?_ | refine awi_block ?_ | refine awi_skip ?_ | refine awi_exit ?_ | refine awi_ret ?_ | refine si_n ?_ | refine si_r ?_ | refine si_x ?_ | refine bi_n ?_ | refine bi_r ?_ | refine bi_x ?_ | refine bi_y rfl ?_))
      generalize hX : (rowsTo R i).length = X at *
      refine awi_loop hJ (β := Nat) (fun j => (X + (runsTo w j).length, ⟨39, [(0, .d (.fn (.yield l) [])), (4, .ptr 0 0 0), (9, .d (encRows R)), (10, .d (.int .i64 R.length)), (11, .d (.int .i64 i)), (16, .d (encRuns w.runs)), (17, .d (.int .i64 w.runs.length)), (18, .d (.int .i64 j))], [(0, some ⟨58, 2, [[.d (.int .i64 w.y), .d (encRuns w.runs)]]⟩)], 1⟩)) (fun j => j ≤ w.runs.length) (fun j => w.runs.length - j) 0 ?_ (by simp [runsTo]) (Nat.zero_le _) ?_
      · dsimp only
        refine weak_of [(0, some 3)] rfl (by simp [upT, up, upL, push_cast]) (by simp [upH, upR, upL, up, push_cast]) (by simp [namesOk, push_cast]) (by simp [olds])
      · intro j hj
        replace hj : j ≤ w.runs.length := hj
        (repeat (first | refine awi_seq ?_ | refine awi_block ?_ | refine awi_skip ?_ | refine awi_exit ?_ | refine awi_ret ?_ | refine si_n ?_ | refine si_r ?_ | refine si_x ?_ | refine bi_n ?_ | refine bi_r ?_ | refine bi_x ?_ | refine bi_y rfl ?_))
        refine awi_of_awp hJ (awp_region cx [] fun K hK => ?_)
        simp [push_cast]
        repeat (refine And.intro (by clear hK; intros; first | omega | (simp_all; done) | (simp_all <;> omega)) ?_)
        refine hK _ ?_; clear hK K; (try dsimp only); (repeat (first | refine awi_seq ?_ | refine awi_block ?_ | refine awi_skip ?_ | refine awi_exit ?_ | refine awi_ret ?_ | refine si_n ?_ | refine si_r ?_ | refine si_x ?_ | refine bi_n ?_ | refine bi_r ?_ | refine bi_x ?_ | refine bi_y rfl ?_))
        refine awi_cond (b := decide ((j : Int) < w.runs.length)) (by simp [push_cast]) (fun hb => ?_) (fun hb => ?_) <;> ((repeat (first | refine awi_seq ?_ | refine awi_block ?_ | refine awi_skip ?_ | refine awi_exit ?_ | refine awi_ret ?_ | refine si_n ?_ | refine si_r ?_ | refine si_x ?_ | refine bi_n ?_ | refine bi_r ?_ | refine bi_x ?_ | refine bi_y rfl ?_)))
        · have hlj : j < w.runs.length := by simpa using hb
          obtain ⟨r, hr⟩ := getq hlj
          have e1 := wrap_i64 (n := (j : Int) + 1) (by omega) (by omega)
          have hrb := fine_at hfine hr
          have hrl := runCells_len w.y r
          have hat := fun q hq => @cells_at R i j q w r hw hr hq
          have hnr : (runsTo w j).length + (r.b - r.a).toNat = (runsTo w (j + 1)).length := by rw [runsTo_next hr, List.length_append, hrl]
          rw [hX] at hat
          generalize (runsTo w j).length = Y at *
          obtain ⟨ra, rb⟩ := r
          simp only at hrb hrl hat hnr
          refine awi_of_awp hJ (awp_region cx [] fun K hK => ?_)
          simp [push_cast, hr, Run.row]
          repeat (refine And.intro (by clear hK; intros; first | omega | (simp_all; done) | (simp_all <;> omega)) ?_)
          refine hK _ ?_; clear hK K; (try dsimp only); (repeat (first | refine awi_seq ?_ | refine awi_block ?_ | refine awi_skip ?_ | refine awi_exit ?_ | refine awi_ret ?_ | refine si_n ?_ | refine si_r ?_ | refine si_x ?_ | refine bi_n ?_ | refine bi_r ?_ | refine bi_x ?_ | refine bi_y rfl ?_))
          refine awi_of_awp hJ (awp_region cx [] fun K hK => ?_)
          simp [push_cast]
          repeat (refine And.intro (by clear hK; intros; first | omega | (simp_all; done) | (simp_all <;> omega)) ?_)
          refine hK _ ?_; clear hK K; (try dsimp only); (repeat (first | refine awi_seq ?_ | refine awi_block ?_ | refine awi_skip ?_ | refine awi_exit ?_ | refine awi_ret ?_ | refine si_n ?_ | refine si_r ?_ | refine si_x ?_ | refine bi_n ?_ | refine bi_r ?_ | refine bi_x ?_ | refine bi_y rfl ?_))
          refine awi_loop hJ (β := Nat) (fun q => (X + (Y + q), ⟨39, [(0, .d (.fn (.yield l) [])), (4, .ptr 0 0 0), (6, .ptr 1 0 0), (7, .d (.int .i64 (ra + q))), (9, .d (encRows R)), (10, .d (.int .i64 R.length)), (11, .d (.int .i64 i)), (16, .d (encRuns w.runs)), (17, .d (.int .i64 w.runs.length)), (18, .d (.int .i64 j))], [(0, some ⟨58, 2, [[.d (.int .i64 w.y), .d (encRuns w.runs)]]⟩), (1, some ⟨60, 2, [[.d (.int .i64 ra), .d (.int .i64 rb)]]⟩)], 2⟩)) (fun q => q ≤ (rb - ra).toNat) (fun q => (rb - ra).toNat - q) 0 ?_ (by simp) (Nat.zero_le _) ?_
          · dsimp only
            refine weak_of [(0, some 0), (1, some 4)] rfl (by simp [upT, up, upL, push_cast]) (by simp [upH, upR, upL, up, push_cast]) (by simp [namesOk, push_cast]) (by simp [olds])
          · intro q hq
            replace hq : q ≤ (rb - ra).toNat := hq
            (repeat (first | refine awi_seq ?_ | refine awi_block ?_ | refine awi_skip ?_ | refine awi_exit ?_ | refine awi_ret ?_ | refine si_n ?_ | refine si_r ?_ | refine si_x ?_ | refine bi_n ?_ | refine bi_r ?_ | refine bi_x ?_ | refine bi_y rfl ?_))
            refine awi_of_awp hJ (awp_region cx [] fun K hK => ?_)
            simp [push_cast]
            repeat (refine And.intro (by clear hK; intros; first | omega | (simp_all; done) | (simp_all <;> omega)) ?_)
            refine hK _ ?_; clear hK K; (try dsimp only); (repeat (first | refine awi_seq ?_ | refine awi_block ?_ | refine awi_skip ?_ | refine awi_exit ?_ | refine awi_ret ?_ | refine si_n ?_ | refine si_r ?_ | refine si_x ?_ | refine bi_n ?_ | refine bi_r ?_ | refine bi_x ?_ | refine bi_y rfl ?_))
            refine awi_cond (b := decide (ra + (q : Int) < rb)) (by simp [push_cast]) (fun hb => ?_) (fun hb => ?_) <;> ((repeat (first | refine awi_seq ?_ | refine awi_block ?_ | refine awi_skip ?_ | refine awi_exit ?_ | refine awi_ret ?_ | refine si_n ?_ | refine si_r ?_ | refine si_x ?_ | refine bi_n ?_ | refine bi_r ?_ | refine bi_x ?_ | refine bi_y rfl ?_)))
            · have hql : q < (rb - ra).toNat := by simp at hb; omega
              have e2 := wrap_i64 (n := ra + (q : Int) + 1) (by omega) (by omega)
              have hx : (itemsOf R)[X + (Y + q)]? = some (.agg [.int .i64 (ra + q), .int .i64 w.y]) := by
                unfold itemsOf
                rw [List.getElem?_map, hat q hql]; rfl
              refine awi_yield cx hJ hR (pre := [_, _, _, _, _]) (post := [_]) rfl rfl rfl rfl rfl 35 rfl rfl hx rfl fun K hK => ?_
              simp [push_cast]
              refine hK _ ?_
              clear hK K
              (try dsimp only)
              (repeat (first | refine awi_seq ?_ | refine awi_block ?_ | refine awi_skip ?_ | refine awi_exit ?_ | refine awi_ret ?_ | refine si_n ?_ | refine si_r ?_ | refine si_x ?_ | refine bi_n ?_ | refine bi_r ?_ | refine bi_x ?_ | refine bi_y rfl ?_))
              refine awi_cond (b := false) (by simp [push_cast]) (fun hb => ?_) (fun hb => ?_) <;> ((repeat (first | refine awi_seq ?_ | refine awi_block ?_ | refine awi_skip ?_ | refine awi_exit ?_ | refine awi_ret ?_ | refine si_n ?_ | refine si_r ?_ | refine si_x ?_ | refine bi_n ?_ | refine bi_r ?_ | refine bi_x ?_ | refine bi_y rfl ?_)))
              · simp at hb
              · refine awi_of_awp hJ (awp_region cx [] fun K hK => ?_)
                simp [push_cast, e2]
                repeat (refine And.intro (by clear hK; intros; first | omega | (simp_all; done) | (simp_all <;> omega)) ?_)
                refine hK _ ?_; clear hK K; (try dsimp only); (repeat (first | refine awi_seq ?_ | refine awi_block ?_ | refine awi_skip ?_ | refine awi_exit ?_ | refine awi_ret ?_ | refine si_n ?_ | refine si_r ?_ | refine si_x ?_ | refine bi_n ?_ | refine bi_r ?_ | refine bi_x ?_ | refine bi_y rfl ?_))
                refine ⟨q + 1, hql, by omega, by simp only; omega, ?_⟩
                dsimp only
                have e3 : ra + ((q : Int) + 1) = ra + q + 1 := by omega
                refine weak_of [(0, some 0), (1, some 1)] rfl (by simp [upT, up, upL, push_cast, e3]) (by simp [upH, upR, upL, up, push_cast, e3]) (by simp [namesOk, push_cast]) (by simp [olds])
            · have hqe : q = (rb - ra).toNat := by simp at hb; omega
              subst hqe
              refine awi_of_awp hJ (awp_region cx [] fun K hK => ?_)
              simp [push_cast, e1]
              repeat (refine And.intro (by clear hK; intros; first | omega | (simp_all; done) | (simp_all <;> omega)) ?_)
              refine hK _ ?_; clear hK K; (try dsimp only); (repeat (first | refine awi_seq ?_ | refine awi_block ?_ | refine awi_skip ?_ | refine awi_exit ?_ | refine awi_ret ?_ | refine si_n ?_ | refine si_r ?_ | refine si_x ?_ | refine bi_n ?_ | refine bi_r ?_ | refine bi_x ?_ | refine bi_y rfl ?_))
              refine ⟨j + 1, hlj, by omega, by simp only; omega, ?_⟩
              dsimp only
              refine weak_of [(0, some 0)] rfl (by simp [upT, up, upL, push_cast]) (by simp [upH, upR, upL, up, push_cast]) (by simp [namesOk, push_cast]) (by simp [olds])
        · have hje : j = w.runs.length := by simp at hb; omega
          subst hje
          refine awi_of_awp hJ (awp_region cx [] fun K hK => ?_)
          simp [push_cast, e0]
          repeat (refine And.intro (by clear hK; intros; first | omega | (simp_all; done) | (simp_all <;> omega)) ?_)
          refine hK _ ?_; clear hK K; (try dsimp only); (repeat (first | refine awi_seq ?_ | refine awi_block ?_ | refine awi_skip ?_ | refine awi_exit ?_ | refine awi_ret ?_ | refine si_n ?_ | refine si_r ?_ | refine si_x ?_ | refine bi_n ?_ | refine bi_r ?_ | refine bi_x ?_ | refine bi_y rfl ?_))
          refine ⟨i + 1, hlt, by omega, by simp only; omega, ?_⟩
          dsimp only
          refine weak_of [] rfl (by simp [upT, up, upL, push_cast]) (by simp [upH, upR, upL, up, push_cast]) (by simp [namesOk, push_cast]) (by simp [olds])
    · have hie : i = R.length := by simp at hb; omega
      subst hie
      exact ⟨.inl rfl, rfl⟩
end Go.Proofs.Ytmfkfgonedgjnaa
