/-
  The walks of this seat's functions and the plain laws behind them: part L8.
-/
import Derived.Test.YtmfkfgonedgjnaaL3
import Derived.Test.YtmfkfgonedgjnaaY5
set_option linter.unusedVariables false
set_option linter.unusedSimpArgs false
set_option maxRecDepth 100000
namespace Go.Proofs.Ytmfkfgonedgjnaa
open Go.Abs Go.ChangeShapes Go.WideShapes Go.ChangeAt Go.RowKit

set_option maxHeartbeats 4000000 in
theorem regionops_ok (a b : List Row) : PC Try.prog 11 [.agg (regRow a), .agg (regRow b)] (.p (.bool true)) := by
  have c0 := awake18_ok
  have s1 := small_ok a
  have s2 := small_ok b
  have f1 := fun h => @smallB_facts a h
  have f2 := fun h => @smallB_facts b h
  generalize smallB a = sa at *
  generalize smallB b = sb at *
  cases sa with
  | false =>
    refine pc_of_awp cx (fn := Try.f11) (c := _) Try.func11 rfl rfl (Nat.le_of_ble_eq_true rfl) ?_
    rw [Try.ntmps11]; (repeat (first | refine awp_seq ?_ | refine awp_block ?_ | refine awp_scope ?_ | refine awp_skip ?_ | refine awp_exit ?_ | refine awp_ret ?_ | refine sq_n ?_ | refine sq_r ?_ | refine sq_x ?_ | refine bq_n ?_ | refine bq_r ?_ | refine bq_x ?_ | refine bq_y rfl ?_ | refine pq_n ?_ | refine pq_r ?_ | refine pq_x ?_))
    refine awp_region cx [] fun K hK => ?_
    simp [push_cast]
    repeat (refine And.intro (by clear hK; intros; first | omega | (simp_all; done) | (simp_all <;> omega)) ?_)
    refine hK _ ?_; clear hK K; (repeat (first | refine awp_seq ?_ | refine awp_block ?_ | refine awp_scope ?_ | refine awp_skip ?_ | refine awp_exit ?_ | refine awp_ret ?_ | refine sq_n ?_ | refine sq_r ?_ | refine sq_x ?_ | refine bq_n ?_ | refine bq_r ?_ | refine bq_x ?_ | refine bq_y rfl ?_ | refine pq_n ?_ | refine pq_r ?_ | refine pq_x ?_))
    refine awp_region cx [(1, .p (.bool false)), (5, .skip)] fun K hK => ?_
    simp [push_cast, s1]
    repeat (refine And.intro (by clear hK; intros; first | omega | (simp_all; done) | (simp_all <;> omega)) ?_)
    refine hK _ ?_; clear hK K; (repeat (first | refine awp_seq ?_ | refine awp_block ?_ | refine awp_scope ?_ | refine awp_skip ?_ | refine awp_exit ?_ | refine awp_ret ?_ | refine sq_n ?_ | refine sq_r ?_ | refine sq_x ?_ | refine bq_n ?_ | refine bq_r ?_ | refine bq_x ?_ | refine bq_y rfl ?_ | refine pq_n ?_ | refine pq_r ?_ | refine pq_x ?_))
    refine awp_cond (b := true) (by simp [push_cast]) (fun hb => ?_) (fun hb => ?_) <;> ((repeat (first | refine awp_seq ?_ | refine awp_block ?_ | refine awp_scope ?_ | refine awp_skip ?_ | refine awp_exit ?_ | refine awp_ret ?_ | refine sq_n ?_ | refine sq_r ?_ | refine sq_x ?_ | refine bq_n ?_ | refine bq_r ?_ | refine bq_x ?_ | refine bq_y rfl ?_ | refine pq_n ?_ | refine pq_r ?_ | refine pq_x ?_)))
    · refine awp_region cx [(0, .p (.bool true))] fun K hK => ?_
      simp [push_cast, c0]
      repeat (refine And.intro (by clear hK; intros; first | omega | (simp_all; done) | (simp_all <;> omega)) ?_)
      refine hK _ ?_; clear hK K; (repeat (first | refine awp_seq ?_ | refine awp_block ?_ | refine awp_scope ?_ | refine awp_skip ?_ | refine awp_exit ?_ | refine awp_ret ?_ | refine sq_n ?_ | refine sq_r ?_ | refine sq_x ?_ | refine bq_n ?_ | refine bq_r ?_ | refine bq_x ?_ | refine bq_y rfl ?_ | refine pq_n ?_ | refine pq_r ?_ | refine pq_x ?_))
      simp [push_cast]
    · simp at hb
  | true =>
    cases sb with
    | false =>
      refine pc_of_awp cx (fn := Try.f11) (c := _) Try.func11 rfl rfl (Nat.le_of_ble_eq_true rfl) ?_
      rw [Try.ntmps11]; (repeat (first | refine awp_seq ?_ | refine awp_block ?_ | refine awp_scope ?_ | refine awp_skip ?_ | refine awp_exit ?_ | refine awp_ret ?_ | refine sq_n ?_ | refine sq_r ?_ | refine sq_x ?_ | refine bq_n ?_ | refine bq_r ?_ | refine bq_x ?_ | refine bq_y rfl ?_ | refine pq_n ?_ | refine pq_r ?_ | refine pq_x ?_))
      refine awp_region cx [] fun K hK => ?_
      simp [push_cast]
      repeat (refine And.intro (by clear hK; intros; first | omega | (simp_all; done) | (simp_all <;> omega)) ?_)
      refine hK _ ?_; clear hK K; (repeat (first | refine awp_seq ?_ | refine awp_block ?_ | refine awp_scope ?_ | refine awp_skip ?_ | refine awp_exit ?_ | refine awp_ret ?_ | refine sq_n ?_ | refine sq_r ?_ | refine sq_x ?_ | refine bq_n ?_ | refine bq_r ?_ | refine bq_x ?_ | refine bq_y rfl ?_ | refine pq_n ?_ | refine pq_r ?_ | refine pq_x ?_))
      refine awp_region cx [(1, .p (.bool true)), (5, .p (.bool false))] fun K hK => ?_
      simp [push_cast, s1, s2]
      repeat (refine And.intro (by clear hK; intros; first | omega | (simp_all; done) | (simp_all <;> omega)) ?_)
      refine hK _ ?_; clear hK K; (repeat (first | refine awp_seq ?_ | refine awp_block ?_ | refine awp_scope ?_ | refine awp_skip ?_ | refine awp_exit ?_ | refine awp_ret ?_ | refine sq_n ?_ | refine sq_r ?_ | refine sq_x ?_ | refine bq_n ?_ | refine bq_r ?_ | refine bq_x ?_ | refine bq_y rfl ?_ | refine pq_n ?_ | refine pq_r ?_ | refine pq_x ?_))
      refine awp_cond (b := true) (by simp [push_cast]) (fun hb => ?_) (fun hb => ?_) <;> ((repeat (first | refine awp_seq ?_ | refine awp_block ?_ | refine awp_scope ?_ | refine awp_skip ?_ | refine awp_exit ?_ | refine awp_ret ?_ | refine sq_n ?_ | refine sq_r ?_ | refine sq_x ?_ | refine bq_n ?_ | refine bq_r ?_ | refine bq_x ?_ | refine bq_y rfl ?_ | refine pq_n ?_ | refine pq_r ?_ | refine pq_x ?_)))
      · refine awp_region cx [(0, .p (.bool true))] fun K hK => ?_
        simp [push_cast, c0]
        repeat (refine And.intro (by clear hK; intros; first | omega | (simp_all; done) | (simp_all <;> omega)) ?_)
        refine hK _ ?_; clear hK K; (repeat (first | refine awp_seq ?_ | refine awp_block ?_ | refine awp_scope ?_ | refine awp_skip ?_ | refine awp_exit ?_ | refine awp_ret ?_ | refine sq_n ?_ | refine sq_r ?_ | refine sq_x ?_ | refine bq_n ?_ | refine bq_r ?_ | refine bq_x ?_ | refine bq_y rfl ?_ | refine pq_n ?_ | refine pq_r ?_ | refine pq_x ?_))
        simp [push_cast]
      · simp at hb
    | true =>
      obtain ⟨a1, a2, a3⟩ := f1 rfl
      obtain ⟨b1, b2, b3⟩ := f2 rfl
      have hA := small_of a1 a2
      have hB := small_of b1 b2
      have v1 := validR_ok a hA
      have v2 := validR_ok b hB
      have q1 := unionR_ok a b hA hB
      have q2 := runion_ok a b hA hB
      have q3 := rsame_ok (opR fU a b) (opR fU a b) (opR_small rfl a b)
      have q4 := intersectR_ok a b hA hB
      have q5 := rintersect_ok a b hA hB
      have q6 := rsame_ok (opR fI a b) (opR fI a b) (opR_small rfl a b)
      have q7 := subtractR_ok a b hA hB
      have q8 := rsubtract_ok a b hA hB
      have q9 := rsame_ok (opR fD a b) (opR fD a b) (opR_small rfl a b)
      rw [decide_eq_true rfl] at q3 q6 q9
      have p1 := sameR_ok a b hA hB
      have p2 := withinR_ok a b hA hB
      have p3 := rwithin_ok a b hA hB
      have p4 := rsame_ok a b hA
      have hsm : sameB a b = (validR a && validR b && decide (a = b)) := rfl
      rw [hsm] at p1
      generalize withinB a b = w at *
      generalize validR a = va at *
      generalize validR b = vb at *
      generalize decide (a = b) = e at *
      generalize opR fU a b = U at *
      generalize opR fI a b = I at *
      generalize opR fD a b = E at *
      have key : ∀ s : Bool, s = (va && vb && e) → PC Try.prog 39 [.agg (regRow a), .agg (regRow b)] (.p (.bool s)) := fun s h => by rw [h]; exact p1
      cases va with
      | false =>
        have p1 := key false rfl
        refine pc_of_awp cx (fn := Try.f11) (c := _) Try.func11 rfl rfl (Nat.le_of_ble_eq_true rfl) ?_
        rw [Try.ntmps11]; (repeat (first | refine awp_seq ?_ | refine awp_block ?_ | refine awp_scope ?_ | refine awp_skip ?_ | refine awp_exit ?_ | refine awp_ret ?_ | refine sq_n ?_ | refine sq_r ?_ | refine sq_x ?_ | refine bq_n ?_ | refine bq_r ?_ | refine bq_x ?_ | refine bq_y rfl ?_ | refine pq_n ?_ | refine pq_r ?_ | refine pq_x ?_))
        refine awp_region cx [] fun K hK => ?_
        simp [push_cast]
        repeat (refine And.intro (by clear hK; intros; first | omega | (simp_all; done) | (simp_all <;> omega)) ?_)
        refine hK _ ?_; clear hK K; (repeat (first | refine awp_seq ?_ | refine awp_block ?_ | refine awp_scope ?_ | refine awp_skip ?_ | refine awp_exit ?_ | refine awp_ret ?_ | refine sq_n ?_ | refine sq_r ?_ | refine sq_x ?_ | refine bq_n ?_ | refine bq_r ?_ | refine bq_x ?_ | refine bq_y rfl ?_ | refine pq_n ?_ | refine pq_r ?_ | refine pq_x ?_))
        refine awp_region cx [(1, .p (.bool true)), (5, .p (.bool true))] fun K hK => ?_
        simp [push_cast, s1, s2]
        repeat (refine And.intro (by clear hK; intros; first | omega | (simp_all; done) | (simp_all <;> omega)) ?_)
        refine hK _ ?_; clear hK K; (repeat (first | refine awp_seq ?_ | refine awp_block ?_ | refine awp_scope ?_ | refine awp_skip ?_ | refine awp_exit ?_ | refine awp_ret ?_ | refine sq_n ?_ | refine sq_r ?_ | refine sq_x ?_ | refine bq_n ?_ | refine bq_r ?_ | refine bq_x ?_ | refine bq_y rfl ?_ | refine pq_n ?_ | refine pq_r ?_ | refine pq_x ?_))
        refine awp_cond (b := false) (by simp [push_cast]) (fun hb => ?_) (fun hb => ?_) <;> ((repeat (first | refine awp_seq ?_ | refine awp_block ?_ | refine awp_scope ?_ | refine awp_skip ?_ | refine awp_exit ?_ | refine awp_ret ?_ | refine sq_n ?_ | refine sq_r ?_ | refine sq_x ?_ | refine bq_n ?_ | refine bq_r ?_ | refine bq_x ?_ | refine bq_y rfl ?_ | refine pq_n ?_ | refine pq_r ?_ | refine pq_x ?_)))
        · simp at hb
        · refine awp_region_draw cx mixed [(2, .p (.agg (regRow U))), (5, .p (.agg (regRow U))), (6, .p (.bool true)), (11, .p (.agg (regRow I))), (14, .p (.agg (regRow I))), (15, .p (.bool true)), (21, .p (.agg (regRow E))), (24, .p (.agg (regRow E))), (25, .p (.bool true))] fun K hK => ?_
          simp [push_cast, q1, q2, q3, q4, q5, q6, q7, q8, q9]
          repeat (refine And.intro (by clear hK; intros; first | omega | (simp_all; done) | (simp_all <;> omega)) ?_)
          refine hK _ _ (by kernel_rfl) ?_; clear hK K; (repeat (first | refine awp_seq ?_ | refine awp_block ?_ | refine awp_scope ?_ | refine awp_skip ?_ | refine awp_exit ?_ | refine awp_ret ?_ | refine sq_n ?_ | refine sq_r ?_ | refine sq_x ?_ | refine bq_n ?_ | refine bq_r ?_ | refine bq_x ?_ | refine bq_y rfl ?_ | refine pq_n ?_ | refine pq_r ?_ | refine pq_x ?_))
          refine awp_cond (b := false) (by simp [push_cast]) (fun hb => ?_) (fun hb => ?_) <;> ((repeat (first | refine awp_seq ?_ | refine awp_block ?_ | refine awp_scope ?_ | refine awp_skip ?_ | refine awp_exit ?_ | refine awp_ret ?_ | refine sq_n ?_ | refine sq_r ?_ | refine sq_x ?_ | refine bq_n ?_ | refine bq_r ?_ | refine bq_x ?_ | refine bq_y rfl ?_ | refine pq_n ?_ | refine pq_r ?_ | refine pq_x ?_)))
          · simp at hb
          · refine awp_region cx [(1, .p (.bool false)), (4, .skip), (9, .skip)] fun K hK => ?_
            simp [push_cast, v1]
            repeat (refine And.intro (by clear hK; intros; first | omega | (simp_all; done) | (simp_all <;> omega)) ?_)
            refine hK _ ?_; clear hK K; (repeat (first | refine awp_seq ?_ | refine awp_block ?_ | refine awp_scope ?_ | refine awp_skip ?_ | refine awp_exit ?_ | refine awp_ret ?_ | refine sq_n ?_ | refine sq_r ?_ | refine sq_x ?_ | refine bq_n ?_ | refine bq_r ?_ | refine bq_x ?_ | refine bq_y rfl ?_ | refine pq_n ?_ | refine pq_r ?_ | refine pq_x ?_))
            refine awp_region_draw cx mixed [(2, .p (.bool false)), (8, .p (.bool w)), (11, .p (.bool w)), (15, .p (.bool true))] fun K hK => ?_
            simp [push_cast, p1, p2, p3, c0]
            repeat (refine And.intro (by clear hK; intros; first | omega | (simp_all; done) | (simp_all <;> omega)) ?_)
            refine hK _ _ (by kernel_rfl) ?_; clear hK K; (repeat (first | refine awp_seq ?_ | refine awp_block ?_ | refine awp_scope ?_ | refine awp_skip ?_ | refine awp_exit ?_ | refine awp_ret ?_ | refine sq_n ?_ | refine sq_r ?_ | refine sq_x ?_ | refine bq_n ?_ | refine bq_r ?_ | refine bq_x ?_ | refine bq_y rfl ?_ | refine pq_n ?_ | refine pq_r ?_ | refine pq_x ?_))
            simp [push_cast]
      | true =>
        cases vb with
        | false =>
          have p1 := key false rfl
          refine pc_of_awp cx (fn := Try.f11) (c := _) Try.func11 rfl rfl (Nat.le_of_ble_eq_true rfl) ?_
          rw [Try.ntmps11]; (repeat (first | refine awp_seq ?_ | refine awp_block ?_ | refine awp_scope ?_ | refine awp_skip ?_ | refine awp_exit ?_ | refine awp_ret ?_ | refine sq_n ?_ | refine sq_r ?_ | refine sq_x ?_ | refine bq_n ?_ | refine bq_r ?_ | refine bq_x ?_ | refine bq_y rfl ?_ | refine pq_n ?_ | refine pq_r ?_ | refine pq_x ?_))
          refine awp_region cx [] fun K hK => ?_
          simp [push_cast]
          repeat (refine And.intro (by clear hK; intros; first | omega | (simp_all; done) | (simp_all <;> omega)) ?_)
          refine hK _ ?_; clear hK K; (repeat (first | refine awp_seq ?_ | refine awp_block ?_ | refine awp_scope ?_ | refine awp_skip ?_ | refine awp_exit ?_ | refine awp_ret ?_ | refine sq_n ?_ | refine sq_r ?_ | refine sq_x ?_ | refine bq_n ?_ | refine bq_r ?_ | refine bq_x ?_ | refine bq_y rfl ?_ | refine pq_n ?_ | refine pq_r ?_ | refine pq_x ?_))
          refine awp_region cx [(1, .p (.bool true)), (5, .p (.bool true))] fun K hK => ?_
          simp [push_cast, s1, s2]
          repeat (refine And.intro (by clear hK; intros; first | omega | (simp_all; done) | (simp_all <;> omega)) ?_)
          refine hK _ ?_; clear hK K; (repeat (first | refine awp_seq ?_ | refine awp_block ?_ | refine awp_scope ?_ | refine awp_skip ?_ | refine awp_exit ?_ | refine awp_ret ?_ | refine sq_n ?_ | refine sq_r ?_ | refine sq_x ?_ | refine bq_n ?_ | refine bq_r ?_ | refine bq_x ?_ | refine bq_y rfl ?_ | refine pq_n ?_ | refine pq_r ?_ | refine pq_x ?_))
          refine awp_cond (b := false) (by simp [push_cast]) (fun hb => ?_) (fun hb => ?_) <;> ((repeat (first | refine awp_seq ?_ | refine awp_block ?_ | refine awp_scope ?_ | refine awp_skip ?_ | refine awp_exit ?_ | refine awp_ret ?_ | refine sq_n ?_ | refine sq_r ?_ | refine sq_x ?_ | refine bq_n ?_ | refine bq_r ?_ | refine bq_x ?_ | refine bq_y rfl ?_ | refine pq_n ?_ | refine pq_r ?_ | refine pq_x ?_)))
          · simp at hb
          · refine awp_region_draw cx mixed [(2, .p (.agg (regRow U))), (5, .p (.agg (regRow U))), (6, .p (.bool true)), (11, .p (.agg (regRow I))), (14, .p (.agg (regRow I))), (15, .p (.bool true)), (21, .p (.agg (regRow E))), (24, .p (.agg (regRow E))), (25, .p (.bool true))] fun K hK => ?_
            simp [push_cast, q1, q2, q3, q4, q5, q6, q7, q8, q9]
            repeat (refine And.intro (by clear hK; intros; first | omega | (simp_all; done) | (simp_all <;> omega)) ?_)
            refine hK _ _ (by kernel_rfl) ?_; clear hK K; (repeat (first | refine awp_seq ?_ | refine awp_block ?_ | refine awp_scope ?_ | refine awp_skip ?_ | refine awp_exit ?_ | refine awp_ret ?_ | refine sq_n ?_ | refine sq_r ?_ | refine sq_x ?_ | refine bq_n ?_ | refine bq_r ?_ | refine bq_x ?_ | refine bq_y rfl ?_ | refine pq_n ?_ | refine pq_r ?_ | refine pq_x ?_))
            refine awp_cond (b := false) (by simp [push_cast]) (fun hb => ?_) (fun hb => ?_) <;> ((repeat (first | refine awp_seq ?_ | refine awp_block ?_ | refine awp_scope ?_ | refine awp_skip ?_ | refine awp_exit ?_ | refine awp_ret ?_ | refine sq_n ?_ | refine sq_r ?_ | refine sq_x ?_ | refine bq_n ?_ | refine bq_r ?_ | refine bq_x ?_ | refine bq_y rfl ?_ | refine pq_n ?_ | refine pq_r ?_ | refine pq_x ?_)))
            · simp at hb
            · refine awp_region cx [(1, .p (.bool true)), (4, .p (.bool false)), (9, .skip)] fun K hK => ?_
              simp [push_cast, v1, v2]
              repeat (refine And.intro (by clear hK; intros; first | omega | (simp_all; done) | (simp_all <;> omega)) ?_)
              refine hK _ ?_; clear hK K; (repeat (first | refine awp_seq ?_ | refine awp_block ?_ | refine awp_scope ?_ | refine awp_skip ?_ | refine awp_exit ?_ | refine awp_ret ?_ | refine sq_n ?_ | refine sq_r ?_ | refine sq_x ?_ | refine bq_n ?_ | refine bq_r ?_ | refine bq_x ?_ | refine bq_y rfl ?_ | refine pq_n ?_ | refine pq_r ?_ | refine pq_x ?_))
              refine awp_region_draw cx mixed [(2, .p (.bool false)), (8, .p (.bool w)), (11, .p (.bool w)), (15, .p (.bool true))] fun K hK => ?_
              simp [push_cast, p1, p2, p3, c0]
              repeat (refine And.intro (by clear hK; intros; first | omega | (simp_all; done) | (simp_all <;> omega)) ?_)
              refine hK _ _ (by kernel_rfl) ?_; clear hK K; (repeat (first | refine awp_seq ?_ | refine awp_block ?_ | refine awp_scope ?_ | refine awp_skip ?_ | refine awp_exit ?_ | refine awp_ret ?_ | refine sq_n ?_ | refine sq_r ?_ | refine sq_x ?_ | refine bq_n ?_ | refine bq_r ?_ | refine bq_x ?_ | refine bq_y rfl ?_ | refine pq_n ?_ | refine pq_r ?_ | refine pq_x ?_))
              simp [push_cast]
        | true =>
          have p1 := key e (by simp)
          refine pc_of_awp cx (fn := Try.f11) (c := _) Try.func11 rfl rfl (Nat.le_of_ble_eq_true rfl) ?_
          rw [Try.ntmps11]; (repeat (first | refine awp_seq ?_ | refine awp_block ?_ | refine awp_scope ?_ | refine awp_skip ?_ | refine awp_exit ?_ | refine awp_ret ?_ | refine sq_n ?_ | refine sq_r ?_ | refine sq_x ?_ | refine bq_n ?_ | refine bq_r ?_ | refine bq_x ?_ | refine bq_y rfl ?_ | refine pq_n ?_ | refine pq_r ?_ | refine pq_x ?_))
          refine awp_region cx [] fun K hK => ?_
          simp [push_cast]
          repeat (refine And.intro (by clear hK; intros; first | omega | (simp_all; done) | (simp_all <;> omega)) ?_)
          refine hK _ ?_; clear hK K; (repeat (first | refine awp_seq ?_ | refine awp_block ?_ | refine awp_scope ?_ | refine awp_skip ?_ | refine awp_exit ?_ | refine awp_ret ?_ | refine sq_n ?_ | refine sq_r ?_ | refine sq_x ?_ | refine bq_n ?_ | refine bq_r ?_ | refine bq_x ?_ | refine bq_y rfl ?_ | refine pq_n ?_ | refine pq_r ?_ | refine pq_x ?_))
          refine awp_region cx [(1, .p (.bool true)), (5, .p (.bool true))] fun K hK => ?_
          simp [push_cast, s1, s2]
          repeat (refine And.intro (by clear hK; intros; first | omega | (simp_all; done) | (simp_all <;> omega)) ?_)
          refine hK _ ?_; clear hK K; (repeat (first | refine awp_seq ?_ | refine awp_block ?_ | refine awp_scope ?_ | refine awp_skip ?_ | refine awp_exit ?_ | refine awp_ret ?_ | refine sq_n ?_ | refine sq_r ?_ | refine sq_x ?_ | refine bq_n ?_ | refine bq_r ?_ | refine bq_x ?_ | refine bq_y rfl ?_ | refine pq_n ?_ | refine pq_r ?_ | refine pq_x ?_))
          refine awp_cond (b := false) (by simp [push_cast]) (fun hb => ?_) (fun hb => ?_) <;> ((repeat (first | refine awp_seq ?_ | refine awp_block ?_ | refine awp_scope ?_ | refine awp_skip ?_ | refine awp_exit ?_ | refine awp_ret ?_ | refine sq_n ?_ | refine sq_r ?_ | refine sq_x ?_ | refine bq_n ?_ | refine bq_r ?_ | refine bq_x ?_ | refine bq_y rfl ?_ | refine pq_n ?_ | refine pq_r ?_ | refine pq_x ?_)))
          · simp at hb
          · refine awp_region_draw cx mixed [(2, .p (.agg (regRow U))), (5, .p (.agg (regRow U))), (6, .p (.bool true)), (11, .p (.agg (regRow I))), (14, .p (.agg (regRow I))), (15, .p (.bool true)), (21, .p (.agg (regRow E))), (24, .p (.agg (regRow E))), (25, .p (.bool true))] fun K hK => ?_
            simp [push_cast, q1, q2, q3, q4, q5, q6, q7, q8, q9]
            repeat (refine And.intro (by clear hK; intros; first | omega | (simp_all; done) | (simp_all <;> omega)) ?_)
            refine hK _ _ (by kernel_rfl) ?_; clear hK K; (repeat (first | refine awp_seq ?_ | refine awp_block ?_ | refine awp_scope ?_ | refine awp_skip ?_ | refine awp_exit ?_ | refine awp_ret ?_ | refine sq_n ?_ | refine sq_r ?_ | refine sq_x ?_ | refine bq_n ?_ | refine bq_r ?_ | refine bq_x ?_ | refine bq_y rfl ?_ | refine pq_n ?_ | refine pq_r ?_ | refine pq_x ?_))
            refine awp_cond (b := false) (by simp [push_cast]) (fun hb => ?_) (fun hb => ?_) <;> ((repeat (first | refine awp_seq ?_ | refine awp_block ?_ | refine awp_scope ?_ | refine awp_skip ?_ | refine awp_exit ?_ | refine awp_ret ?_ | refine sq_n ?_ | refine sq_r ?_ | refine sq_x ?_ | refine bq_n ?_ | refine bq_r ?_ | refine bq_x ?_ | refine bq_y rfl ?_ | refine pq_n ?_ | refine pq_r ?_ | refine pq_x ?_)))
            · simp at hb
            · refine awp_region cx [(1, .p (.bool true)), (4, .p (.bool true)), (9, .p (.bool e))] fun K hK => ?_
              simp [push_cast, v1, v2, p4]
              repeat (refine And.intro (by clear hK; intros; first | omega | (simp_all; done) | (simp_all <;> omega)) ?_)
              refine hK _ ?_; clear hK K; (repeat (first | refine awp_seq ?_ | refine awp_block ?_ | refine awp_scope ?_ | refine awp_skip ?_ | refine awp_exit ?_ | refine awp_ret ?_ | refine sq_n ?_ | refine sq_r ?_ | refine sq_x ?_ | refine bq_n ?_ | refine bq_r ?_ | refine bq_x ?_ | refine bq_y rfl ?_ | refine pq_n ?_ | refine pq_r ?_ | refine pq_x ?_))
              refine awp_region_draw cx mixed [(2, .p (.bool e)), (8, .p (.bool w)), (11, .p (.bool w)), (15, .p (.bool true))] fun K hK => ?_
              simp [push_cast, p1, p2, p3, c0]
              repeat (refine And.intro (by clear hK; intros; first | omega | (simp_all; done) | (simp_all <;> omega)) ?_)
              refine hK _ _ (by kernel_rfl) ?_; clear hK K; (repeat (first | refine awp_seq ?_ | refine awp_block ?_ | refine awp_scope ?_ | refine awp_skip ?_ | refine awp_exit ?_ | refine awp_ret ?_ | refine sq_n ?_ | refine sq_r ?_ | refine sq_x ?_ | refine bq_n ?_ | refine bq_r ?_ | refine bq_x ?_ | refine bq_y rfl ?_ | refine pq_n ?_ | refine pq_r ?_ | refine pq_x ?_))
              simp [push_cast]

set_option maxRecDepth 100000 in
theorem regionOps_lifted (os : Os) (started : os.Started) (H : Type) (enc : TypeId × Value → H) :
    ReturnsInHanded {} Try.checked os 11 .any (Rows.regionOpsSpec.pre6 enc Try.prog Try.f11 Rows.regionOpsRow.domain false) (Rows.regionOpsSpec.post enc Try.prog Try.f11 false true false false) := by
  refine returnsInHanded_of_change (C := Try.checked) own started (by kernel_rfl) Try.func11
    (ChangeSpec.witness6 (enc := enc) (C := Try.checked) false ⟨#[], #[zeroReg, zeroReg], []⟩ 8 (by kernel_rfl) (by kernel_rfl) (by kernel_rfl) (by kernel_rfl)) ?_
  intro W base args ds gs before hval hW _ _
  exact law_contract rfl (fun ds h => by match ds, h with | [a0, a1], _ => rfl) laidOut (by simp only [Try.params11]; intro t ht; simp at ht; rcases ht with rfl <;> exact ⟨by kernel_rfl, of_decide_eq_true (by kernel_rfl)⟩) (by kernel_rfl) rfl Try.underlying4
    (fun xs hx => by
      simp only [Try.params11, hasVs] at hx
      obtain ⟨x0, r0, rfl, h0, x1, r1, rfl, h1, rfl⟩ := hx
      obtain ⟨a, rfl⟩ := arg_region h0
      obtain ⟨b, rfl⟩ := arg_region h1
      exact regionops_ok a b) W base args ds gs before hval hW

theorem regionOps_holds : Rows.RegionOpsSaid :=
  OpenClaim.holds_of_wide 11 Try.f11 rfl rfl rfl rfl rfl rfl rfl ⟨rfl, rfl, rfl, rfl, rfl⟩ rfl rfl rfl rfl rfl (by kernel_rfl) Try.func11 (by kernel_rfl)
    (of_decide_eq_true (by kernel_rfl)) (by unfold Func.isWrapper; first | (rw [if_pos (by decide +kernel)]; kernel_rfl) | (rw [if_neg (by decide +kernel)]; exact ⟨rfl, rfl⟩))
    (fun os started H enc _ => regionOps_lifted os started H enc)

end Go.Proofs.Ytmfkfgonedgjnaa
