/-
  The walks of this seat's functions and the plain laws behind them: part L6.
-/
import Derived.Test.YtmfkfgonedgjnaaL3
import Derived.Test.YtmfkfgonedgjnaaX7
set_option linter.unusedVariables false
set_option linter.unusedSimpArgs false
set_option maxRecDepth 100000
namespace Go.Proofs.Ytmfkfgonedgjnaa
open Go.Abs Go.ChangeShapes Go.WideShapes Go.ChangeAt Go.RowKit

theorem filt_len (p : Cell → Bool) : ∀ l : List Cell, (l.filter p).length + (l.filter fun c => !p c).length = l.length
  | [] => rfl
  | a :: l => by
    have := filt_len p l
    cases h : p a <;> simp [h] <;> omega
/-- The numbers of cells add up. -/
theorem opR_count {a b : List Row} (ha : validR a = true) (hb : validR b = true) : (regCells (opR fU a b)).length + (regCells (opR fI a b)).length = (regCells a).length + (regCells b).length := by
  obtain ⟨vU, mU⟩ := opR_facts (f := fU) rfl ha hb
  obtain ⟨vI, mI⟩ := opR_facts (f := fI) rfl ha hb
  have na := nodup_of_ltY (cells_pw ha)
  have nb := nodup_of_ltY (cells_pw hb)
  have nU := nodup_of_ltY (cells_pw vU)
  have nI := nodup_of_ltY (cells_pw vI)
  generalize regCells (opR fU a b) = U at *
  generalize regCells (opR fI a b) = I at *
  generalize regCells a = A at *
  generalize regCells b = B at *
  have h1 : U.Perm (A ++ B.filter fun c => !decide (c ∈ A)) := by
    refine (List.perm_ext_iff_of_nodup nU ?_).2 fun c => ?_
    · rw [List.nodup_append]
      refine ⟨na, nb.filter _, fun x hx y hy => ?_⟩
      rintro rfl
      simp at hy
      exact hy.2 hx
    · have := mU c
      rw [Bool.eq_iff_iff] at this
      simp [fU] at this
      simp [this]
      by_cases hc : c ∈ A <;> simp [hc]
  have h2 : I.Perm (B.filter fun c => decide (c ∈ A)) := by
    refine (List.perm_ext_iff_of_nodup nI (nb.filter _)).2 fun c => ?_
    have := mI c
    rw [Bool.eq_iff_iff] at this
    simp [fI] at this
    simp [this, And.comm]
  have h3 : (B.filter fun c => decide (c ∈ A)).length + (B.filter fun c => !decide (c ∈ A)).length = B.length := by
    exact filt_len (fun c => decide (c ∈ A)) B
  have e1 := h1.length_eq
  have e2 := h2.length_eq
  rw [List.length_append] at e1
  omega

set_option maxHeartbeats 4000000 in
theorem regionsets_ok (a b : List Row) (c : Cell) : PC Try.prog 10 [.agg (regRow a), .agg (regRow b), .agg c.row] (.p (.bool true)) := by
  have c0 := awake18_ok
  have s1 := small_ok a
  have s2 := small_ok b
  have f1 := fun h => @smallB_facts a h
  have f2 := fun h => @smallB_facts b h
  generalize smallB a = sa at *
  generalize smallB b = sb at *
  cases sa with
  | false =>
    refine pc_of_awp cx (fn := Try.f10) (c := _) Try.func10 rfl rfl (Nat.le_of_ble_eq_true rfl) ?_
    rw [Try.ntmps10]; (repeat (first | refine awp_seq ?_ | refine awp_block ?_ | refine awp_scope ?_ | refine awp_skip ?_ | refine awp_exit ?_ | refine awp_ret ?_ | refine sq_n ?_ | refine sq_r ?_ | refine sq_x ?_ | refine bq_n ?_ | refine bq_r ?_ | refine bq_x ?_ | refine bq_y rfl ?_ | refine pq_n ?_ | refine pq_r ?_ | refine pq_x ?_))
    refine awp_region cx [] fun K hK => ?_
    simp [push_cast]
    repeat (refine And.intro (by clear hK; intros; first | omega | (simp_all; done) | (simp_all <;> omega)) ?_)
    refine hK _ ?_; clear hK K; (repeat (first | refine awp_seq ?_ | refine awp_block ?_ | refine awp_scope ?_ | refine awp_skip ?_ | refine awp_exit ?_ | refine awp_ret ?_ | refine sq_n ?_ | refine sq_r ?_ | refine sq_x ?_ | refine bq_n ?_ | refine bq_r ?_ | refine bq_x ?_ | refine bq_y rfl ?_ | refine pq_n ?_ | refine pq_r ?_ | refine pq_x ?_))
    refine awp_region cx [(1, .p (.bool false)), (5, .skip), (10, .skip), (15, .skip)] fun K hK => ?_
    simp [push_cast, s1]
    repeat (refine And.intro (by clear hK; intros; first | omega | (simp_all; done) | (simp_all <;> omega)) ?_)
    refine hK _ ?_; clear hK K; (repeat (first | refine awp_seq ?_ | refine awp_block ?_ | refine awp_scope ?_ | refine awp_skip ?_ | refine awp_exit ?_ | refine awp_ret ?_ | refine sq_n ?_ | refine sq_r ?_ | refine sq_x ?_ | refine bq_n ?_ | refine bq_r ?_ | refine bq_x ?_ | refine bq_y rfl ?_ | refine pq_n ?_ | refine pq_r ?_ | refine pq_x ?_))
    refine awp_cond (b := true) (by simp [push_cast]) (fun hb => ?_) (fun hb => ?_) <;> ((repeat (first | refine awp_seq ?_ | refine awp_block ?_ | refine awp_scope ?_ | refine awp_skip ?_ | refine awp_exit ?_ | refine awp_ret ?_ | refine sq_n ?_ | refine sq_r ?_ | refine sq_x ?_ | refine bq_n ?_ | refine bq_r ?_ | refine bq_x ?_ | refine bq_y rfl ?_ | refine pq_n ?_ | refine pq_r ?_ | refine pq_x ?_)))
    · refine awp_region cx [(0, .p (.bool true))] fun K hK => ?_
      simp [push_cast, c0]
      repeat (refine And.intro (by clear hK; intros; first | omega | (simp_all; done) | (simp_all <;> omega)) ?_)
      refine hK _ ?_; clear hK K; (repeat (first | refine awp_seq ?_ | refine awp_block ?_ | refine awp_scope ?_ | refine awp_skip ?_ | refine awp_exit ?_ | refine awp_ret ?_ | refine sq_n ?_ | refine sq_r ?_ | refine sq_x ?_ | refine bq_n ?_ | refine bq_r ?_ | refine bq_x ?_ | refine bq_y rfl ?_ | refine pq_n ?_ | refine pq_r ?_ | refine pq_x ?_))
      simp [push_cast]
    · simp at hb
  | true =>
    cases sb with
    | false =>
      refine pc_of_awp cx (fn := Try.f10) (c := _) Try.func10 rfl rfl (Nat.le_of_ble_eq_true rfl) ?_
      rw [Try.ntmps10]; (repeat (first | refine awp_seq ?_ | refine awp_block ?_ | refine awp_scope ?_ | refine awp_skip ?_ | refine awp_exit ?_ | refine awp_ret ?_ | refine sq_n ?_ | refine sq_r ?_ | refine sq_x ?_ | refine bq_n ?_ | refine bq_r ?_ | refine bq_x ?_ | refine bq_y rfl ?_ | refine pq_n ?_ | refine pq_r ?_ | refine pq_x ?_))
      refine awp_region cx [] fun K hK => ?_
      simp [push_cast]
      repeat (refine And.intro (by clear hK; intros; first | omega | (simp_all; done) | (simp_all <;> omega)) ?_)
      refine hK _ ?_; clear hK K; (repeat (first | refine awp_seq ?_ | refine awp_block ?_ | refine awp_scope ?_ | refine awp_skip ?_ | refine awp_exit ?_ | refine awp_ret ?_ | refine sq_n ?_ | refine sq_r ?_ | refine sq_x ?_ | refine bq_n ?_ | refine bq_r ?_ | refine bq_x ?_ | refine bq_y rfl ?_ | refine pq_n ?_ | refine pq_r ?_ | refine pq_x ?_))
      refine awp_region cx [(1, .p (.bool true)), (5, .p (.bool false)), (10, .skip), (15, .skip)] fun K hK => ?_
      simp [push_cast, s1, s2]
      repeat (refine And.intro (by clear hK; intros; first | omega | (simp_all; done) | (simp_all <;> omega)) ?_)
      refine hK _ ?_; clear hK K; (repeat (first | refine awp_seq ?_ | refine awp_block ?_ | refine awp_scope ?_ | refine awp_skip ?_ | refine awp_exit ?_ | refine awp_ret ?_ | refine sq_n ?_ | refine sq_r ?_ | refine sq_x ?_ | refine bq_n ?_ | refine bq_r ?_ | refine bq_x ?_ | refine bq_y rfl ?_ | refine pq_n ?_ | refine pq_r ?_ | refine pq_x ?_))
      refine awp_cond (b := true) (by simp [push_cast]) (fun hb => ?_) (fun hb => ?_) <;> ((repeat (first | refine awp_seq ?_ | refine awp_block ?_ | refine awp_scope ?_ | refine awp_skip ?_ | refine awp_exit ?_ | refine awp_ret ?_ | refine sq_n ?_ | refine sq_r ?_ | refine sq_x ?_ | refine bq_n ?_ | refine bq_r ?_ | refine bq_x ?_ | refine bq_y rfl ?_ | refine pq_n ?_ | refine pq_r ?_ | refine pq_x ?_)))
      · refine awp_region cx [(0, .p (.bool true))] fun K hK => ?_
        simp [push_cast, c0]
        repeat (refine And.intro (by clear hK; intros; first | omega | (simp_all; done) | (simp_all <;> omega)) ?_)
        refine hK _ ?_; clear hK K; (repeat (first | refine awp_seq ?_ | refine awp_block ?_ | refine awp_scope ?_ | refine awp_skip ?_ | refine awp_exit ?_ | refine awp_ret ?_ | refine sq_n ?_ | refine sq_r ?_ | refine sq_x ?_ | refine bq_n ?_ | refine bq_r ?_ | refine bq_x ?_ | refine bq_y rfl ?_ | refine pq_n ?_ | refine pq_r ?_ | refine pq_x ?_))
        simp [push_cast]
      · simp at hb
    | true =>
      obtain ⟨a1, a2, a3⟩ := f1 rfl
      obtain ⟨b1, b2, b3⟩ := f2 rfl
      have hA := small_of a1 a2
      have hB := small_of b1 b2
      have v1 := validR_ok a hA
      have v2 := validR_ok b hB
      cases va : validR a with
      | false =>
        rw [va] at v1
        refine pc_of_awp cx (fn := Try.f10) (c := _) Try.func10 rfl rfl (Nat.le_of_ble_eq_true rfl) ?_
        rw [Try.ntmps10]; (repeat (first | refine awp_seq ?_ | refine awp_block ?_ | refine awp_scope ?_ | refine awp_skip ?_ | refine awp_exit ?_ | refine awp_ret ?_ | refine sq_n ?_ | refine sq_r ?_ | refine sq_x ?_ | refine bq_n ?_ | refine bq_r ?_ | refine bq_x ?_ | refine bq_y rfl ?_ | refine pq_n ?_ | refine pq_r ?_ | refine pq_x ?_))
        refine awp_region cx [] fun K hK => ?_
        simp [push_cast]
        repeat (refine And.intro (by clear hK; intros; first | omega | (simp_all; done) | (simp_all <;> omega)) ?_)
        refine hK _ ?_; clear hK K; (repeat (first | refine awp_seq ?_ | refine awp_block ?_ | refine awp_scope ?_ | refine awp_skip ?_ | refine awp_exit ?_ | refine awp_ret ?_ | refine sq_n ?_ | refine sq_r ?_ | refine sq_x ?_ | refine bq_n ?_ | refine bq_r ?_ | refine bq_x ?_ | refine bq_y rfl ?_ | refine pq_n ?_ | refine pq_r ?_ | refine pq_x ?_))
        refine awp_region cx [(1, .p (.bool true)), (5, .p (.bool true)), (10, .p (.bool false)), (15, .skip)] fun K hK => ?_
        simp [push_cast, s1, s2, v1]
        repeat (refine And.intro (by clear hK; intros; first | omega | (simp_all; done) | (simp_all <;> omega)) ?_)
        refine hK _ ?_; clear hK K; (repeat (first | refine awp_seq ?_ | refine awp_block ?_ | refine awp_scope ?_ | refine awp_skip ?_ | refine awp_exit ?_ | refine awp_ret ?_ | refine sq_n ?_ | refine sq_r ?_ | refine sq_x ?_ | refine bq_n ?_ | refine bq_r ?_ | refine bq_x ?_ | refine bq_y rfl ?_ | refine pq_n ?_ | refine pq_r ?_ | refine pq_x ?_))
        refine awp_cond (b := true) (by simp [push_cast]) (fun hb => ?_) (fun hb => ?_) <;> ((repeat (first | refine awp_seq ?_ | refine awp_block ?_ | refine awp_scope ?_ | refine awp_skip ?_ | refine awp_exit ?_ | refine awp_ret ?_ | refine sq_n ?_ | refine sq_r ?_ | refine sq_x ?_ | refine bq_n ?_ | refine bq_r ?_ | refine bq_x ?_ | refine bq_y rfl ?_ | refine pq_n ?_ | refine pq_r ?_ | refine pq_x ?_)))
        · refine awp_region cx [(0, .p (.bool true))] fun K hK => ?_
          simp [push_cast, c0]
          repeat (refine And.intro (by clear hK; intros; first | omega | (simp_all; done) | (simp_all <;> omega)) ?_)
          refine hK _ ?_; clear hK K; (repeat (first | refine awp_seq ?_ | refine awp_block ?_ | refine awp_scope ?_ | refine awp_skip ?_ | refine awp_exit ?_ | refine awp_ret ?_ | refine sq_n ?_ | refine sq_r ?_ | refine sq_x ?_ | refine bq_n ?_ | refine bq_r ?_ | refine bq_x ?_ | refine bq_y rfl ?_ | refine pq_n ?_ | refine pq_r ?_ | refine pq_x ?_))
          simp [push_cast]
        · simp at hb
      | true =>
        rw [va] at v1
        cases vb : validR b with
        | false =>
          rw [vb] at v2
          refine pc_of_awp cx (fn := Try.f10) (c := _) Try.func10 rfl rfl (Nat.le_of_ble_eq_true rfl) ?_
          rw [Try.ntmps10]; (repeat (first | refine awp_seq ?_ | refine awp_block ?_ | refine awp_scope ?_ | refine awp_skip ?_ | refine awp_exit ?_ | refine awp_ret ?_ | refine sq_n ?_ | refine sq_r ?_ | refine sq_x ?_ | refine bq_n ?_ | refine bq_r ?_ | refine bq_x ?_ | refine bq_y rfl ?_ | refine pq_n ?_ | refine pq_r ?_ | refine pq_x ?_))
          refine awp_region cx [] fun K hK => ?_
          simp [push_cast]
          repeat (refine And.intro (by clear hK; intros; first | omega | (simp_all; done) | (simp_all <;> omega)) ?_)
          refine hK _ ?_; clear hK K; (repeat (first | refine awp_seq ?_ | refine awp_block ?_ | refine awp_scope ?_ | refine awp_skip ?_ | refine awp_exit ?_ | refine awp_ret ?_ | refine sq_n ?_ | refine sq_r ?_ | refine sq_x ?_ | refine bq_n ?_ | refine bq_r ?_ | refine bq_x ?_ | refine bq_y rfl ?_ | refine pq_n ?_ | refine pq_r ?_ | refine pq_x ?_))
          refine awp_region cx [(1, .p (.bool true)), (5, .p (.bool true)), (10, .p (.bool true)), (15, .p (.bool false))] fun K hK => ?_
          simp [push_cast, s1, s2, v1, v2]
          repeat (refine And.intro (by clear hK; intros; first | omega | (simp_all; done) | (simp_all <;> omega)) ?_)
          refine hK _ ?_; clear hK K; (repeat (first | refine awp_seq ?_ | refine awp_block ?_ | refine awp_scope ?_ | refine awp_skip ?_ | refine awp_exit ?_ | refine awp_ret ?_ | refine sq_n ?_ | refine sq_r ?_ | refine sq_x ?_ | refine bq_n ?_ | refine bq_r ?_ | refine bq_x ?_ | refine bq_y rfl ?_ | refine pq_n ?_ | refine pq_r ?_ | refine pq_x ?_))
          refine awp_cond (b := true) (by simp [push_cast]) (fun hb => ?_) (fun hb => ?_) <;> ((repeat (first | refine awp_seq ?_ | refine awp_block ?_ | refine awp_scope ?_ | refine awp_skip ?_ | refine awp_exit ?_ | refine awp_ret ?_ | refine sq_n ?_ | refine sq_r ?_ | refine sq_x ?_ | refine bq_n ?_ | refine bq_r ?_ | refine bq_x ?_ | refine bq_y rfl ?_ | refine pq_n ?_ | refine pq_r ?_ | refine pq_x ?_)))
          · refine awp_region cx [(0, .p (.bool true))] fun K hK => ?_
            simp [push_cast, c0]
            repeat (refine And.intro (by clear hK; intros; first | omega | (simp_all; done) | (simp_all <;> omega)) ?_)
            refine hK _ ?_; clear hK K; (repeat (first | refine awp_seq ?_ | refine awp_block ?_ | refine awp_scope ?_ | refine awp_skip ?_ | refine awp_exit ?_ | refine awp_ret ?_ | refine sq_n ?_ | refine sq_r ?_ | refine sq_x ?_ | refine bq_n ?_ | refine bq_r ?_ | refine bq_x ?_ | refine bq_y rfl ?_ | refine pq_n ?_ | refine pq_r ?_ | refine pq_x ?_))
            simp [push_cast]
          · simp at hb
        | true =>
          rw [vb] at v2
          obtain ⟨vU, mU⟩ := opR_facts (f := fU) rfl va vb
          obtain ⟨vI, mI⟩ := opR_facts (f := fI) rfl va vb
          obtain ⟨vD, mD⟩ := opR_facts (f := fD) rfl va vb
          have o1 := unionR_ok a b hA hB
          have o2 := intersectR_ok a b hA hB
          have o3 := subtractR_ok a b hA hB
          have w1 := valid_ok (opR fU a b) (valid_small vU)
          have w2 := valid_ok (opR fI a b) (valid_small vI)
          have w3 := valid_ok (opR fD a b) (valid_small vD)
          rw [vU] at w1
          rw [vI] at w2
          rw [vD] at w3
          have hca : countR a = (regCells a).length := by simp [countR, va]
          have hcb : countR b = (regCells b).length := by simp [countR, vb]
          have k1 := rcells_ok a hA (fun _ => by omega)
          have k2 := rcells_ok b hB (fun _ => by omega)
          have hla : (cellsOf a).length ≤ 600 := by unfold cellsOf; rw [if_pos va]; omega
          have hlb : (cellsOf b).length ≤ 600 := by unfold cellsOf; rw [if_pos vb]; omega
          have p1 := fun c => contains18_ok a c hA
          have p2 := fun c => contains18_ok b c hB
          have q1 := fun c => contains_ok (opR fU a b) c (valid_small vU)
          have q2 := fun c => contains_ok (opR fI a b) c (valid_small vI)
          have q3 := fun c => contains_ok (opR fD a b) c (valid_small vD)
          have r1 : ∀ c, conB (opR fU a b) c = (conB a c || conB b c) := fun c => by rw [conB_mem vU, conB_mem va, conB_mem vb, mU]; rfl
          have r2 : ∀ c, conB (opR fI a b) c = (conB a c && conB b c) := fun c => by rw [conB_mem vI, conB_mem va, conB_mem vb, mI]; rfl
          have r3 : ∀ c, conB (opR fD a b) c = (conB a c && !conB b c) := fun c => by rw [conB_mem vD, conB_mem va, conB_mem vb, mD]; rfl
          have t1 := count_ok (opR fU a b) (valid_small vU)
          have t2 := count_ok (opR fI a b) (valid_small vI)
          have t3 := count_ok a hA
          have t4 := count_ok b hB
          have hsum : countR (opR fU a b) + countR (opR fI a b) = countR a + countR b := by
            have := opR_count va vb
            simp only [countR, vU, vI, va, vb, if_true]; exact this
          have hle : countR (opR fU a b) ≤ 1200 ∧ countR (opR fI a b) ≤ 1200 := by omega
          clear hca hcb mU mI mD f1 f2
          generalize cellsOf a = ca at *
          generalize cellsOf b = cb at *
          generalize countR (opR fU a b) = n1 at *
          generalize countR (opR fI a b) = n2 at *
          generalize countR a = n3 at *
          generalize countR b = n4 at *
          generalize opR fU a b = U at *
          generalize opR fI a b = I at *
          generalize opR fD a b = E at *
          have z1 : (1 + ca.length) * 16 ≤ 140737488355328 := by omega
          have z2 : (1 + ca.length + cb.length) * 16 ≤ 140737488355328 := by omega
          have u1 := wrap_i64 (n := (n1 : Int) + n2) (by omega) (by omega)
          have u2 := wrap_i64 (n := (n3 : Int) + n4) (by omega) (by omega)
          have u3 : ((n1 : Int) + n2) = (n3 : Int) + n4 := by omega
          refine pc_of_awp cx (fn := Try.f10) (c := _) Try.func10 rfl rfl (Nat.le_of_ble_eq_true rfl) ?_
          rw [Try.ntmps10]; (repeat (first | refine awp_seq ?_ | refine awp_block ?_ | refine awp_scope ?_ | refine awp_skip ?_ | refine awp_exit ?_ | refine awp_ret ?_ | refine sq_n ?_ | refine sq_r ?_ | refine sq_x ?_ | refine bq_n ?_ | refine bq_r ?_ | refine bq_x ?_ | refine bq_y rfl ?_ | refine pq_n ?_ | refine pq_r ?_ | refine pq_x ?_))
          refine awp_region cx [] fun K hK => ?_
          simp [push_cast]
          repeat (refine And.intro (by clear hK; intros; first | omega | (simp_all; done) | (simp_all <;> omega)) ?_)
          refine hK _ ?_; clear hK K; (repeat (first | refine awp_seq ?_ | refine awp_block ?_ | refine awp_scope ?_ | refine awp_skip ?_ | refine awp_exit ?_ | refine awp_ret ?_ | refine sq_n ?_ | refine sq_r ?_ | refine sq_x ?_ | refine bq_n ?_ | refine bq_r ?_ | refine bq_x ?_ | refine bq_y rfl ?_ | refine pq_n ?_ | refine pq_r ?_ | refine pq_x ?_))
          refine awp_region cx [(1, .p (.bool true)), (5, .p (.bool true)), (10, .p (.bool true)), (15, .p (.bool true))] fun K hK => ?_
          simp [push_cast, s1, s2, v1, v2]
          repeat (refine And.intro (by clear hK; intros; first | omega | (simp_all; done) | (simp_all <;> omega)) ?_)
          refine hK _ ?_; clear hK K; (repeat (first | refine awp_seq ?_ | refine awp_block ?_ | refine awp_scope ?_ | refine awp_skip ?_ | refine awp_exit ?_ | refine awp_ret ?_ | refine sq_n ?_ | refine sq_r ?_ | refine sq_x ?_ | refine bq_n ?_ | refine bq_r ?_ | refine bq_x ?_ | refine bq_y rfl ?_ | refine pq_n ?_ | refine pq_r ?_ | refine pq_x ?_))
          refine awp_cond (b := false) (by simp [push_cast]) (fun hb => ?_) (fun hb => ?_) <;> ((repeat (first | refine awp_seq ?_ | refine awp_block ?_ | refine awp_scope ?_ | refine awp_skip ?_ | refine awp_exit ?_ | refine awp_ret ?_ | refine sq_n ?_ | refine sq_r ?_ | refine sq_x ?_ | refine bq_n ?_ | refine bq_r ?_ | refine bq_x ?_ | refine bq_y rfl ?_ | refine pq_n ?_ | refine pq_r ?_ | refine pq_x ?_)))
          · simp at hb
          · refine awp_region_draw cx mixed [(2, .p (.agg (regRow U))), (5, .p (.agg (regRow I))), (8, .p (.agg (regRow E)))] fun K hK => ?_
            simp [push_cast, o1, o2, o3]
            repeat (refine And.intro (by clear hK; intros; first | omega | (simp_all; done) | (simp_all <;> omega)) ?_)
            refine hK _ _ (by kernel_rfl) ?_; clear hK K; (repeat (first | refine awp_seq ?_ | refine awp_block ?_ | refine awp_scope ?_ | refine awp_skip ?_ | refine awp_exit ?_ | refine awp_ret ?_ | refine sq_n ?_ | refine sq_r ?_ | refine sq_x ?_ | refine bq_n ?_ | refine bq_r ?_ | refine bq_x ?_ | refine bq_y rfl ?_ | refine pq_n ?_ | refine pq_r ?_ | refine pq_x ?_))
            refine awp_region cx [(1, .p (.bool true)), (5, .p (.bool true)), (10, .p (.bool true))] fun K hK => ?_
            simp [push_cast, w1, w2, w3]
            repeat (refine And.intro (by clear hK; intros; first | omega | (simp_all; done) | (simp_all <;> omega)) ?_)
            refine hK _ ?_; clear hK K; (repeat (first | refine awp_seq ?_ | refine awp_block ?_ | refine awp_scope ?_ | refine awp_skip ?_ | refine awp_exit ?_ | refine awp_ret ?_ | refine sq_n ?_ | refine sq_r ?_ | refine sq_x ?_ | refine bq_n ?_ | refine bq_r ?_ | refine bq_x ?_ | refine bq_y rfl ?_ | refine pq_n ?_ | refine pq_r ?_ | refine pq_x ?_))
            refine awp_cond (b := false) (by simp [push_cast]) (fun hb => ?_) (fun hb => ?_) <;> ((repeat (first | refine awp_seq ?_ | refine awp_block ?_ | refine awp_scope ?_ | refine awp_skip ?_ | refine awp_exit ?_ | refine awp_ret ?_ | refine sq_n ?_ | refine sq_r ?_ | refine sq_x ?_ | refine bq_n ?_ | refine bq_r ?_ | refine bq_x ?_ | refine bq_y rfl ?_ | refine pq_n ?_ | refine pq_r ?_ | refine pq_x ?_)))
            · simp at hb
            · refine awp_region_draw cx mixed [(3, .p (encCells ca)), (6, .p (encCells cb))] fun K hK => ?_
              simp [push_cast, k1, k2, z1, z2]
              repeat (refine And.intro (by clear hK; intros; first | omega | (simp_all; done) | (simp_all <;> omega)) ?_)
              refine hK _ _ (by kernel_rfl) ?_; clear hK K; (repeat (first | refine awp_seq ?_ | refine awp_block ?_ | refine awp_scope ?_ | refine awp_skip ?_ | refine awp_exit ?_ | refine awp_ret ?_ | refine sq_n ?_ | refine sq_r ?_ | refine sq_x ?_ | refine bq_n ?_ | refine bq_r ?_ | refine bq_x ?_ | refine bq_y rfl ?_ | refine pq_n ?_ | refine pq_r ?_ | refine pq_x ?_))
              obtain ⟨Q, hQ⟩ : ∃ Q, Q = c :: (ca ++ cb) := ⟨_, rfl⟩
              have hs : min (1 + ca.length) (ca.length + 1) + cb.length = Q.length := by rw [hQ]; simp; omega
              have ht : List.take (1 + ca.length) ([AV.d (D.int IntKind.i64 c.x), AV.d (D.int IntKind.i64 c.y)] :: dr (List.map Cell.row ca)) ++ dr (List.map Cell.row cb) = dr (Q.map Cell.row) := by
                rw [hQ, List.take_of_length_le (by simp [dr]; omega)]; simp [dr, Cell.row]
              have hQl : Q.length ≤ 1300 := by rw [hQ]; simp; omega
              clear hQ k1 k2 z1 z2 hla hlb
              refine awp_region cx [] fun K hK => ?_
              simp [push_cast]
              repeat (refine And.intro (by clear hK; intros; first | omega | (simp_all; done) | (simp_all <;> omega)) ?_)
              refine hK _ ?_; clear hK K; (repeat (first | refine awp_seq ?_ | refine awp_block ?_ | refine awp_scope ?_ | refine awp_skip ?_ | refine awp_exit ?_ | refine awp_ret ?_ | refine sq_n ?_ | refine sq_r ?_ | refine sq_x ?_ | refine bq_n ?_ | refine bq_r ?_ | refine bq_x ?_ | refine bq_y rfl ?_ | refine pq_n ?_ | refine pq_r ?_ | refine pq_x ?_))
              refine awp_loop (β := Nat) (fun k => ⟨133, [(3, .ptr 0 0 0), (4, .ptr 1 0 0), (7, .ptr 2 0 0), (8, .ptr 3 0 0), (9, .ptr 4 0 0), (10, .hs 5 0 Q.length), (11, .d (.int .i64 k))], [(0, some ⟨24, 1, [(regRow a).map .d]⟩), (1, some ⟨24, 1, [(regRow b).map .d]⟩), (2, some ⟨24, 1, [(regRow U).map .d]⟩), (3, some ⟨24, 1, [(regRow I).map .d]⟩), (4, some ⟨24, 1, [(regRow E).map .d]⟩), (5, some ⟨35, 2, dr (Q.map Cell.row)⟩)], 6⟩) (fun k => k ≤ Q.length) (fun k => Q.length - k) 0 ?_ (Nat.zero_le _) ?_
              · refine weak_of [(0, some 0), (1, some 1), (2, some 31), (3, some 32), (4, some 33), (5, some 57)] rfl (by simp [upT, up, upL, push_cast, hs, ht]) (by simp [upH, upR, upL, up, push_cast, hs, ht]) (by simp [namesOk, push_cast]) (by simp [olds])
              · intro k hk
                replace hk : k ≤ Q.length := hk
                (repeat (first | refine awp_seq ?_ | refine awp_block ?_ | refine awp_scope ?_ | refine awp_skip ?_ | refine awp_exit ?_ | refine awp_ret ?_ | refine sq_n ?_ | refine sq_r ?_ | refine sq_x ?_ | refine bq_n ?_ | refine bq_r ?_ | refine bq_x ?_ | refine bq_y rfl ?_ | refine pq_n ?_ | refine pq_r ?_ | refine pq_x ?_))
                refine awp_region cx [] fun K hK => ?_
                simp [push_cast]
                repeat (refine And.intro (by clear hK; intros; first | omega | (simp_all; done) | (simp_all <;> omega)) ?_)
                refine hK _ ?_; clear hK K; (repeat (first | refine awp_seq ?_ | refine awp_block ?_ | refine awp_scope ?_ | refine awp_skip ?_ | refine awp_exit ?_ | refine awp_ret ?_ | refine sq_n ?_ | refine sq_r ?_ | refine sq_x ?_ | refine bq_n ?_ | refine bq_r ?_ | refine bq_x ?_ | refine bq_y rfl ?_ | refine pq_n ?_ | refine pq_r ?_ | refine pq_x ?_))
                refine awp_cond (b := decide ((k : Int) < Q.length)) (by simp [push_cast]) (fun hb => ?_) (fun hb => ?_) <;> ((repeat (first | refine awp_seq ?_ | refine awp_block ?_ | refine awp_scope ?_ | refine awp_skip ?_ | refine awp_exit ?_ | refine awp_ret ?_ | refine sq_n ?_ | refine sq_r ?_ | refine sq_x ?_ | refine bq_n ?_ | refine bq_r ?_ | refine bq_x ?_ | refine bq_y rfl ?_ | refine pq_n ?_ | refine pq_r ?_ | refine pq_x ?_)))
                · have hlt : k < Q.length := by simpa using hb
                  obtain ⟨d, hd⟩ : ∃ d, Q[k]? = some d := getq hlt
                  have e0 := wrap_i64 (n := (k : Int) + 1) (by omega) (by omega)
                  have d1 := p1 d
                  have d2 := p2 d
                  have d3 := q1 d
                  have d4 := q2 d
                  have d5 := q3 d
                  rw [r1] at d3
                  rw [r2] at d4
                  rw [r3] at d5
                  generalize conB a d = pa at *
                  generalize conB b d = pb at *
                  refine awp_region_draw cx mixed [(5, .p (.bool pa)), (11, .p (.bool pb))] fun K hK => ?_
                  simp [push_cast, hd, d1, d2]
                  repeat (refine And.intro (by clear hK; intros; first | omega | (simp_all; done) | (simp_all <;> omega)) ?_)
                  refine hK _ _ (by kernel_rfl) ?_; clear hK K; (repeat (first | refine awp_seq ?_ | refine awp_block ?_ | refine awp_scope ?_ | refine awp_skip ?_ | refine awp_exit ?_ | refine awp_ret ?_ | refine sq_n ?_ | refine sq_r ?_ | refine sq_x ?_ | refine bq_n ?_ | refine bq_r ?_ | refine bq_x ?_ | refine bq_y rfl ?_ | refine pq_n ?_ | refine pq_r ?_ | refine pq_x ?_))
                  refine awp_region_draw cx mixed [(5, .p (.bool (pa || pb))), (17, .p (.bool (pa && pb))), (30, .p (.bool (pa && !pb)))] fun K hK => ?_
                  simp [push_cast, hd, d3, d4, d5]
                  repeat (refine And.intro (by clear hK; intros; first | omega | (simp_all; done) | (simp_all <;> omega)) ?_)
                  refine hK _ _ (by kernel_rfl) ?_; clear hK K; (repeat (first | refine awp_seq ?_ | refine awp_block ?_ | refine awp_scope ?_ | refine awp_skip ?_ | refine awp_exit ?_ | refine awp_ret ?_ | refine sq_n ?_ | refine sq_r ?_ | refine sq_x ?_ | refine bq_n ?_ | refine bq_r ?_ | refine bq_x ?_ | refine bq_y rfl ?_ | refine pq_n ?_ | refine pq_r ?_ | refine pq_x ?_))
                  refine awp_cond (b := false) (by simp [push_cast]) (fun hb => ?_) (fun hb => ?_) <;> ((repeat (first | refine awp_seq ?_ | refine awp_block ?_ | refine awp_scope ?_ | refine awp_skip ?_ | refine awp_exit ?_ | refine awp_ret ?_ | refine sq_n ?_ | refine sq_r ?_ | refine sq_x ?_ | refine bq_n ?_ | refine bq_r ?_ | refine bq_x ?_ | refine bq_y rfl ?_ | refine pq_n ?_ | refine pq_r ?_ | refine pq_x ?_)))
                  · simp at hb
                  · refine awp_region cx [] fun K hK => ?_
                    simp [push_cast, e0]
                    repeat (refine And.intro (by clear hK; intros; first | omega | (simp_all; done) | (simp_all <;> omega)) ?_)
                    refine hK _ ?_; clear hK K; (repeat (first | refine awp_seq ?_ | refine awp_block ?_ | refine awp_scope ?_ | refine awp_skip ?_ | refine awp_exit ?_ | refine awp_ret ?_ | refine sq_n ?_ | refine sq_r ?_ | refine sq_x ?_ | refine bq_n ?_ | refine bq_r ?_ | refine bq_x ?_ | refine bq_y rfl ?_ | refine pq_n ?_ | refine pq_r ?_ | refine pq_x ?_))
                    refine ⟨k + 1, hlt, by omega, ?_⟩
                    refine weak_of [(0, some 0), (1, some 1), (2, some 2), (3, some 3), (4, some 4), (5, some 5)] rfl (by simp [upT, up, upL, push_cast]) (by simp [upH, upR, upL, up, push_cast]) (by simp [namesOk, push_cast]) (by simp [olds])
                · refine awp_region_draw cx mixed [(1, .p (.int .i64 n1)), (3, .p (.int .i64 n2)), (6, .p (.int .i64 n3)), (8, .p (.int .i64 n4)), (12, .p (.bool true))] fun K hK => ?_
                  simp [push_cast, t1, t2, t3, t4, u1, u2, u3, c0]
                  repeat (refine And.intro (by clear hK; intros; first | omega | (simp_all; done) | (simp_all <;> omega)) ?_)
                  refine hK _ _ (by kernel_rfl) ?_; clear hK K; (repeat (first | refine awp_seq ?_ | refine awp_block ?_ | refine awp_scope ?_ | refine awp_skip ?_ | refine awp_exit ?_ | refine awp_ret ?_ | refine sq_n ?_ | refine sq_r ?_ | refine sq_x ?_ | refine bq_n ?_ | refine bq_r ?_ | refine bq_x ?_ | refine bq_y rfl ?_ | refine pq_n ?_ | refine pq_r ?_ | refine pq_x ?_))
                  simp [push_cast, u3]

set_option maxRecDepth 100000 in
theorem regionSets_lifted (os : Os) (started : os.Started) (H : Type) (enc : TypeId × Value → H) :
    ReturnsInHanded {} Try.checked os 10 .any (Rows.regionSetsSpec.pre6 enc Try.prog Try.f10 Rows.regionSetsRow.domain false) (Rows.regionSetsSpec.post enc Try.prog Try.f10 false true false false) := by
  refine returnsInHanded_of_change (C := Try.checked) own started (by kernel_rfl) Try.func10
    (ChangeSpec.witness6 (enc := enc) (C := Try.checked) false ⟨#[], #[zeroReg, zeroReg, zeroCell], []⟩ 8 (by kernel_rfl) (by kernel_rfl) (by kernel_rfl) (by kernel_rfl)) ?_
  intro W base args ds gs before hval hW _ _
  exact law_contract rfl (fun ds h => by match ds, h with | [a0, a1, a2], _ => rfl) laidOut (by simp only [Try.params10]; intro t ht; simp at ht; rcases ht with rfl | rfl <;> exact ⟨by kernel_rfl, of_decide_eq_true (by kernel_rfl)⟩) (by kernel_rfl) rfl Try.underlying4
    (fun xs hx => by
      simp only [Try.params10, hasVs] at hx
      obtain ⟨x0, r0, rfl, h0, x1, r1, rfl, h1, x2, r2, rfl, h2, rfl⟩ := hx
      obtain ⟨a, rfl⟩ := arg_region h0
      obtain ⟨b, rfl⟩ := arg_region h1
      obtain ⟨c, rfl⟩ := arg_cell h2
      exact regionsets_ok a b c) W base args ds gs before hval hW

theorem regionSets_holds : Rows.RegionSetsSaid :=
  OpenClaim.holds_of_wide 10 Try.f10 rfl rfl rfl rfl rfl rfl rfl ⟨rfl, rfl, rfl, rfl, rfl⟩ rfl rfl rfl rfl rfl (by kernel_rfl) Try.func10 (by kernel_rfl)
    (of_decide_eq_true (by kernel_rfl)) (by unfold Func.isWrapper; first | (rw [if_pos (by decide +kernel)]; kernel_rfl) | (rw [if_neg (by decide +kernel)]; exact ⟨rfl, rfl⟩))
    (fun os started H enc _ => regionSets_lifted os started H enc)

end Go.Proofs.Ytmfkfgonedgjnaa
