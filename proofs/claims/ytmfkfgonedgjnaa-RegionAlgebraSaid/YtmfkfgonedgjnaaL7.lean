/-
  The walks of this seat's functions and the plain laws behind them: part L7.
-/
import Derived.Test.YtmfkfgonedgjnaaL3
import Derived.Test.YtmfkfgonedgjnaaX7
set_option linter.unusedVariables false
set_option linter.unusedSimpArgs false
set_option maxRecDepth 100000
namespace Go.Proofs.Ytmfkfgonedgjnaa
open Go.Abs Go.ChangeShapes Go.WideShapes Go.ChangeAt Go.RowKit

theorem reg_ext {R S : List Row} (hR : validR R = true) (hS : validR S = true) (h : ∀ c, decide (c ∈ regCells R) = decide (c ∈ regCells S)) : R = S :=
  region_uniq hR hS fun c => decide_eq_decide.1 (h c)
theorem valid_nil : validR [] = true := rfl
theorem sameB_self {R : List Row} (h : validR R = true) : sameB R R = true := by simp [sameB, h]
theorem withinB_of {a b : List Row} (ha : validR a = true) (hb : validR b = true) (h : ∀ c, c ∈ regCells a → c ∈ regCells b) : withinB a b = true := by
  obtain ⟨v, m⟩ := opR_facts (f := fD) rfl ha hb
  have : opR fD a b = [] := reg_ext v valid_nil fun c => by
    have e : decide (c ∈ regCells []) = false := rfl
    rw [m, e]
    by_cases h1 : c ∈ regCells a
    · rw [decide_eq_true h1, decide_eq_true (h c h1)]; rfl
    · rw [decide_eq_false h1]; rfl
  simp [withinB, ha, hb, this]

set_option maxHeartbeats 4000000 in
theorem regionalgebra_ok (a b c : List Row) : PC Try.prog 12 [.agg (regRow a), .agg (regRow b), .agg (regRow c)] (.p (.bool true)) := by
  have c0 := awake18_ok
  have s1 := small_ok a
  have s2 := small_ok b
  have s3 := small_ok c
  have f1 := fun h => @smallB_facts a h
  have f2 := fun h => @smallB_facts b h
  have f3 := fun h => @smallB_facts c h
  generalize smallB a = sa at *
  generalize smallB b = sb at *
  generalize smallB c = sc at *
  cases sa with
  | false =>
    refine pc_of_awp cx (fn := Try.f12) (c := _) Try.func12 rfl rfl (Nat.le_of_ble_eq_true rfl) ?_
    rw [Try.ntmps12]; (repeat (first | refine awp_seq ?_ | refine awp_block ?_ | refine awp_scope ?_ | refine awp_skip ?_ | refine awp_exit ?_ | refine awp_ret ?_ | refine sq_n ?_ | refine sq_r ?_ | refine sq_x ?_ | refine bq_n ?_ | refine bq_r ?_ | refine bq_x ?_ | refine bq_y rfl ?_ | refine pq_n ?_ | refine pq_r ?_ | refine pq_x ?_))
    refine awp_region cx [] fun K hK => ?_
    simp [push_cast]
    repeat (refine And.intro (by clear hK; intros; first | omega | (simp_all; done) | (simp_all <;> omega)) ?_)
    refine hK _ ?_; clear hK K; (repeat (first | refine awp_seq ?_ | refine awp_block ?_ | refine awp_scope ?_ | refine awp_skip ?_ | refine awp_exit ?_ | refine awp_ret ?_ | refine sq_n ?_ | refine sq_r ?_ | refine sq_x ?_ | refine bq_n ?_ | refine bq_r ?_ | refine bq_x ?_ | refine bq_y rfl ?_ | refine pq_n ?_ | refine pq_r ?_ | refine pq_x ?_))
    refine awp_region cx [(1, .p (.bool false)), (5, .skip), (10, .skip), (15, .skip), (20, .skip), (25, .skip)] fun K hK => ?_
    simp [push_cast, s1]
    repeat (refine And.intro (by clear hK; intros; first | omega | (simp_all; done) | (simp_all <;> omega)) ?_)
    refine hK _ ?_; clear hK K; (repeat (first | refine awp_seq ?_ | refine awp_block ?_ | refine awp_scope ?_ | refine awp_skip ?_ | refine awp_exit ?_ | refine awp_ret ?_ | refine sq_n ?_ | refine sq_r ?_ | refine sq_x ?_ | refine bq_n ?_ | refine bq_r ?_ | refine bq_x ?_ | refine bq_y rfl ?_ | refine pq_n ?_ | refine pq_r ?_ | refine pq_x ?_))
    refine awp_cond (b := true) (by simp [push_cast]) (fun hb => ?_) (fun hb => ?_) <;> ((repeat (first | refine awp_seq ?_ | refine awp_block ?_ | refine awp_scope ?_ | refine awp_skip ?_ | refine awp_exit ?_ | refine awp_ret ?_ | refine sq_n ?_ | refine sq_r ?_ | refine sq_x ?_ | refine bq_n ?_ | refine bq_r ?_ | refine bq_x ?_ | refine bq_y rfl ?_ | refine pq_n ?_ | refine pq_r ?_ | refine pq_x ?_)))
    · refine awp_region cx [(0, .p (.bool true))] fun K hK => ?_
      simp [push_cast, c0]
      repeat (refine And.intro (by clear hK; intros; first | omega | (simp_all; done) | (simp_all <;> omega)) ?_)
      refine hK _ ?_; clear hK K; (repeat (first | refine awp_seq ?_ | refine awp_block ?_ | refine awp_scope ?_ | refine awp_skip ?_ | refine awp_exit ?_ | refine awp_ret ?_ | refine sq_n ?_ | refine sq_r ?_ | refine sq_x ?_ | refine bq_n ?_ | refine bq_r ?_ | refine bq_x ?_ | refine bq_y rfl ?_ | refine pq_n ?_ | refine pq_r ?_ | refine pq_x ?_))
      simp [push_cast]
    · simp at hb
  | true =>
    cases sb with
    | false =>
      refine pc_of_awp cx (fn := Try.f12) (c := _) Try.func12 rfl rfl (Nat.le_of_ble_eq_true rfl) ?_
      rw [Try.ntmps12]; (repeat (first | refine awp_seq ?_ | refine awp_block ?_ | refine awp_scope ?_ | refine awp_skip ?_ | refine awp_exit ?_ | refine awp_ret ?_ | refine sq_n ?_ | refine sq_r ?_ | refine sq_x ?_ | refine bq_n ?_ | refine bq_r ?_ | refine bq_x ?_ | refine bq_y rfl ?_ | refine pq_n ?_ | refine pq_r ?_ | refine pq_x ?_))
      refine awp_region cx [] fun K hK => ?_
      simp [push_cast]
      repeat (refine And.intro (by clear hK; intros; first | omega | (simp_all; done) | (simp_all <;> omega)) ?_)
      refine hK _ ?_; clear hK K; (repeat (first | refine awp_seq ?_ | refine awp_block ?_ | refine awp_scope ?_ | refine awp_skip ?_ | refine awp_exit ?_ | refine awp_ret ?_ | refine sq_n ?_ | refine sq_r ?_ | refine sq_x ?_ | refine bq_n ?_ | refine bq_r ?_ | refine bq_x ?_ | refine bq_y rfl ?_ | refine pq_n ?_ | refine pq_r ?_ | refine pq_x ?_))
      refine awp_region cx [(1, .p (.bool true)), (5, .p (.bool false)), (10, .skip), (15, .skip), (20, .skip), (25, .skip)] fun K hK => ?_
      simp [push_cast, s1, s2]
      repeat (refine And.intro (by clear hK; intros; first | omega | (simp_all; done) | (simp_all <;> omega)) ?_)
      refine hK _ ?_; clear hK K; (repeat (first | refine awp_seq ?_ | refine awp_block ?_ | refine awp_scope ?_ | refine awp_skip ?_ | refine awp_exit ?_ | refine awp_ret ?_ | refine sq_n ?_ | refine sq_r ?_ | refine sq_x ?_ | refine bq_n ?_ | refine bq_r ?_ | refine bq_x ?_ | refine bq_y rfl ?_ | refine pq_n ?_ | refine pq_r ?_ | refine pq_x ?_))
      refine awp_cond (b := true) (by simp [push_cast]) (fun hb => ?_) (fun hb => ?_) <;> ((repeat (first | refine awp_seq ?_ | refine awp_block ?_ | refine awp_scope ?_ | refine awp_skip ?_ | refine awp_exit ?_ | refine awp_ret ?_ | refine sq_n ?_ | refine sq_r ?_ | refine sq_x ?_ | refine bq_n ?_ | refine bq_r ?_ | refine bq_x ?_ | refine bq_y rfl ?_ | refine pq_n ?_ | refine pq_r ?_ | refine pq_x ?_)))
      · refine awp_region cx [(0, .p (.bool true))] fun K hK => ?_
        simp [push_cast, c0]
        repeat (refine And.intro (by clear hK; intros; first | omega | (simp_all; done) | (simp_all <;> omega)) ?_)
        refine hK _ ?_; clear hK K; (repeat (first | refine awp_seq ?_ | refine awp_block ?_ | refine awp_scope ?_ | refine awp_skip ?_ | refine awp_exit ?_ | refine awp_ret ?_ | refine sq_n ?_ | refine sq_r ?_ | refine sq_x ?_ | refine bq_n ?_ | refine bq_r ?_ | refine bq_x ?_ | refine bq_y rfl ?_ | refine pq_n ?_ | refine pq_r ?_ | refine pq_x ?_))
        simp [push_cast]
      · simp at hb
    | true =>
      cases sc with
      | false =>
        refine pc_of_awp cx (fn := Try.f12) (c := _) Try.func12 rfl rfl (Nat.le_of_ble_eq_true rfl) ?_
        rw [Try.ntmps12]; (repeat (first | refine awp_seq ?_ | refine awp_block ?_ | refine awp_scope ?_ | refine awp_skip ?_ | refine awp_exit ?_ | refine awp_ret ?_ | refine sq_n ?_ | refine sq_r ?_ | refine sq_x ?_ | refine bq_n ?_ | refine bq_r ?_ | refine bq_x ?_ | refine bq_y rfl ?_ | refine pq_n ?_ | refine pq_r ?_ | refine pq_x ?_))
        refine awp_region cx [] fun K hK => ?_
        simp [push_cast]
        repeat (refine And.intro (by clear hK; intros; first | omega | (simp_all; done) | (simp_all <;> omega)) ?_)
        refine hK _ ?_; clear hK K; (repeat (first | refine awp_seq ?_ | refine awp_block ?_ | refine awp_scope ?_ | refine awp_skip ?_ | refine awp_exit ?_ | refine awp_ret ?_ | refine sq_n ?_ | refine sq_r ?_ | refine sq_x ?_ | refine bq_n ?_ | refine bq_r ?_ | refine bq_x ?_ | refine bq_y rfl ?_ | refine pq_n ?_ | refine pq_r ?_ | refine pq_x ?_))
        refine awp_region cx [(1, .p (.bool true)), (5, .p (.bool true)), (10, .p (.bool false)), (15, .skip), (20, .skip), (25, .skip)] fun K hK => ?_
        simp [push_cast, s1, s2, s3]
        repeat (refine And.intro (by clear hK; intros; first | omega | (simp_all; done) | (simp_all <;> omega)) ?_)
        refine hK _ ?_; clear hK K; (repeat (first | refine awp_seq ?_ | refine awp_block ?_ | refine awp_scope ?_ | refine awp_skip ?_ | refine awp_exit ?_ | refine awp_ret ?_ | refine sq_n ?_ | refine sq_r ?_ | refine sq_x ?_ | refine bq_n ?_ | refine bq_r ?_ | refine bq_x ?_ | refine bq_y rfl ?_ | refine pq_n ?_ | refine pq_r ?_ | refine pq_x ?_))
        refine awp_cond (b := true) (by simp [push_cast]) (fun hb => ?_) (fun hb => ?_) <;> ((repeat (first | refine awp_seq ?_ | refine awp_block ?_ | refine awp_scope ?_ | refine awp_skip ?_ | refine awp_exit ?_ | refine awp_ret ?_ | refine sq_n ?_ | refine sq_r ?_ | refine sq_x ?_ | refine bq_n ?_ | refine bq_r ?_ | refine bq_x ?_ | refine bq_y rfl ?_ | refine pq_n ?_ | refine pq_r ?_ | refine pq_x ?_)))
        · refine awp_region cx [(0, .p (.bool true))] fun K hK => ?_
          simp [push_cast, c0]
          repeat (refine And.intro (by clear hK; intros; first | omega | (simp_all; done) | (simp_all <;> omega)) ?_)
          refine hK _ ?_; clear hK K; (repeat (first | refine awp_seq ?_ | refine awp_block ?_ | refine awp_scope ?_ | refine awp_skip ?_ | refine awp_exit ?_ | refine awp_ret ?_ | refine sq_n ?_ | refine sq_r ?_ | refine sq_x ?_ | refine bq_n ?_ | refine bq_r ?_ | refine bq_x ?_ | refine bq_y rfl ?_ | refine pq_n ?_ | refine pq_r ?_ | refine pq_x ?_))
          simp [push_cast]
        · simp at hb
      | true =>
        obtain ⟨a1, a2, a3⟩ := f1 rfl
        obtain ⟨b1, b2, b3⟩ := f2 rfl
        obtain ⟨c1, c2, c3⟩ := f3 rfl
        have hA := small_of a1 a2
        have hB := small_of b1 b2
        have hC := small_of c1 c2
        have v1 := valid_ok a hA
        have v2 := valid_ok b hB
        have v3 := valid_ok c hC
        cases va : validR a with
        | false =>
          rw [va] at v1
          refine pc_of_awp cx (fn := Try.f12) (c := _) Try.func12 rfl rfl (Nat.le_of_ble_eq_true rfl) ?_
          rw [Try.ntmps12]; (repeat (first | refine awp_seq ?_ | refine awp_block ?_ | refine awp_scope ?_ | refine awp_skip ?_ | refine awp_exit ?_ | refine awp_ret ?_ | refine sq_n ?_ | refine sq_r ?_ | refine sq_x ?_ | refine bq_n ?_ | refine bq_r ?_ | refine bq_x ?_ | refine bq_y rfl ?_ | refine pq_n ?_ | refine pq_r ?_ | refine pq_x ?_))
          refine awp_region cx [] fun K hK => ?_
          simp [push_cast]
          repeat (refine And.intro (by clear hK; intros; first | omega | (simp_all; done) | (simp_all <;> omega)) ?_)
          refine hK _ ?_; clear hK K; (repeat (first | refine awp_seq ?_ | refine awp_block ?_ | refine awp_scope ?_ | refine awp_skip ?_ | refine awp_exit ?_ | refine awp_ret ?_ | refine sq_n ?_ | refine sq_r ?_ | refine sq_x ?_ | refine bq_n ?_ | refine bq_r ?_ | refine bq_x ?_ | refine bq_y rfl ?_ | refine pq_n ?_ | refine pq_r ?_ | refine pq_x ?_))
          refine awp_region cx [(1, .p (.bool true)), (5, .p (.bool true)), (10, .p (.bool true)), (15, .p (.bool false)), (20, .skip), (25, .skip)] fun K hK => ?_
          simp [push_cast, s1, s2, s3, v1]
          repeat (refine And.intro (by clear hK; intros; first | omega | (simp_all; done) | (simp_all <;> omega)) ?_)
          refine hK _ ?_; clear hK K; (repeat (first | refine awp_seq ?_ | refine awp_block ?_ | refine awp_scope ?_ | refine awp_skip ?_ | refine awp_exit ?_ | refine awp_ret ?_ | refine sq_n ?_ | refine sq_r ?_ | refine sq_x ?_ | refine bq_n ?_ | refine bq_r ?_ | refine bq_x ?_ | refine bq_y rfl ?_ | refine pq_n ?_ | refine pq_r ?_ | refine pq_x ?_))
          refine awp_cond (b := true) (by simp [push_cast]) (fun hb => ?_) (fun hb => ?_) <;> ((repeat (first | refine awp_seq ?_ | refine awp_block ?_ | refine awp_scope ?_ | refine awp_skip ?_ | refine awp_exit ?_ | refine awp_ret ?_ | refine sq_n ?_ | refine sq_r ?_ | refine sq_x ?_ | refine bq_n ?_ | refine bq_r ?_ | refine bq_x ?_ | refine bq_y rfl ?_ | refine pq_n ?_ | refine pq_r ?_ | refine pq_x ?_)))
          · refine awp_region cx [(0, .p (.bool true))] fun K hK => ?_
            simp [push_cast, c0]
            repeat (refine And.intro (by clear hK; intros; first | omega | (simp_all; done) | (simp_all <;> omega)) ?_)
            refine hK _ ?_; clear hK K; (repeat (first | refine awp_seq ?_ | refine awp_block ?_ | refine awp_scope ?_ | refine awp_skip ?_ | refine awp_exit ?_ | refine awp_ret ?_ | refine sq_n ?_ | refine sq_r ?_ | refine sq_x ?_ | refine bq_n ?_ | refine bq_r ?_ | refine bq_x ?_ | refine bq_y rfl ?_ | refine pq_n ?_ | refine pq_r ?_ | refine pq_x ?_))
            simp [push_cast]
          · simp at hb
        | true =>
          rw [va] at v1
          cases vb : validR b with
          | false =>
            rw [vb] at v2
            refine pc_of_awp cx (fn := Try.f12) (c := _) Try.func12 rfl rfl (Nat.le_of_ble_eq_true rfl) ?_
            rw [Try.ntmps12]; (repeat (first | refine awp_seq ?_ | refine awp_block ?_ | refine awp_scope ?_ | refine awp_skip ?_ | refine awp_exit ?_ | refine awp_ret ?_ | refine sq_n ?_ | refine sq_r ?_ | refine sq_x ?_ | refine bq_n ?_ | refine bq_r ?_ | refine bq_x ?_ | refine bq_y rfl ?_ | refine pq_n ?_ | refine pq_r ?_ | refine pq_x ?_))
            refine awp_region cx [] fun K hK => ?_
            simp [push_cast]
            repeat (refine And.intro (by clear hK; intros; first | omega | (simp_all; done) | (simp_all <;> omega)) ?_)
            refine hK _ ?_; clear hK K; (repeat (first | refine awp_seq ?_ | refine awp_block ?_ | refine awp_scope ?_ | refine awp_skip ?_ | refine awp_exit ?_ | refine awp_ret ?_ | refine sq_n ?_ | refine sq_r ?_ | refine sq_x ?_ | refine bq_n ?_ | refine bq_r ?_ | refine bq_x ?_ | refine bq_y rfl ?_ | refine pq_n ?_ | refine pq_r ?_ | refine pq_x ?_))
            refine awp_region cx [(1, .p (.bool true)), (5, .p (.bool true)), (10, .p (.bool true)), (15, .p (.bool true)), (20, .p (.bool false)), (25, .skip)] fun K hK => ?_
            simp [push_cast, s1, s2, s3, v1, v2]
            repeat (refine And.intro (by clear hK; intros; first | omega | (simp_all; done) | (simp_all <;> omega)) ?_)
            refine hK _ ?_; clear hK K; (repeat (first | refine awp_seq ?_ | refine awp_block ?_ | refine awp_scope ?_ | refine awp_skip ?_ | refine awp_exit ?_ | refine awp_ret ?_ | refine sq_n ?_ | refine sq_r ?_ | refine sq_x ?_ | refine bq_n ?_ | refine bq_r ?_ | refine bq_x ?_ | refine bq_y rfl ?_ | refine pq_n ?_ | refine pq_r ?_ | refine pq_x ?_))
            refine awp_cond (b := true) (by simp [push_cast]) (fun hb => ?_) (fun hb => ?_) <;> ((repeat (first | refine awp_seq ?_ | refine awp_block ?_ | refine awp_scope ?_ | refine awp_skip ?_ | refine awp_exit ?_ | refine awp_ret ?_ | refine sq_n ?_ | refine sq_r ?_ | refine sq_x ?_ | refine bq_n ?_ | refine bq_r ?_ | refine bq_x ?_ | refine bq_y rfl ?_ | refine pq_n ?_ | refine pq_r ?_ | refine pq_x ?_)))
            · refine awp_region cx [(0, .p (.bool true))] fun K hK => ?_
              simp [push_cast, c0]
              repeat (refine And.intro (by clear hK; intros; first | omega | (simp_all; done) | (simp_all <;> omega)) ?_)
              refine hK _ ?_; clear hK K; (repeat (first | refine awp_seq ?_ | refine awp_block ?_ | refine awp_scope ?_ | refine awp_skip ?_ | refine awp_exit ?_ | refine awp_ret ?_ | refine sq_n ?_ | refine sq_r ?_ | refine sq_x ?_ | refine bq_n ?_ | refine bq_r ?_ | refine bq_x ?_ | refine bq_y rfl ?_ | refine pq_n ?_ | refine pq_r ?_ | refine pq_x ?_))
              simp [push_cast]
            · simp at hb
          | true =>
            rw [vb] at v2
            cases vc : validR c with
            | false =>
              rw [vc] at v3
              refine pc_of_awp cx (fn := Try.f12) (c := _) Try.func12 rfl rfl (Nat.le_of_ble_eq_true rfl) ?_
              rw [Try.ntmps12]; (repeat (first | refine awp_seq ?_ | refine awp_block ?_ | refine awp_scope ?_ | refine awp_skip ?_ | refine awp_exit ?_ | refine awp_ret ?_ | refine sq_n ?_ | refine sq_r ?_ | refine sq_x ?_ | refine bq_n ?_ | refine bq_r ?_ | refine bq_x ?_ | refine bq_y rfl ?_ | refine pq_n ?_ | refine pq_r ?_ | refine pq_x ?_))
              refine awp_region cx [] fun K hK => ?_
              simp [push_cast]
              repeat (refine And.intro (by clear hK; intros; first | omega | (simp_all; done) | (simp_all <;> omega)) ?_)
              refine hK _ ?_; clear hK K; (repeat (first | refine awp_seq ?_ | refine awp_block ?_ | refine awp_scope ?_ | refine awp_skip ?_ | refine awp_exit ?_ | refine awp_ret ?_ | refine sq_n ?_ | refine sq_r ?_ | refine sq_x ?_ | refine bq_n ?_ | refine bq_r ?_ | refine bq_x ?_ | refine bq_y rfl ?_ | refine pq_n ?_ | refine pq_r ?_ | refine pq_x ?_))
              refine awp_region cx [(1, .p (.bool true)), (5, .p (.bool true)), (10, .p (.bool true)), (15, .p (.bool true)), (20, .p (.bool true)), (25, .p (.bool false))] fun K hK => ?_
              simp [push_cast, s1, s2, s3, v1, v2, v3]
              repeat (refine And.intro (by clear hK; intros; first | omega | (simp_all; done) | (simp_all <;> omega)) ?_)
              refine hK _ ?_; clear hK K; (repeat (first | refine awp_seq ?_ | refine awp_block ?_ | refine awp_scope ?_ | refine awp_skip ?_ | refine awp_exit ?_ | refine awp_ret ?_ | refine sq_n ?_ | refine sq_r ?_ | refine sq_x ?_ | refine bq_n ?_ | refine bq_r ?_ | refine bq_x ?_ | refine bq_y rfl ?_ | refine pq_n ?_ | refine pq_r ?_ | refine pq_x ?_))
              refine awp_cond (b := true) (by simp [push_cast]) (fun hb => ?_) (fun hb => ?_) <;> ((repeat (first | refine awp_seq ?_ | refine awp_block ?_ | refine awp_scope ?_ | refine awp_skip ?_ | refine awp_exit ?_ | refine awp_ret ?_ | refine sq_n ?_ | refine sq_r ?_ | refine sq_x ?_ | refine bq_n ?_ | refine bq_r ?_ | refine bq_x ?_ | refine bq_y rfl ?_ | refine pq_n ?_ | refine pq_r ?_ | refine pq_x ?_)))
              · refine awp_region cx [(0, .p (.bool true))] fun K hK => ?_
                simp [push_cast, c0]
                repeat (refine And.intro (by clear hK; intros; first | omega | (simp_all; done) | (simp_all <;> omega)) ?_)
                refine hK _ ?_; clear hK K; (repeat (first | refine awp_seq ?_ | refine awp_block ?_ | refine awp_scope ?_ | refine awp_skip ?_ | refine awp_exit ?_ | refine awp_ret ?_ | refine sq_n ?_ | refine sq_r ?_ | refine sq_x ?_ | refine bq_n ?_ | refine bq_r ?_ | refine bq_x ?_ | refine bq_y rfl ?_ | refine pq_n ?_ | refine pq_r ?_ | refine pq_x ?_))
                simp [push_cast]
              · simp at hb
            | true =>
              rw [vc] at v3
              clear a1 a2 a3 b1 b2 b3 c1 c2 c3 f1 f2 f3
              obtain ⟨vU, mU⟩ := opR_facts (f := fU) rfl va vb
              obtain ⟨vU', mU'⟩ := opR_facts (f := fU) rfl vb va
              have eU : opR fU b a = opR fU a b := reg_ext vU' vU fun d => by rw [mU, mU']; simp [fU, Bool.or_comm]
              obtain ⟨vI, mI⟩ := opR_facts (f := fI) rfl va vb
              obtain ⟨vI', mI'⟩ := opR_facts (f := fI) rfl vb va
              have eI : opR fI b a = opR fI a b := reg_ext vI' vI fun d => by rw [mI, mI']; simp [fI, Bool.and_comm]
              obtain ⟨vV, mV⟩ := opR_facts (f := fU) rfl vb vc
              obtain ⟨vW, mW⟩ := opR_facts (f := fU) rfl vU vc
              obtain ⟨vW', mW'⟩ := opR_facts (f := fU) rfl va vV
              have eW : opR fU a (opR fU b c) = opR fU (opR fU a b) c := reg_ext vW' vW fun d => by rw [mW, mW', mU, mV]; simp [fU, Bool.or_assoc]
              obtain ⟨vJ, mJ⟩ := opR_facts (f := fI) rfl vb vc
              obtain ⟨vK, mK⟩ := opR_facts (f := fI) rfl vI vc
              obtain ⟨vK', mK'⟩ := opR_facts (f := fI) rfl va vJ
              have eK : opR fI a (opR fI b c) = opR fI (opR fI a b) c := reg_ext vK' vK fun d => by rw [mK, mK', mI, mJ]; simp [fI, Bool.and_assoc]
              obtain ⟨vD, mD⟩ := opR_facts (f := fD) rfl va vb
              obtain ⟨vX, mX⟩ := opR_facts (f := fU) rfl vD vI
              have eX : opR fU (opR fD a b) (opR fI a b) = a := reg_ext vX va fun d => by
                rw [mX, mD, mI]
                cases decide (d ∈ regCells a) <;> cases decide (d ∈ regCells b) <;> rfl
              obtain ⟨vY, mY⟩ := opR_facts (f := fI) rfl vD vI
              have eY : opR fI (opR fD a b) (opR fI a b) = [] := reg_ext vY valid_nil fun d => by
                rw [mY, mD, mI]
                have : decide (d ∈ regCells []) = false := rfl
                rw [this]
                cases decide (d ∈ regCells a) <;> cases decide (d ∈ regCells b) <;> rfl
              have eS : withinB (opR fD a b) a = true := withinB_of vD va fun d hd => by
                have h := mD d
                simp [fD, hd] at h
                exact h.1
              have eT : withinB a (opR fU a b) = true := withinB_of va vU fun d hd => by
                have h := mU d
                simpa [fU, hd] using h
              have q1 := unionR_ok a b hA hB
              have q2 := unionR_ok b a hB hA
              have q3 := intersectR_ok a b hA hB
              have q4 := intersectR_ok b a hB hA
              have q5 := unionR_ok b c hB hC
              have q6 := unionR_ok (opR fU a b) c (valid_small vU) hC
              have q7 := unionR_ok a (opR fU b c) hA (valid_small vV)
              have q8 := intersectR_ok b c hB hC
              have q9 := intersectR_ok (opR fI a b) c (valid_small vI) hC
              have q10 := intersectR_ok a (opR fI b c) hA (valid_small vJ)
              have q11 := subtractR_ok a b hA hB
              have q12 := unionR_ok (opR fD a b) (opR fI a b) (valid_small vD) (valid_small vI)
              have q13 := intersectR_ok (opR fD a b) (opR fI a b) (valid_small vD) (valid_small vI)
              have q14 := withinR_ok (opR fD a b) a (valid_small vD) hA
              have q15 := withinR_ok a (opR fU a b) hA (valid_small vU)
              have q16 := count_ok [] (valid_small valid_nil)
              have z : countR [] = 0 := rfl
              rw [eU] at q2
              rw [eI] at q4
              rw [eW] at q7
              rw [eK] at q10
              rw [eX] at q12
              rw [eY] at q13
              rw [eS] at q14
              rw [eT] at q15
              rw [z] at q16
              have p1 := sameR_ok (opR fU a b) (opR fU a b) (valid_small vU) (valid_small vU)
              have p2 := sameR_ok (opR fI a b) (opR fI a b) (valid_small vI) (valid_small vI)
              have p3 := sameR_ok (opR fU (opR fU a b) c) (opR fU (opR fU a b) c) (valid_small vW) (valid_small vW)
              have p4 := sameR_ok (opR fI (opR fI a b) c) (opR fI (opR fI a b) c) (valid_small vK) (valid_small vK)
              have p5 := sameR_ok a a hA hA
              rw [sameB_self vU] at p1
              rw [sameB_self vI] at p2
              rw [sameB_self vW] at p3
              rw [sameB_self vK] at p4
              rw [sameB_self va] at p5
              clear vU' mU' vI' mI' mU mI mV mW vW' mW' mJ mK vK' mK' mD mX mY eU eI eW eK eX eY eS eT vX vY
              generalize opR fU (opR fU a b) c = W at *
              generalize opR fI (opR fI a b) c = K at *
              generalize opR fU b c = V at *
              generalize opR fI b c = J at *
              generalize opR fU a b = U at *
              generalize opR fI a b = I at *
              generalize opR fD a b = E at *
              refine pc_of_awp cx (fn := Try.f12) (c := _) Try.func12 rfl rfl (Nat.le_of_ble_eq_true rfl) ?_
              rw [Try.ntmps12]; (repeat (first | refine awp_seq ?_ | refine awp_block ?_ | refine awp_scope ?_ | refine awp_skip ?_ | refine awp_exit ?_ | refine awp_ret ?_ | refine sq_n ?_ | refine sq_r ?_ | refine sq_x ?_ | refine bq_n ?_ | refine bq_r ?_ | refine bq_x ?_ | refine bq_y rfl ?_ | refine pq_n ?_ | refine pq_r ?_ | refine pq_x ?_))
              refine awp_region cx [] fun K hK => ?_
              simp [push_cast]
              repeat (refine And.intro (by clear hK; intros; first | omega | (simp_all; done) | (simp_all <;> omega)) ?_)
              refine hK _ ?_; clear hK K; (repeat (first | refine awp_seq ?_ | refine awp_block ?_ | refine awp_scope ?_ | refine awp_skip ?_ | refine awp_exit ?_ | refine awp_ret ?_ | refine sq_n ?_ | refine sq_r ?_ | refine sq_x ?_ | refine bq_n ?_ | refine bq_r ?_ | refine bq_x ?_ | refine bq_y rfl ?_ | refine pq_n ?_ | refine pq_r ?_ | refine pq_x ?_))
              refine awp_region cx [(1, .p (.bool true)), (5, .p (.bool true)), (10, .p (.bool true)), (15, .p (.bool true)), (20, .p (.bool true)), (25, .p (.bool true))] fun K hK => ?_
              simp [push_cast, s1, s2, s3, v1, v2, v3]
              repeat (refine And.intro (by clear hK; intros; first | omega | (simp_all; done) | (simp_all <;> omega)) ?_)
              refine hK _ ?_; clear hK K; (repeat (first | refine awp_seq ?_ | refine awp_block ?_ | refine awp_scope ?_ | refine awp_skip ?_ | refine awp_exit ?_ | refine awp_ret ?_ | refine sq_n ?_ | refine sq_r ?_ | refine sq_x ?_ | refine bq_n ?_ | refine bq_r ?_ | refine bq_x ?_ | refine bq_y rfl ?_ | refine pq_n ?_ | refine pq_r ?_ | refine pq_x ?_))
              refine awp_cond (b := false) (by simp [push_cast]) (fun hb => ?_) (fun hb => ?_) <;> ((repeat (first | refine awp_seq ?_ | refine awp_block ?_ | refine awp_scope ?_ | refine awp_skip ?_ | refine awp_exit ?_ | refine awp_ret ?_ | refine sq_n ?_ | refine sq_r ?_ | refine sq_x ?_ | refine bq_n ?_ | refine bq_r ?_ | refine bq_x ?_ | refine bq_y rfl ?_ | refine pq_n ?_ | refine pq_r ?_ | refine pq_x ?_)))
              · simp at hb
              · refine awp_region_draw cx mixed [(2, .p (.agg (regRow U))), (5, .p (.agg (regRow U)))] fun K hK => ?_
                simp [push_cast, q1, q2]
                repeat (refine And.intro (by clear hK; intros; first | omega | (simp_all; done) | (simp_all <;> omega)) ?_)
                refine hK _ _ (by kernel_rfl) ?_; clear hK K; (repeat (first | refine awp_seq ?_ | refine awp_block ?_ | refine awp_scope ?_ | refine awp_skip ?_ | refine awp_exit ?_ | refine awp_ret ?_ | refine sq_n ?_ | refine sq_r ?_ | refine sq_x ?_ | refine bq_n ?_ | refine bq_r ?_ | refine bq_x ?_ | refine bq_y rfl ?_ | refine pq_n ?_ | refine pq_r ?_ | refine pq_x ?_))
                refine awp_region_draw cx mixed [(2, .p (.bool true)), (7, .p (.agg (regRow I))), (10, .p (.agg (regRow I))), (11, .p (.bool true)), (17, .p (.agg (regRow W))), (21, .p (.agg (regRow V))), (22, .p (.agg (regRow W))), (23, .p (.bool true)), (29, .p (.agg (regRow I))), (31, .p (.agg (regRow K))), (35, .p (.agg (regRow J))), (36, .p (.agg (regRow K))), (37, .p (.bool true))] fun K hK => ?_
                simp [push_cast, p1, p2, p3, p4, q3, q4, q5, q6, q7, q8, q9, q10]
                repeat (refine And.intro (by clear hK; intros; first | omega | (simp_all; done) | (simp_all <;> omega)) ?_)
                refine hK _ _ (by kernel_rfl) ?_; clear hK K; (repeat (first | refine awp_seq ?_ | refine awp_block ?_ | refine awp_scope ?_ | refine awp_skip ?_ | refine awp_exit ?_ | refine awp_ret ?_ | refine sq_n ?_ | refine sq_r ?_ | refine sq_x ?_ | refine bq_n ?_ | refine bq_r ?_ | refine bq_x ?_ | refine bq_y rfl ?_ | refine pq_n ?_ | refine pq_r ?_ | refine pq_x ?_))
                refine awp_cond (b := false) (by simp [push_cast]) (fun hb => ?_) (fun hb => ?_) <;> ((repeat (first | refine awp_seq ?_ | refine awp_block ?_ | refine awp_scope ?_ | refine awp_skip ?_ | refine awp_exit ?_ | refine awp_ret ?_ | refine sq_n ?_ | refine sq_r ?_ | refine sq_x ?_ | refine bq_n ?_ | refine bq_r ?_ | refine bq_x ?_ | refine bq_y rfl ?_ | refine pq_n ?_ | refine pq_r ?_ | refine pq_x ?_)))
                · simp at hb
                · refine awp_region_draw cx mixed [(2, .p (.agg (regRow E))), (5, .p (.agg (regRow I)))] fun K hK => ?_
                  simp [push_cast, q11, q3]
                  repeat (refine And.intro (by clear hK; intros; first | omega | (simp_all; done) | (simp_all <;> omega)) ?_)
                  refine hK _ _ (by kernel_rfl) ?_; clear hK K; (repeat (first | refine awp_seq ?_ | refine awp_block ?_ | refine awp_scope ?_ | refine awp_skip ?_ | refine awp_exit ?_ | refine awp_ret ?_ | refine sq_n ?_ | refine sq_r ?_ | refine sq_x ?_ | refine bq_n ?_ | refine bq_r ?_ | refine bq_x ?_ | refine bq_y rfl ?_ | refine pq_n ?_ | refine pq_r ?_ | refine pq_x ?_))
                  refine awp_region_draw cx mixed [(2, .p (.agg (regRow a))), (4, .p (.bool true)), (8, .p (.agg (regRow []))), (9, .p (.int .i64 (0 : Nat))), (15, .p (.bool true)), (20, .p (.bool true)), (23, .p (.bool true))] fun K hK => ?_
                  simp [push_cast, q12, p5, q13, q16, q14, q15, c0]
                  repeat (refine And.intro (by clear hK; intros; first | omega | (simp_all; done) | (simp_all <;> omega)) ?_)
                  refine hK _ _ (by kernel_rfl) ?_; clear hK K; (repeat (first | refine awp_seq ?_ | refine awp_block ?_ | refine awp_scope ?_ | refine awp_skip ?_ | refine awp_exit ?_ | refine awp_ret ?_ | refine sq_n ?_ | refine sq_r ?_ | refine sq_x ?_ | refine bq_n ?_ | refine bq_r ?_ | refine bq_x ?_ | refine bq_y rfl ?_ | refine pq_n ?_ | refine pq_r ?_ | refine pq_x ?_))
                  simp [push_cast]

set_option maxRecDepth 100000 in
theorem regionAlgebra_lifted (os : Os) (started : os.Started) (H : Type) (enc : TypeId × Value → H) :
    ReturnsInHanded {} Try.checked os 12 .any (Rows.regionAlgebraSpec.pre6 enc Try.prog Try.f12 Rows.regionAlgebraRow.domain false) (Rows.regionAlgebraSpec.post enc Try.prog Try.f12 false true false false) := by
  refine returnsInHanded_of_change (C := Try.checked) own started (by kernel_rfl) Try.func12
    (ChangeSpec.witness6 (enc := enc) (C := Try.checked) false ⟨#[], #[zeroReg, zeroReg, zeroReg], []⟩ 8 (by kernel_rfl) (by kernel_rfl) (by kernel_rfl) (by kernel_rfl)) ?_
  intro W base args ds gs before hval hW _ _
  exact law_contract rfl (fun ds h => by match ds, h with | [a0, a1, a2], _ => rfl) laidOut (by simp only [Try.params12]; intro t ht; simp at ht; rcases ht with rfl <;> exact ⟨by kernel_rfl, of_decide_eq_true (by kernel_rfl)⟩) (by kernel_rfl) rfl Try.underlying4
    (fun xs hx => by
      simp only [Try.params12, hasVs] at hx
      obtain ⟨x0, r0, rfl, h0, x1, r1, rfl, h1, x2, r2, rfl, h2, rfl⟩ := hx
      obtain ⟨a, rfl⟩ := arg_region h0
      obtain ⟨b, rfl⟩ := arg_region h1
      obtain ⟨c, rfl⟩ := arg_region h2
      exact regionalgebra_ok a b c) W base args ds gs before hval hW

theorem regionAlgebra_holds : Rows.RegionAlgebraSaid :=
  OpenClaim.holds_of_wide 12 Try.f12 rfl rfl rfl rfl rfl rfl rfl ⟨rfl, rfl, rfl, rfl, rfl⟩ rfl rfl rfl rfl rfl (by kernel_rfl) Try.func12 (by kernel_rfl)
    (of_decide_eq_true (by kernel_rfl)) (by unfold Func.isWrapper; first | (rw [if_pos (by decide +kernel)]; kernel_rfl) | (rw [if_neg (by decide +kernel)]; exact ⟨rfl, rfl⟩))
    (fun os started H enc _ => regionAlgebra_lifted os started H enc)

end Go.Proofs.Ytmfkfgonedgjnaa
