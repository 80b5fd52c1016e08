/-
  The walks of this seat's functions and the plain laws behind them: part Y4.
-/
import Derived.Test.YtmfkfgonedgjnaaY3
import Derived.Test.YtmfkfgonedgjnaaR2
set_option linter.unusedVariables false
set_option linter.unusedSimpArgs false
set_option maxRecDepth 100000
namespace Go.Proofs.Ytmfkfgonedgjnaa
open Go.Abs

theorem sideAV (R : List Row) (i : Nat) (y : Int) : ∃ P : AV, ((R[i]? = none ∧ P = .nl ∧ stepI R i y = i) ∨ (∃ v, R[i]? = some v ∧ ¬ v.y = y ∧ P = .nl ∧ stepI R i y = i) ∨ (∃ v, R[i]? = some v ∧ v.y = y ∧ P = .d (encRuns v.runs) ∧ stepI R i y = i + 1)) ∧ ((P = .nl ∧ runsAt R i y = []) ∨ P = .d (encRuns (runsAt R i y))) := by
  cases h : R[i]? with
  | none => exact ⟨.nl, .inl ⟨rfl, rfl, by simp [stepI, h]⟩, .inl ⟨rfl, by simp [runsAt, h]⟩⟩
  | some v =>
    by_cases e : v.y = y
    · exact ⟨.d (encRuns v.runs), .inr (.inr ⟨v, rfl, e, rfl, by simp [stepI, h, e]⟩), .inr (by simp [runsAt, h, e])⟩
    · exact ⟨.nl, .inr (.inl ⟨v, rfl, e, rfl, by simp [stepI, h, e]⟩), .inl ⟨rfl, by simp [runsAt, h, e]⟩⟩
theorem runsAt_len {R : List Row} (h : smallR R) (i : Nat) (y : Int) : (runsAt R i y).length ≤ 1000000 := by
  unfold runsAt
  split
  · rename_i v hv
    split
    · exact h.2 v (List.mem_of_getElem? hv)
    · simp
  · simp

set_option maxHeartbeats 4000000 in
theorem operated_ok (op : Int) (f : Bool → Bool → Bool) (hf : f false false = false) (hkp : ∀ x y, PC Try.prog 133 [.int .i64 op, .bool x, .bool y] (.p (.bool (f x y)))) (a b : List Row) (hA : smallR a) (hB : smallR b) :
    PC Try.prog 85 [.int .i64 op, .agg (regRow a), .agg (regRow b)] (.p (.agg (regRow (opR f a b)))) := by
  have c1 := validR_ok a hA
  have c2 := validR_ok b hB
  have hal := hA.1
  have hbl := hB.1
  have hop : opR f a b = if validR a && validR b then opOn f a b (dedup (allY a b)) else [] := rfl
  cases ha : validR a with
  | false =>
    rw [ha] at c1
    have h0 : opR f a b = [] := by rw [hop, ha]; simp
    rw [h0]
    refine pc_of_awp cx (fn := Try.f85) (c := _) Try.func85 rfl rfl (Nat.le_of_ble_eq_true rfl) ?_
    rw [Try.ntmps85]; (repeat (first | refine awp_seq ?_ | refine awp_block ?_ | refine awp_scope ?_ | refine awp_skip ?_ | refine awp_exit ?_ | refine awp_ret ?_ | refine sq_n ?_ | refine sq_r ?_ | refine sq_x ?_ | refine bq_n ?_ | refine bq_r ?_ | refine bq_x ?_ | refine bq_y rfl ?_ | refine pq_n ?_ | refine pq_r ?_ | refine pq_x ?_))
    refine awp_region cx [] fun K hK => ?_
    simp [push_cast]
    repeat (refine And.intro (by clear hK; intros; first | omega | (simp_all; done) | (simp_all <;> omega)) ?_)
    refine hK _ ?_; clear hK K; (repeat (first | refine awp_seq ?_ | refine awp_block ?_ | refine awp_scope ?_ | refine awp_skip ?_ | refine awp_exit ?_ | refine awp_ret ?_ | refine sq_n ?_ | refine sq_r ?_ | refine sq_x ?_ | refine bq_n ?_ | refine bq_r ?_ | refine bq_x ?_ | refine bq_y rfl ?_ | refine pq_n ?_ | refine pq_r ?_ | refine pq_x ?_))
    refine awp_region cx [] fun K hK => ?_
    simp [push_cast]
    repeat (refine And.intro (by clear hK; intros; first | omega | (simp_all; done) | (simp_all <;> omega)) ?_)
    refine hK _ ?_; clear hK K; (repeat (first | refine awp_seq ?_ | refine awp_block ?_ | refine awp_scope ?_ | refine awp_skip ?_ | refine awp_exit ?_ | refine awp_ret ?_ | refine sq_n ?_ | refine sq_r ?_ | refine sq_x ?_ | refine bq_n ?_ | refine bq_r ?_ | refine bq_x ?_ | refine bq_y rfl ?_ | refine pq_n ?_ | refine pq_r ?_ | refine pq_x ?_))
    refine awp_region cx [(1, .p (.bool false)), (5, .skip)] fun K hK => ?_
    simp [push_cast, c1]
    repeat (refine And.intro (by clear hK; intros; first | omega | (simp_all; done) | (simp_all <;> omega)) ?_)
    refine hK _ ?_; clear hK K; (repeat (first | refine awp_seq ?_ | refine awp_block ?_ | refine awp_scope ?_ | refine awp_skip ?_ | refine awp_exit ?_ | refine awp_ret ?_ | refine sq_n ?_ | refine sq_r ?_ | refine sq_x ?_ | refine bq_n ?_ | refine bq_r ?_ | refine bq_x ?_ | refine bq_y rfl ?_ | refine pq_n ?_ | refine pq_r ?_ | refine pq_x ?_))
    refine awp_cond (b := true) (by simp [push_cast]) (fun hb => ?_) (fun hb => ?_) <;> ((repeat (first | refine awp_seq ?_ | refine awp_block ?_ | refine awp_scope ?_ | refine awp_skip ?_ | refine awp_exit ?_ | refine awp_ret ?_ | refine sq_n ?_ | refine sq_r ?_ | refine sq_x ?_ | refine bq_n ?_ | refine bq_r ?_ | refine bq_x ?_ | refine bq_y rfl ?_ | refine pq_n ?_ | refine pq_r ?_ | refine pq_x ?_)))
    · refine awp_region cx [] fun K hK => ?_
      simp [push_cast]
      repeat (refine And.intro (by clear hK; intros; first | omega | (simp_all; done) | (simp_all <;> omega)) ?_)
      refine hK _ ?_; clear hK K; (repeat (first | refine awp_seq ?_ | refine awp_block ?_ | refine awp_scope ?_ | refine awp_skip ?_ | refine awp_exit ?_ | refine awp_ret ?_ | refine sq_n ?_ | refine sq_r ?_ | refine sq_x ?_ | refine bq_n ?_ | refine bq_r ?_ | refine bq_x ?_ | refine bq_y rfl ?_ | refine pq_n ?_ | refine pq_r ?_ | refine pq_x ?_))
      simp [push_cast]
    · simp at hb
  | true =>
    rw [ha] at c1
    cases hb0 : validR b with
    | false =>
      rw [hb0] at c2
      have h0 : opR f a b = [] := by rw [hop, ha, hb0]; simp
      rw [h0]
      refine pc_of_awp cx (fn := Try.f85) (c := _) Try.func85 rfl rfl (Nat.le_of_ble_eq_true rfl) ?_
      rw [Try.ntmps85]; (repeat (first | refine awp_seq ?_ | refine awp_block ?_ | refine awp_scope ?_ | refine awp_skip ?_ | refine awp_exit ?_ | refine awp_ret ?_ | refine sq_n ?_ | refine sq_r ?_ | refine sq_x ?_ | refine bq_n ?_ | refine bq_r ?_ | refine bq_x ?_ | refine bq_y rfl ?_ | refine pq_n ?_ | refine pq_r ?_ | refine pq_x ?_))
      refine awp_region cx [] fun K hK => ?_
      simp [push_cast]
      repeat (refine And.intro (by clear hK; intros; first | omega | (simp_all; done) | (simp_all <;> omega)) ?_)
      refine hK _ ?_; clear hK K; (repeat (first | refine awp_seq ?_ | refine awp_block ?_ | refine awp_scope ?_ | refine awp_skip ?_ | refine awp_exit ?_ | refine awp_ret ?_ | refine sq_n ?_ | refine sq_r ?_ | refine sq_x ?_ | refine bq_n ?_ | refine bq_r ?_ | refine bq_x ?_ | refine bq_y rfl ?_ | refine pq_n ?_ | refine pq_r ?_ | refine pq_x ?_))
      refine awp_region cx [] fun K hK => ?_
      simp [push_cast]
      repeat (refine And.intro (by clear hK; intros; first | omega | (simp_all; done) | (simp_all <;> omega)) ?_)
      refine hK _ ?_; clear hK K; (repeat (first | refine awp_seq ?_ | refine awp_block ?_ | refine awp_scope ?_ | refine awp_skip ?_ | refine awp_exit ?_ | refine awp_ret ?_ | refine sq_n ?_ | refine sq_r ?_ | refine sq_x ?_ | refine bq_n ?_ | refine bq_r ?_ | refine bq_x ?_ | refine bq_y rfl ?_ | refine pq_n ?_ | refine pq_r ?_ | refine pq_x ?_))
      refine awp_region cx [(1, .p (.bool true)), (5, .p (.bool false))] fun K hK => ?_
      simp [push_cast, c1, c2]
      repeat (refine And.intro (by clear hK; intros; first | omega | (simp_all; done) | (simp_all <;> omega)) ?_)
      refine hK _ ?_; clear hK K; (repeat (first | refine awp_seq ?_ | refine awp_block ?_ | refine awp_scope ?_ | refine awp_skip ?_ | refine awp_exit ?_ | refine awp_ret ?_ | refine sq_n ?_ | refine sq_r ?_ | refine sq_x ?_ | refine bq_n ?_ | refine bq_r ?_ | refine bq_x ?_ | refine bq_y rfl ?_ | refine pq_n ?_ | refine pq_r ?_ | refine pq_x ?_))
      refine awp_cond (b := true) (by simp [push_cast]) (fun hb => ?_) (fun hb => ?_) <;> ((repeat (first | refine awp_seq ?_ | refine awp_block ?_ | refine awp_scope ?_ | refine awp_skip ?_ | refine awp_exit ?_ | refine awp_ret ?_ | refine sq_n ?_ | refine sq_r ?_ | refine sq_x ?_ | refine bq_n ?_ | refine bq_r ?_ | refine bq_x ?_ | refine bq_y rfl ?_ | refine pq_n ?_ | refine pq_r ?_ | refine pq_x ?_)))
      · refine awp_region cx [] fun K hK => ?_
        simp [push_cast]
        repeat (refine And.intro (by clear hK; intros; first | omega | (simp_all; done) | (simp_all <;> omega)) ?_)
        refine hK _ ?_; clear hK K; (repeat (first | refine awp_seq ?_ | refine awp_block ?_ | refine awp_scope ?_ | refine awp_skip ?_ | refine awp_exit ?_ | refine awp_ret ?_ | refine sq_n ?_ | refine sq_r ?_ | refine sq_x ?_ | refine bq_n ?_ | refine bq_r ?_ | refine bq_x ?_ | refine bq_y rfl ?_ | refine pq_n ?_ | refine pq_r ?_ | refine pq_x ?_))
        simp [push_cast]
      · simp at hb
    | true =>
      rw [hb0] at c2
      have hend := fun out h => @opAt_end f hf a b ha hb0 out h
      have hstart := opAt_start f a b
      clear hop
      generalize opR f a b = res at *
      refine pc_of_awp cx (fn := Try.f85) (c := _) Try.func85 rfl rfl (Nat.le_of_ble_eq_true rfl) ?_
      rw [Try.ntmps85]; (repeat (first | refine awp_seq ?_ | refine awp_block ?_ | refine awp_scope ?_ | refine awp_skip ?_ | refine awp_exit ?_ | refine awp_ret ?_ | refine sq_n ?_ | refine sq_r ?_ | refine sq_x ?_ | refine bq_n ?_ | refine bq_r ?_ | refine bq_x ?_ | refine bq_y rfl ?_ | refine pq_n ?_ | refine pq_r ?_ | refine pq_x ?_))
      refine awp_region cx [] fun K hK => ?_
      simp [push_cast]
      repeat (refine And.intro (by clear hK; intros; first | omega | (simp_all; done) | (simp_all <;> omega)) ?_)
      refine hK _ ?_; clear hK K; (repeat (first | refine awp_seq ?_ | refine awp_block ?_ | refine awp_scope ?_ | refine awp_skip ?_ | refine awp_exit ?_ | refine awp_ret ?_ | refine sq_n ?_ | refine sq_r ?_ | refine sq_x ?_ | refine bq_n ?_ | refine bq_r ?_ | refine bq_x ?_ | refine bq_y rfl ?_ | refine pq_n ?_ | refine pq_r ?_ | refine pq_x ?_))
      refine awp_region cx [] fun K hK => ?_
      simp [push_cast]
      repeat (refine And.intro (by clear hK; intros; first | omega | (simp_all; done) | (simp_all <;> omega)) ?_)
      refine hK _ ?_; clear hK K; (repeat (first | refine awp_seq ?_ | refine awp_block ?_ | refine awp_scope ?_ | refine awp_skip ?_ | refine awp_exit ?_ | refine awp_ret ?_ | refine sq_n ?_ | refine sq_r ?_ | refine sq_x ?_ | refine bq_n ?_ | refine bq_r ?_ | refine bq_x ?_ | refine bq_y rfl ?_ | refine pq_n ?_ | refine pq_r ?_ | refine pq_x ?_))
      refine awp_region cx [(1, .p (.bool true)), (5, .p (.bool true))] fun K hK => ?_
      simp [push_cast, c1, c2]
      repeat (refine And.intro (by clear hK; intros; first | omega | (simp_all; done) | (simp_all <;> omega)) ?_)
      refine hK _ ?_; clear hK K; (repeat (first | refine awp_seq ?_ | refine awp_block ?_ | refine awp_scope ?_ | refine awp_skip ?_ | refine awp_exit ?_ | refine awp_ret ?_ | refine sq_n ?_ | refine sq_r ?_ | refine sq_x ?_ | refine bq_n ?_ | refine bq_r ?_ | refine bq_x ?_ | refine bq_y rfl ?_ | refine pq_n ?_ | refine pq_r ?_ | refine pq_x ?_))
      refine awp_cond (b := false) (by simp [push_cast]) (fun hb => ?_) (fun hb => ?_) <;> ((repeat (first | refine awp_seq ?_ | refine awp_block ?_ | refine awp_scope ?_ | refine awp_skip ?_ | refine awp_exit ?_ | refine awp_ret ?_ | refine sq_n ?_ | refine sq_r ?_ | refine sq_x ?_ | refine bq_n ?_ | refine bq_r ?_ | refine bq_x ?_ | refine bq_y rfl ?_ | refine pq_n ?_ | refine pq_r ?_ | refine pq_x ?_)))
      · simp at hb
      · refine awp_region cx [] fun K hK => ?_
        simp [push_cast]
        repeat (refine And.intro (by clear hK; intros; first | omega | (simp_all; done) | (simp_all <;> omega)) ?_)
        refine hK _ ?_; clear hK K; (repeat (first | refine awp_seq ?_ | refine awp_block ?_ | refine awp_scope ?_ | refine awp_skip ?_ | refine awp_exit ?_ | refine awp_ret ?_ | refine sq_n ?_ | refine sq_r ?_ | refine sq_x ?_ | refine bq_n ?_ | refine bq_r ?_ | refine bq_x ?_ | refine bq_y rfl ?_ | refine pq_n ?_ | refine pq_r ?_ | refine pq_x ?_))
        refine awp_loop (β := Nat × Nat × List Row) (fun s => ⟨136, [(0, .d (.int .i64 op)), (4, .ptr 0 0 0), (5, .ptr 1 0 0), (6, .ptr 2 0 0), (7, .ptr 3 0 0), (8, .d (.int .i64 s.1)), (9, .d (.int .i64 s.2.1))], [(0, some ⟨24, 1, [(regRow a).map .d]⟩), (1, some ⟨24, 1, [(regRow b).map .d]⟩), (2, some ⟨24, 1, [[.nl]]⟩), (3, some ⟨24, 1, [[.hs 4 0 s.2.2.length]]⟩), (4, some ⟨58, 2, dr (s.2.2.map Row.row)⟩)], 5⟩) (fun s => OpAt f a b s.1 s.2.1 s.2.2) (fun s => a.length + b.length - (s.1 + s.2.1)) (0, 0, []) ?_ hstart ?_
        · refine weak_of [(0, some 0), (1, some 1), (2, some 2), (3, some 3), (4, none)] rfl (by simp [upT, up, upL, push_cast]) (by simp [upH, upR, upL, up, push_cast]) (by simp [namesOk, push_cast]) (by simp [olds])
        · rintro ⟨i, k, Z⟩ hat
          simp only at hat
          (repeat (first | refine awp_seq ?_ | refine awp_block ?_ | refine awp_scope ?_ | refine awp_skip ?_ | refine awp_exit ?_ | refine awp_ret ?_ | refine sq_n ?_ | refine sq_r ?_ | refine sq_x ?_ | refine bq_n ?_ | refine bq_r ?_ | refine bq_x ?_ | refine bq_y rfl ?_ | refine pq_n ?_ | refine pq_r ?_ | refine pq_x ?_))
          have hile := hat.1
          have hkle := hat.2.1
          have hZl : Z.length ≤ 2000000 := by have := opAt_len hat; omega
          have hZ32 : (Z.length + 1) * 32 ≤ 140737488355328 := by omega
          have e1 := wrap_i64 (n := (i : Int) + 1) (by omega) (by omega)
          have e2 := wrap_i64 (n := (k : Int) + 1) (by omega) (by omega)
          by_cases hn : i < a.length ∨ k < b.length
          · obtain ⟨s1, s2, s3, s4⟩ := opAt_step ha hb0 hat hn
            obtain ⟨y, hy⟩ : ∃ y, nextY a b i k = y := ⟨_, rfl⟩
            rw [hy] at s1 s2 s3 s4
            obtain ⟨P, hPs, hPp⟩ := sideAV a i y
            obtain ⟨Q, hQs, hQp⟩ := sideAV b k y
            have hlp := runsAt_len hA i y
            have hlq := runsAt_len hB k y
            have hvp := rowOf_rv ha y
            have hvq := rowOf_rv hb0 y
            have hor : opRow f a b y = if sweep f (rowOf a y) (rowOf b y) = [] then [] else [⟨y, sweep f (rowOf a y) (rowOf b y)⟩] := rfl
            rw [s1] at hvp hor
            rw [s2] at hvq hor
            rw [hor] at s3
            clear hor s1 s2
            generalize stepI a i y = i' at *
            generalize stepI b k y = k' at *
            generalize runsAt a i y = p at *
            generalize runsAt b k y = q at *
            have g1 := combined_ok op f hf hkp p q hlp hlq hvp hvq
            generalize sweep f p q = r at *
            apply cut_
            · intro key
              cases hAi : a[i]? with
              | some v =>
                have hi1 : i < a.length := (List.getElem?_eq_some_iff.1 hAi).1
                have hav := (List.getElem?_eq_some_iff.1 hAi).2
                refine awp_region cx [] fun K hK => ?_
                simp [push_cast, hi1]
                repeat (refine And.intro (by clear hK; intros; first | omega | (simp_all; done) | (simp_all <;> omega)) ?_)
                refine hK _ ?_; clear hK K; (repeat (first | refine awp_seq ?_ | refine awp_block ?_ | refine awp_scope ?_ | refine awp_skip ?_ | refine awp_exit ?_ | refine awp_ret ?_ | refine sq_n ?_ | refine sq_r ?_ | refine sq_x ?_ | refine bq_n ?_ | refine bq_r ?_ | refine bq_x ?_ | refine bq_y rfl ?_ | refine pq_n ?_ | refine pq_r ?_ | refine pq_x ?_))
                refine awp_cond (b := true) (by simp [push_cast, hi1]) (fun hb => ?_) (fun hb => ?_) <;> ((repeat (first | refine awp_seq ?_ | refine awp_block ?_ | refine awp_scope ?_ | refine awp_skip ?_ | refine awp_exit ?_ | refine awp_ret ?_ | refine sq_n ?_ | refine sq_r ?_ | refine sq_x ?_ | refine bq_n ?_ | refine bq_r ?_ | refine bq_x ?_ | refine bq_y rfl ?_ | refine pq_n ?_ | refine pq_r ?_ | refine pq_x ?_)))
                · refine awp_region cx [] fun K hK => ?_
                  simp [push_cast]
                  repeat (refine And.intro (by clear hK; intros; first | omega | (simp_all; done) | (simp_all <;> omega)) ?_)
                  refine hK _ ?_; clear hK K; (repeat (first | refine awp_seq ?_ | refine awp_block ?_ | refine awp_scope ?_ | refine awp_skip ?_ | refine awp_exit ?_ | refine awp_ret ?_ | refine sq_n ?_ | refine sq_r ?_ | refine sq_x ?_ | refine bq_n ?_ | refine bq_r ?_ | refine bq_x ?_ | refine bq_y rfl ?_ | refine pq_n ?_ | refine pq_r ?_ | refine pq_x ?_))
                  refine awp_region cx [] fun K hK => ?_
                  simp [push_cast]
                  repeat (refine And.intro (by clear hK; intros; first | omega | (simp_all; done) | (simp_all <;> omega)) ?_)
                  refine hK _ ?_; clear hK K; (repeat (first | refine awp_seq ?_ | refine awp_block ?_ | refine awp_scope ?_ | refine awp_skip ?_ | refine awp_exit ?_ | refine awp_ret ?_ | refine sq_n ?_ | refine sq_r ?_ | refine sq_x ?_ | refine bq_n ?_ | refine bq_r ?_ | refine bq_x ?_ | refine bq_y rfl ?_ | refine pq_n ?_ | refine pq_r ?_ | refine pq_x ?_))
                  cases hBk : b[k]? with
                  | some w =>
                    have hk1 : k < b.length := (List.getElem?_eq_some_iff.1 hBk).1
                    have hbw := (List.getElem?_eq_some_iff.1 hBk).2
                    have hk2 : ¬ k = b.length := by (try clear hPs); (try clear hQs); omega
                    have hk3 : ((k : Int) == (b.length : Int)) = false := by (try clear hPs); (try clear hQs); simp; omega
                    refine awp_region_draw cx mixed [] fun K hK => ?_
                    simp [push_cast, hi1, hk1, hk2, hk3, hAi, hBk, hav, hbw, Row.row]
                    repeat (refine And.intro (by clear hK; intros; first | omega | (simp_all; done) | (simp_all <;> omega)) ?_)
                    refine hK _ _ (by kernel_rfl) ?_; clear hK K; (repeat (first | refine awp_seq ?_ | refine awp_block ?_ | refine awp_scope ?_ | refine awp_skip ?_ | refine awp_exit ?_ | refine awp_ret ?_ | refine sq_n ?_ | refine sq_r ?_ | refine sq_x ?_ | refine bq_n ?_ | refine bq_r ?_ | refine bq_x ?_ | refine bq_y rfl ?_ | refine pq_n ?_ | refine pq_r ?_ | refine pq_x ?_))
                    refine awp_cond (b := decide (v.y ≤ w.y)) (by simp [push_cast, hi1, hk1, hk2, hk3]) (fun hb => ?_) (fun hb => ?_) <;> ((repeat (first | refine awp_seq ?_ | refine awp_block ?_ | refine awp_scope ?_ | refine awp_skip ?_ | refine awp_exit ?_ | refine awp_ret ?_ | refine sq_n ?_ | refine sq_r ?_ | refine sq_x ?_ | refine bq_n ?_ | refine bq_r ?_ | refine bq_x ?_ | refine bq_y rfl ?_ | refine pq_n ?_ | refine pq_r ?_ | refine pq_x ?_)))
                    · have hvw : v.y ≤ w.y := by simpa using hb
                      have hyv : v.y = y := by rw [← hy]; simp [nextY, hAi, hBk, hvw]
                      refine awp_region cx [] fun K hK => ?_
                      simp [push_cast, hi1, hAi, hav, Row.row]
                      repeat (refine And.intro (by clear hK; intros; first | omega | (simp_all; done) | (simp_all <;> omega)) ?_)
                      refine hK _ ?_; clear hK K; (repeat (first | refine awp_seq ?_ | refine awp_block ?_ | refine awp_scope ?_ | refine awp_skip ?_ | refine awp_exit ?_ | refine awp_ret ?_ | refine sq_n ?_ | refine sq_r ?_ | refine sq_x ?_ | refine bq_n ?_ | refine bq_r ?_ | refine bq_x ?_ | refine bq_y rfl ?_ | refine pq_n ?_ | refine pq_r ?_ | refine pq_x ?_))
                      refine awp_weak (s' := ⟨136, [(0, .d (.int .i64 op)), (4, .ptr 0 0 0), (5, .ptr 1 0 0), (6, .ptr 2 0 0), (7, .ptr 3 0 0), (8, .d (.int .i64 i)), (9, .d (.int .i64 k)), (10, .d (.int .i64 y)), (11, .nl), (12, .nl)], [(0, some ⟨24, 1, [(regRow a).map .d]⟩), (1, some ⟨24, 1, [(regRow b).map .d]⟩), (2, some ⟨24, 1, [[.nl]]⟩), (3, some ⟨24, 1, [[.hs 4 0 Z.length]]⟩), (4, some ⟨58, 2, dr (Z.map Row.row)⟩)], 5⟩) ?_ key.h
                      refine weak_of [(0, some 0), (1, some 1), (2, some 2), (3, some 3), (4, some 4)] rfl (by simp [upT, up, upL, push_cast, hyv]) (by simp [upH, upR, upL, up, push_cast, hyv]) (by simp [namesOk, push_cast]) (by simp [olds])
                    · have hvw : ¬ v.y ≤ w.y := by simpa using hb
                      have hyv : w.y = y := by rw [← hy]; simp [nextY, hAi, hBk, hvw]
                      refine awp_region cx [] fun K hK => ?_
                      simp [push_cast, hk1, hBk, hbw, Row.row]
                      repeat (refine And.intro (by clear hK; intros; first | omega | (simp_all; done) | (simp_all <;> omega)) ?_)
                      refine hK _ ?_; clear hK K; (repeat (first | refine awp_seq ?_ | refine awp_block ?_ | refine awp_scope ?_ | refine awp_skip ?_ | refine awp_exit ?_ | refine awp_ret ?_ | refine sq_n ?_ | refine sq_r ?_ | refine sq_x ?_ | refine bq_n ?_ | refine bq_r ?_ | refine bq_x ?_ | refine bq_y rfl ?_ | refine pq_n ?_ | refine pq_r ?_ | refine pq_x ?_))
                      refine awp_weak (s' := ⟨136, [(0, .d (.int .i64 op)), (4, .ptr 0 0 0), (5, .ptr 1 0 0), (6, .ptr 2 0 0), (7, .ptr 3 0 0), (8, .d (.int .i64 i)), (9, .d (.int .i64 k)), (10, .d (.int .i64 y)), (11, .nl), (12, .nl)], [(0, some ⟨24, 1, [(regRow a).map .d]⟩), (1, some ⟨24, 1, [(regRow b).map .d]⟩), (2, some ⟨24, 1, [[.nl]]⟩), (3, some ⟨24, 1, [[.hs 4 0 Z.length]]⟩), (4, some ⟨58, 2, dr (Z.map Row.row)⟩)], 5⟩) ?_ key.h
                      refine weak_of [(0, some 0), (1, some 1), (2, some 2), (3, some 3), (4, some 4)] rfl (by simp [upT, up, upL, push_cast, hyv]) (by simp [upH, upR, upL, up, push_cast, hyv]) (by simp [namesOk, push_cast]) (by simp [olds])
                  | none =>
                    have hk1 : k = b.length := by have := List.getElem?_eq_none_iff.1 hBk; (try clear hPs); (try clear hQs); omega
                    have hyv : v.y = y := by rw [← hy]; simp [nextY, hAi, hBk]
                    refine awp_region_draw cx mixed [] fun K hK => ?_
                    simp [push_cast, hi1, hk1, hAi, hav, Row.row]
                    repeat (refine And.intro (by clear hK; intros; first | omega | (simp_all; done) | (simp_all <;> omega)) ?_)
                    refine hK _ _ (by kernel_rfl) ?_; clear hK K; (repeat (first | refine awp_seq ?_ | refine awp_block ?_ | refine awp_scope ?_ | refine awp_skip ?_ | refine awp_exit ?_ | refine awp_ret ?_ | refine sq_n ?_ | refine sq_r ?_ | refine sq_x ?_ | refine bq_n ?_ | refine bq_r ?_ | refine bq_x ?_ | refine bq_y rfl ?_ | refine pq_n ?_ | refine pq_r ?_ | refine pq_x ?_))
                    refine awp_cond (b := true) (by simp [push_cast, hi1, hk1]) (fun hb => ?_) (fun hb => ?_) <;> ((repeat (first | refine awp_seq ?_ | refine awp_block ?_ | refine awp_scope ?_ | refine awp_skip ?_ | refine awp_exit ?_ | refine awp_ret ?_ | refine sq_n ?_ | refine sq_r ?_ | refine sq_x ?_ | refine bq_n ?_ | refine bq_r ?_ | refine bq_x ?_ | refine bq_y rfl ?_ | refine pq_n ?_ | refine pq_r ?_ | refine pq_x ?_)))
                    · refine awp_region cx [] fun K hK => ?_
                      simp [push_cast, hi1, hAi, hav, Row.row]
                      repeat (refine And.intro (by clear hK; intros; first | omega | (simp_all; done) | (simp_all <;> omega)) ?_)
                      refine hK _ ?_; clear hK K; (repeat (first | refine awp_seq ?_ | refine awp_block ?_ | refine awp_scope ?_ | refine awp_skip ?_ | refine awp_exit ?_ | refine awp_ret ?_ | refine sq_n ?_ | refine sq_r ?_ | refine sq_x ?_ | refine bq_n ?_ | refine bq_r ?_ | refine bq_x ?_ | refine bq_y rfl ?_ | refine pq_n ?_ | refine pq_r ?_ | refine pq_x ?_))
                      refine awp_weak (s' := ⟨136, [(0, .d (.int .i64 op)), (4, .ptr 0 0 0), (5, .ptr 1 0 0), (6, .ptr 2 0 0), (7, .ptr 3 0 0), (8, .d (.int .i64 i)), (9, .d (.int .i64 k)), (10, .d (.int .i64 y)), (11, .nl), (12, .nl)], [(0, some ⟨24, 1, [(regRow a).map .d]⟩), (1, some ⟨24, 1, [(regRow b).map .d]⟩), (2, some ⟨24, 1, [[.nl]]⟩), (3, some ⟨24, 1, [[.hs 4 0 Z.length]]⟩), (4, some ⟨58, 2, dr (Z.map Row.row)⟩)], 5⟩) ?_ key.h
                      refine weak_of [(0, some 0), (1, some 1), (2, some 2), (3, some 3), (4, some 4)] rfl (by simp [upT, up, upL, push_cast, hyv, hk1]) (by simp [upH, upR, upL, up, push_cast, hyv, hk1]) (by simp [namesOk, push_cast]) (by simp [olds])
                    · simp at hb
                · simp at hb
              | none =>
                have hi1 : i = a.length := by have := List.getElem?_eq_none_iff.1 hAi; (try clear hPs); (try clear hQs); omega
                have hi2 : ¬ i < a.length := by (try clear hPs); (try clear hQs); omega
                have hk1 : k < b.length := by (try clear hPs); (try clear hQs); omega
                obtain ⟨w, hBk⟩ : ∃ w, b[k]? = some w := getq hk1
                have hbw := (List.getElem?_eq_some_iff.1 hBk).2
                have hk2 : ¬ k = b.length := by (try clear hPs); (try clear hQs); omega
                have hk3 : ((k : Int) == (b.length : Int)) = false := by (try clear hPs); (try clear hQs); simp; omega
                have hyv : w.y = y := by rw [← hy]; simp [nextY, hAi, hBk]
                refine awp_region cx [] fun K hK => ?_
                simp [push_cast, hi2, hk1]
                repeat (refine And.intro (by clear hK; intros; first | omega | (simp_all; done) | (simp_all <;> omega)) ?_)
                refine hK _ ?_; clear hK K; (repeat (first | refine awp_seq ?_ | refine awp_block ?_ | refine awp_scope ?_ | refine awp_skip ?_ | refine awp_exit ?_ | refine awp_ret ?_ | refine sq_n ?_ | refine sq_r ?_ | refine sq_x ?_ | refine bq_n ?_ | refine bq_r ?_ | refine bq_x ?_ | refine bq_y rfl ?_ | refine pq_n ?_ | refine pq_r ?_ | refine pq_x ?_))
                refine awp_cond (b := true) (by simp [push_cast, hi2, hk1]) (fun hb => ?_) (fun hb => ?_) <;> ((repeat (first | refine awp_seq ?_ | refine awp_block ?_ | refine awp_scope ?_ | refine awp_skip ?_ | refine awp_exit ?_ | refine awp_ret ?_ | refine sq_n ?_ | refine sq_r ?_ | refine sq_x ?_ | refine bq_n ?_ | refine bq_r ?_ | refine bq_x ?_ | refine bq_y rfl ?_ | refine pq_n ?_ | refine pq_r ?_ | refine pq_x ?_)))
                · refine awp_region cx [] fun K hK => ?_
                  simp [push_cast]
                  repeat (refine And.intro (by clear hK; intros; first | omega | (simp_all; done) | (simp_all <;> omega)) ?_)
                  refine hK _ ?_; clear hK K; (repeat (first | refine awp_seq ?_ | refine awp_block ?_ | refine awp_scope ?_ | refine awp_skip ?_ | refine awp_exit ?_ | refine awp_ret ?_ | refine sq_n ?_ | refine sq_r ?_ | refine sq_x ?_ | refine bq_n ?_ | refine bq_r ?_ | refine bq_x ?_ | refine bq_y rfl ?_ | refine pq_n ?_ | refine pq_r ?_ | refine pq_x ?_))
                  refine awp_region cx [] fun K hK => ?_
                  simp [push_cast]
                  repeat (refine And.intro (by clear hK; intros; first | omega | (simp_all; done) | (simp_all <;> omega)) ?_)
                  refine hK _ ?_; clear hK K; (repeat (first | refine awp_seq ?_ | refine awp_block ?_ | refine awp_scope ?_ | refine awp_skip ?_ | refine awp_exit ?_ | refine awp_ret ?_ | refine sq_n ?_ | refine sq_r ?_ | refine sq_x ?_ | refine bq_n ?_ | refine bq_r ?_ | refine bq_x ?_ | refine bq_y rfl ?_ | refine pq_n ?_ | refine pq_r ?_ | refine pq_x ?_))
                  refine awp_region_draw cx mixed [] fun K hK => ?_
                  simp [push_cast, hi2, hk1, hk2, hk3]
                  repeat (refine And.intro (by clear hK; intros; first | omega | (simp_all; done) | (simp_all <;> omega)) ?_)
                  refine hK _ _ (by kernel_rfl) ?_; clear hK K; (repeat (first | refine awp_seq ?_ | refine awp_block ?_ | refine awp_scope ?_ | refine awp_skip ?_ | refine awp_exit ?_ | refine awp_ret ?_ | refine sq_n ?_ | refine sq_r ?_ | refine sq_x ?_ | refine bq_n ?_ | refine bq_r ?_ | refine bq_x ?_ | refine bq_y rfl ?_ | refine pq_n ?_ | refine pq_r ?_ | refine pq_x ?_))
                  refine awp_cond (b := false) (by simp [push_cast, hi2, hk1, hk2, hk3]) (fun hb => ?_) (fun hb => ?_) <;> ((repeat (first | refine awp_seq ?_ | refine awp_block ?_ | refine awp_scope ?_ | refine awp_skip ?_ | refine awp_exit ?_ | refine awp_ret ?_ | refine sq_n ?_ | refine sq_r ?_ | refine sq_x ?_ | refine bq_n ?_ | refine bq_r ?_ | refine bq_x ?_ | refine bq_y rfl ?_ | refine pq_n ?_ | refine pq_r ?_ | refine pq_x ?_)))
                  · simp at hb
                  · refine awp_region cx [] fun K hK => ?_
                    simp [push_cast, hk1, hBk, hbw, Row.row]
                    repeat (refine And.intro (by clear hK; intros; first | omega | (simp_all; done) | (simp_all <;> omega)) ?_)
                    refine hK _ ?_; clear hK K; (repeat (first | refine awp_seq ?_ | refine awp_block ?_ | refine awp_scope ?_ | refine awp_skip ?_ | refine awp_exit ?_ | refine awp_ret ?_ | refine sq_n ?_ | refine sq_r ?_ | refine sq_x ?_ | refine bq_n ?_ | refine bq_r ?_ | refine bq_x ?_ | refine bq_y rfl ?_ | refine pq_n ?_ | refine pq_r ?_ | refine pq_x ?_))
                    refine awp_weak (s' := ⟨136, [(0, .d (.int .i64 op)), (4, .ptr 0 0 0), (5, .ptr 1 0 0), (6, .ptr 2 0 0), (7, .ptr 3 0 0), (8, .d (.int .i64 i)), (9, .d (.int .i64 k)), (10, .d (.int .i64 y)), (11, .nl), (12, .nl)], [(0, some ⟨24, 1, [(regRow a).map .d]⟩), (1, some ⟨24, 1, [(regRow b).map .d]⟩), (2, some ⟨24, 1, [[.nl]]⟩), (3, some ⟨24, 1, [[.hs 4 0 Z.length]]⟩), (4, some ⟨58, 2, dr (Z.map Row.row)⟩)], 5⟩) ?_ key.h
                    refine weak_of [(0, some 0), (1, some 1), (2, some 2), (3, some 3), (4, some 4)] rfl (by simp [upT, up, upL, push_cast, hyv]) (by simp [upH, upR, upL, up, push_cast, hyv]) (by simp [namesOk, push_cast]) (by simp [olds])
                · simp at hb
            · (repeat (first | refine awp_seq ?_ | refine awp_block ?_ | refine awp_scope ?_ | refine awp_skip ?_ | refine awp_exit ?_ | refine awp_ret ?_ | refine sq_n ?_ | refine sq_r ?_ | refine sq_x ?_ | refine bq_n ?_ | refine bq_r ?_ | refine bq_x ?_ | refine bq_y rfl ?_ | refine pq_n ?_ | refine pq_r ?_ | refine pq_x ?_))
              apply cut_
              · intro key
                rcases hPs with ⟨hAi, hP, hi'⟩ | ⟨v, hAi, hvy, hP, hi'⟩ | ⟨v, hAi, hvy, hP, hi'⟩
                · have hi2 : ¬ i < a.length := by have := List.getElem?_eq_none_iff.1 hAi; (try clear hPs); (try clear hQs); omega
                  refine awp_region cx [] fun K hK => ?_
                  simp [push_cast, hi2]
                  repeat (refine And.intro (by clear hK; intros; first | omega | (simp_all; done) | (simp_all <;> omega)) ?_)
                  refine hK _ ?_; clear hK K; (repeat (first | refine awp_seq ?_ | refine awp_block ?_ | refine awp_scope ?_ | refine awp_skip ?_ | refine awp_exit ?_ | refine awp_ret ?_ | refine sq_n ?_ | refine sq_r ?_ | refine sq_x ?_ | refine bq_n ?_ | refine bq_r ?_ | refine bq_x ?_ | refine bq_y rfl ?_ | refine pq_n ?_ | refine pq_r ?_ | refine pq_x ?_))
                  refine awp_cond (b := false) (by simp [push_cast, hi2]) (fun hb => ?_) (fun hb => ?_) <;> ((repeat (first | refine awp_seq ?_ | refine awp_block ?_ | refine awp_scope ?_ | refine awp_skip ?_ | refine awp_exit ?_ | refine awp_ret ?_ | refine sq_n ?_ | refine sq_r ?_ | refine sq_x ?_ | refine bq_n ?_ | refine bq_r ?_ | refine bq_x ?_ | refine bq_y rfl ?_ | refine pq_n ?_ | refine pq_r ?_ | refine pq_x ?_)))
                  · simp at hb
                  · refine awp_weak (s' := ⟨136, [(0, .d (.int .i64 op)), (4, .ptr 0 0 0), (5, .ptr 1 0 0), (6, .ptr 2 0 0), (7, .ptr 3 0 0), (8, .d (.int .i64 i')), (9, .d (.int .i64 k)), (10, .d (.int .i64 y)), (11, P), (12, .nl)], [(0, some ⟨24, 1, [(regRow a).map .d]⟩), (1, some ⟨24, 1, [(regRow b).map .d]⟩), (2, some ⟨24, 1, [[.nl]]⟩), (3, some ⟨24, 1, [[.hs 4 0 Z.length]]⟩), (4, some ⟨58, 2, dr (Z.map Row.row)⟩)], 5⟩) ?_ key.h
                    refine weak_of [(0, some 0), (1, some 1), (2, some 2), (3, some 3), (4, some 4)] rfl (by simp [upT, up, upL, push_cast, hP, hi']) (by simp [upH, upR, upL, up, push_cast, hP, hi']) (by simp [namesOk, push_cast]) (by simp [olds])
                · have hi1 : i < a.length := (List.getElem?_eq_some_iff.1 hAi).1
                  have hav := (List.getElem?_eq_some_iff.1 hAi).2
                  refine awp_region cx [] fun K hK => ?_
                  simp [push_cast, hi1, hAi, hav, hvy, Row.row]
                  repeat (refine And.intro (by clear hK; intros; first | omega | (simp_all; done) | (simp_all <;> omega)) ?_)
                  refine hK _ ?_; clear hK K; (repeat (first | refine awp_seq ?_ | refine awp_block ?_ | refine awp_scope ?_ | refine awp_skip ?_ | refine awp_exit ?_ | refine awp_ret ?_ | refine sq_n ?_ | refine sq_r ?_ | refine sq_x ?_ | refine bq_n ?_ | refine bq_r ?_ | refine bq_x ?_ | refine bq_y rfl ?_ | refine pq_n ?_ | refine pq_r ?_ | refine pq_x ?_))
                  refine awp_cond (b := false) (by simp [push_cast, hi1, hvy]) (fun hb => ?_) (fun hb => ?_) <;> ((repeat (first | refine awp_seq ?_ | refine awp_block ?_ | refine awp_scope ?_ | refine awp_skip ?_ | refine awp_exit ?_ | refine awp_ret ?_ | refine sq_n ?_ | refine sq_r ?_ | refine sq_x ?_ | refine bq_n ?_ | refine bq_r ?_ | refine bq_x ?_ | refine bq_y rfl ?_ | refine pq_n ?_ | refine pq_r ?_ | refine pq_x ?_)))
                  · simp at hb
                  · refine awp_weak (s' := ⟨136, [(0, .d (.int .i64 op)), (4, .ptr 0 0 0), (5, .ptr 1 0 0), (6, .ptr 2 0 0), (7, .ptr 3 0 0), (8, .d (.int .i64 i')), (9, .d (.int .i64 k)), (10, .d (.int .i64 y)), (11, P), (12, .nl)], [(0, some ⟨24, 1, [(regRow a).map .d]⟩), (1, some ⟨24, 1, [(regRow b).map .d]⟩), (2, some ⟨24, 1, [[.nl]]⟩), (3, some ⟨24, 1, [[.hs 4 0 Z.length]]⟩), (4, some ⟨58, 2, dr (Z.map Row.row)⟩)], 5⟩) ?_ key.h
                    refine weak_of [(0, some 0), (1, some 1), (2, some 2), (3, some 3), (4, some 4)] rfl (by simp [upT, up, upL, push_cast, hP, hi']) (by simp [upH, upR, upL, up, push_cast, hP, hi']) (by simp [namesOk, push_cast]) (by simp [olds])
                · have hi1 : i < a.length := (List.getElem?_eq_some_iff.1 hAi).1
                  have hav := (List.getElem?_eq_some_iff.1 hAi).2
                  refine awp_region cx [] fun K hK => ?_
                  simp [push_cast, hi1, hAi, hav, hvy, Row.row]
                  repeat (refine And.intro (by clear hK; intros; first | omega | (simp_all; done) | (simp_all <;> omega)) ?_)
                  refine hK _ ?_; clear hK K; (repeat (first | refine awp_seq ?_ | refine awp_block ?_ | refine awp_scope ?_ | refine awp_skip ?_ | refine awp_exit ?_ | refine awp_ret ?_ | refine sq_n ?_ | refine sq_r ?_ | refine sq_x ?_ | refine bq_n ?_ | refine bq_r ?_ | refine bq_x ?_ | refine bq_y rfl ?_ | refine pq_n ?_ | refine pq_r ?_ | refine pq_x ?_))
                  refine awp_cond (b := true) (by simp [push_cast, hi1, hvy]) (fun hb => ?_) (fun hb => ?_) <;> ((repeat (first | refine awp_seq ?_ | refine awp_block ?_ | refine awp_scope ?_ | refine awp_skip ?_ | refine awp_exit ?_ | refine awp_ret ?_ | refine sq_n ?_ | refine sq_r ?_ | refine sq_x ?_ | refine bq_n ?_ | refine bq_r ?_ | refine bq_x ?_ | refine bq_y rfl ?_ | refine pq_n ?_ | refine pq_r ?_ | refine pq_x ?_)))
                  · refine awp_region cx [] fun K hK => ?_
                    simp [push_cast, hi1, hAi, hav, Row.row]
                    repeat (refine And.intro (by clear hK; intros; first | omega | (simp_all; done) | (simp_all <;> omega)) ?_)
                    refine hK _ ?_; clear hK K; (repeat (first | refine awp_seq ?_ | refine awp_block ?_ | refine awp_scope ?_ | refine awp_skip ?_ | refine awp_exit ?_ | refine awp_ret ?_ | refine sq_n ?_ | refine sq_r ?_ | refine sq_x ?_ | refine bq_n ?_ | refine bq_r ?_ | refine bq_x ?_ | refine bq_y rfl ?_ | refine pq_n ?_ | refine pq_r ?_ | refine pq_x ?_))
                    refine awp_region cx [] fun K hK => ?_
                    simp [push_cast, e1]
                    repeat (refine And.intro (by clear hK; intros; first | omega | (simp_all; done) | (simp_all <;> omega)) ?_)
                    refine hK _ ?_; clear hK K; (repeat (first | refine awp_seq ?_ | refine awp_block ?_ | refine awp_scope ?_ | refine awp_skip ?_ | refine awp_exit ?_ | refine awp_ret ?_ | refine sq_n ?_ | refine sq_r ?_ | refine sq_x ?_ | refine bq_n ?_ | refine bq_r ?_ | refine bq_x ?_ | refine bq_y rfl ?_ | refine pq_n ?_ | refine pq_r ?_ | refine pq_x ?_))
                    refine awp_weak (s' := ⟨136, [(0, .d (.int .i64 op)), (4, .ptr 0 0 0), (5, .ptr 1 0 0), (6, .ptr 2 0 0), (7, .ptr 3 0 0), (8, .d (.int .i64 i')), (9, .d (.int .i64 k)), (10, .d (.int .i64 y)), (11, P), (12, .nl)], [(0, some ⟨24, 1, [(regRow a).map .d]⟩), (1, some ⟨24, 1, [(regRow b).map .d]⟩), (2, some ⟨24, 1, [[.nl]]⟩), (3, some ⟨24, 1, [[.hs 4 0 Z.length]]⟩), (4, some ⟨58, 2, dr (Z.map Row.row)⟩)], 5⟩) ?_ key.h
                    refine weak_of [(0, some 0), (1, some 1), (2, some 2), (3, some 3), (4, some 4)] rfl (by simp [upT, up, upL, push_cast, hP, hi']) (by simp [upH, upR, upL, up, push_cast, hP, hi']) (by simp [namesOk, push_cast]) (by simp [olds])
                  · simp at hb
              · (repeat (first | refine awp_seq ?_ | refine awp_block ?_ | refine awp_scope ?_ | refine awp_skip ?_ | refine awp_exit ?_ | refine awp_ret ?_ | refine sq_n ?_ | refine sq_r ?_ | refine sq_x ?_ | refine bq_n ?_ | refine bq_r ?_ | refine bq_x ?_ | refine bq_y rfl ?_ | refine pq_n ?_ | refine pq_r ?_ | refine pq_x ?_))
                apply cut_
                · intro key
                  rcases hQs with ⟨hBk, hQ, hk'⟩ | ⟨v, hBk, hvy, hQ, hk'⟩ | ⟨v, hBk, hvy, hQ, hk'⟩
                  · have hi2 : ¬ k < b.length := by have := List.getElem?_eq_none_iff.1 hBk; (try clear hPs); (try clear hQs); omega
                    refine awp_region cx [] fun K hK => ?_
                    simp [push_cast, hi2]
                    repeat (refine And.intro (by clear hK; intros; first | omega | (simp_all; done) | (simp_all <;> omega)) ?_)
                    refine hK _ ?_; clear hK K; (repeat (first | refine awp_seq ?_ | refine awp_block ?_ | refine awp_scope ?_ | refine awp_skip ?_ | refine awp_exit ?_ | refine awp_ret ?_ | refine sq_n ?_ | refine sq_r ?_ | refine sq_x ?_ | refine bq_n ?_ | refine bq_r ?_ | refine bq_x ?_ | refine bq_y rfl ?_ | refine pq_n ?_ | refine pq_r ?_ | refine pq_x ?_))
                    refine awp_cond (b := false) (by simp [push_cast, hi2]) (fun hb => ?_) (fun hb => ?_) <;> ((repeat (first | refine awp_seq ?_ | refine awp_block ?_ | refine awp_scope ?_ | refine awp_skip ?_ | refine awp_exit ?_ | refine awp_ret ?_ | refine sq_n ?_ | refine sq_r ?_ | refine sq_x ?_ | refine bq_n ?_ | refine bq_r ?_ | refine bq_x ?_ | refine bq_y rfl ?_ | refine pq_n ?_ | refine pq_r ?_ | refine pq_x ?_)))
                    · simp at hb
                    · refine awp_weak (s' := ⟨136, [(0, .d (.int .i64 op)), (4, .ptr 0 0 0), (5, .ptr 1 0 0), (6, .ptr 2 0 0), (7, .ptr 3 0 0), (8, .d (.int .i64 i')), (9, .d (.int .i64 k')), (10, .d (.int .i64 y)), (11, P), (12, Q)], [(0, some ⟨24, 1, [(regRow a).map .d]⟩), (1, some ⟨24, 1, [(regRow b).map .d]⟩), (2, some ⟨24, 1, [[.nl]]⟩), (3, some ⟨24, 1, [[.hs 4 0 Z.length]]⟩), (4, some ⟨58, 2, dr (Z.map Row.row)⟩)], 5⟩) ?_ key.h
                      rcases hPp with ⟨hP2, _⟩ | hP2
                      · refine weak_of [(0, some 0), (1, some 1), (2, some 2), (3, some 3), (4, some 4)] rfl (by simp [upT, up, upL, push_cast, hQ, hk', hP2]) (by simp [upH, upR, upL, up, push_cast, hQ, hk', hP2]) (by simp [namesOk, push_cast]) (by simp [olds])
                      · refine weak_of [(0, some 0), (1, some 1), (2, some 2), (3, some 3), (4, some 4)] rfl (by simp [upT, up, upL, push_cast, hQ, hk', hP2]) (by simp [upH, upR, upL, up, push_cast, hQ, hk', hP2]) (by simp [namesOk, push_cast]) (by simp [olds])
                  · have hi1 : k < b.length := (List.getElem?_eq_some_iff.1 hBk).1
                    have hav := (List.getElem?_eq_some_iff.1 hBk).2
                    refine awp_region cx [] fun K hK => ?_
                    simp [push_cast, hi1, hBk, hav, hvy, Row.row]
                    repeat (refine And.intro (by clear hK; intros; first | omega | (simp_all; done) | (simp_all <;> omega)) ?_)
                    refine hK _ ?_; clear hK K; (repeat (first | refine awp_seq ?_ | refine awp_block ?_ | refine awp_scope ?_ | refine awp_skip ?_ | refine awp_exit ?_ | refine awp_ret ?_ | refine sq_n ?_ | refine sq_r ?_ | refine sq_x ?_ | refine bq_n ?_ | refine bq_r ?_ | refine bq_x ?_ | refine bq_y rfl ?_ | refine pq_n ?_ | refine pq_r ?_ | refine pq_x ?_))
                    refine awp_cond (b := false) (by simp [push_cast, hi1, hvy]) (fun hb => ?_) (fun hb => ?_) <;> ((repeat (first | refine awp_seq ?_ | refine awp_block ?_ | refine awp_scope ?_ | refine awp_skip ?_ | refine awp_exit ?_ | refine awp_ret ?_ | refine sq_n ?_ | refine sq_r ?_ | refine sq_x ?_ | refine bq_n ?_ | refine bq_r ?_ | refine bq_x ?_ | refine bq_y rfl ?_ | refine pq_n ?_ | refine pq_r ?_ | refine pq_x ?_)))
                    · simp at hb
                    · refine awp_weak (s' := ⟨136, [(0, .d (.int .i64 op)), (4, .ptr 0 0 0), (5, .ptr 1 0 0), (6, .ptr 2 0 0), (7, .ptr 3 0 0), (8, .d (.int .i64 i')), (9, .d (.int .i64 k')), (10, .d (.int .i64 y)), (11, P), (12, Q)], [(0, some ⟨24, 1, [(regRow a).map .d]⟩), (1, some ⟨24, 1, [(regRow b).map .d]⟩), (2, some ⟨24, 1, [[.nl]]⟩), (3, some ⟨24, 1, [[.hs 4 0 Z.length]]⟩), (4, some ⟨58, 2, dr (Z.map Row.row)⟩)], 5⟩) ?_ key.h
                      rcases hPp with ⟨hP2, _⟩ | hP2
                      · refine weak_of [(0, some 0), (1, some 1), (2, some 2), (3, some 3), (4, some 4)] rfl (by simp [upT, up, upL, push_cast, hQ, hk', hP2]) (by simp [upH, upR, upL, up, push_cast, hQ, hk', hP2]) (by simp [namesOk, push_cast]) (by simp [olds])
                      · refine weak_of [(0, some 0), (1, some 1), (2, some 2), (3, some 3), (4, some 4)] rfl (by simp [upT, up, upL, push_cast, hQ, hk', hP2]) (by simp [upH, upR, upL, up, push_cast, hQ, hk', hP2]) (by simp [namesOk, push_cast]) (by simp [olds])
                  · have hi1 : k < b.length := (List.getElem?_eq_some_iff.1 hBk).1
                    have hav := (List.getElem?_eq_some_iff.1 hBk).2
                    refine awp_region cx [] fun K hK => ?_
                    simp [push_cast, hi1, hBk, hav, hvy, Row.row]
                    repeat (refine And.intro (by clear hK; intros; first | omega | (simp_all; done) | (simp_all <;> omega)) ?_)
                    refine hK _ ?_; clear hK K; (repeat (first | refine awp_seq ?_ | refine awp_block ?_ | refine awp_scope ?_ | refine awp_skip ?_ | refine awp_exit ?_ | refine awp_ret ?_ | refine sq_n ?_ | refine sq_r ?_ | refine sq_x ?_ | refine bq_n ?_ | refine bq_r ?_ | refine bq_x ?_ | refine bq_y rfl ?_ | refine pq_n ?_ | refine pq_r ?_ | refine pq_x ?_))
                    refine awp_cond (b := true) (by simp [push_cast, hi1, hvy]) (fun hb => ?_) (fun hb => ?_) <;> ((repeat (first | refine awp_seq ?_ | refine awp_block ?_ | refine awp_scope ?_ | refine awp_skip ?_ | refine awp_exit ?_ | refine awp_ret ?_ | refine sq_n ?_ | refine sq_r ?_ | refine sq_x ?_ | refine bq_n ?_ | refine bq_r ?_ | refine bq_x ?_ | refine bq_y rfl ?_ | refine pq_n ?_ | refine pq_r ?_ | refine pq_x ?_)))
                    · refine awp_region cx [] fun K hK => ?_
                      simp [push_cast, hi1, hBk, hav, Row.row]
                      repeat (refine And.intro (by clear hK; intros; first | omega | (simp_all; done) | (simp_all <;> omega)) ?_)
                      refine hK _ ?_; clear hK K; (repeat (first | refine awp_seq ?_ | refine awp_block ?_ | refine awp_scope ?_ | refine awp_skip ?_ | refine awp_exit ?_ | refine awp_ret ?_ | refine sq_n ?_ | refine sq_r ?_ | refine sq_x ?_ | refine bq_n ?_ | refine bq_r ?_ | refine bq_x ?_ | refine bq_y rfl ?_ | refine pq_n ?_ | refine pq_r ?_ | refine pq_x ?_))
                      refine awp_region cx [] fun K hK => ?_
                      simp [push_cast, e2]
                      repeat (refine And.intro (by clear hK; intros; first | omega | (simp_all; done) | (simp_all <;> omega)) ?_)
                      refine hK _ ?_; clear hK K; (repeat (first | refine awp_seq ?_ | refine awp_block ?_ | refine awp_scope ?_ | refine awp_skip ?_ | refine awp_exit ?_ | refine awp_ret ?_ | refine sq_n ?_ | refine sq_r ?_ | refine sq_x ?_ | refine bq_n ?_ | refine bq_r ?_ | refine bq_x ?_ | refine bq_y rfl ?_ | refine pq_n ?_ | refine pq_r ?_ | refine pq_x ?_))
                      refine awp_weak (s' := ⟨136, [(0, .d (.int .i64 op)), (4, .ptr 0 0 0), (5, .ptr 1 0 0), (6, .ptr 2 0 0), (7, .ptr 3 0 0), (8, .d (.int .i64 i')), (9, .d (.int .i64 k')), (10, .d (.int .i64 y)), (11, P), (12, Q)], [(0, some ⟨24, 1, [(regRow a).map .d]⟩), (1, some ⟨24, 1, [(regRow b).map .d]⟩), (2, some ⟨24, 1, [[.nl]]⟩), (3, some ⟨24, 1, [[.hs 4 0 Z.length]]⟩), (4, some ⟨58, 2, dr (Z.map Row.row)⟩)], 5⟩) ?_ key.h
                      rcases hPp with ⟨hP2, _⟩ | hP2
                      · refine weak_of [(0, some 0), (1, some 1), (2, some 2), (3, some 3), (4, some 4)] rfl (by simp [upT, up, upL, push_cast, hQ, hk', hP2]) (by simp [upH, upR, upL, up, push_cast, hQ, hk', hP2]) (by simp [namesOk, push_cast]) (by simp [olds])
                      · refine weak_of [(0, some 0), (1, some 1), (2, some 2), (3, some 3), (4, some 4)] rfl (by simp [upT, up, upL, push_cast, hQ, hk', hP2]) (by simp [upH, upR, upL, up, push_cast, hQ, hk', hP2]) (by simp [namesOk, push_cast]) (by simp [olds])
                    · simp at hb
                · (repeat (first | refine awp_seq ?_ | refine awp_block ?_ | refine awp_scope ?_ | refine awp_skip ?_ | refine awp_exit ?_ | refine awp_ret ?_ | refine sq_n ?_ | refine sq_r ?_ | refine sq_x ?_ | refine bq_n ?_ | refine bq_r ?_ | refine bq_x ?_ | refine bq_y rfl ?_ | refine pq_n ?_ | refine pq_r ?_ | refine pq_x ?_))
                  apply cut_
                  · intro key
                    rcases hPp with ⟨hP, hp⟩ | hP <;> rcases hQp with ⟨hQ, hq⟩ | hQ
                    · rw [hp, hq] at g1
                      simp only [encRuns, List.map_nil] at g1
                      refine awp_region cx [(3, .p (encRuns r))] fun K hK => ?_
                      simp [push_cast, g1, hP, hQ]
                      repeat (refine And.intro (by clear hK; intros; first | omega | (simp_all; done) | (simp_all <;> omega)) ?_)
                      refine hK _ ?_; clear hK K; (repeat (first | refine awp_seq ?_ | refine awp_block ?_ | refine awp_scope ?_ | refine awp_skip ?_ | refine awp_exit ?_ | refine awp_ret ?_ | refine sq_n ?_ | refine sq_r ?_ | refine sq_x ?_ | refine bq_n ?_ | refine bq_r ?_ | refine bq_x ?_ | refine bq_y rfl ?_ | refine pq_n ?_ | refine pq_r ?_ | refine pq_x ?_))
                      refine awp_weak (s' := ⟨136, [(0, .d (.int .i64 op)), (4, .ptr 0 0 0), (5, .ptr 1 0 0), (6, .ptr 2 0 0), (7, .ptr 3 0 0), (8, .d (.int .i64 i')), (9, .d (.int .i64 k')), (10, .d (.int .i64 y)), (13, .d (encRuns r))], [(0, some ⟨24, 1, [(regRow a).map .d]⟩), (1, some ⟨24, 1, [(regRow b).map .d]⟩), (2, some ⟨24, 1, [[.nl]]⟩), (3, some ⟨24, 1, [[.hs 4 0 Z.length]]⟩), (4, some ⟨58, 2, dr (Z.map Row.row)⟩)], 5⟩) ?_ key.h
                      refine weak_of [(0, some 0), (1, some 1), (2, some 2), (3, some 3), (4, some 4)] rfl (by simp [upT, up, upL, push_cast]) (by simp [upH, upR, upL, up, push_cast]) (by simp [namesOk, push_cast]) (by simp [olds])
                    · rw [hp] at g1
                      have he : encRuns [] = .sl [] := rfl
                      rw [he] at g1
                      refine awp_region cx [(3, .p (encRuns r))] fun K hK => ?_
                      simp [push_cast, g1, hP, hQ]
                      repeat (refine And.intro (by clear hK; intros; first | omega | (simp_all; done) | (simp_all <;> omega)) ?_)
                      refine hK _ ?_; clear hK K; (repeat (first | refine awp_seq ?_ | refine awp_block ?_ | refine awp_scope ?_ | refine awp_skip ?_ | refine awp_exit ?_ | refine awp_ret ?_ | refine sq_n ?_ | refine sq_r ?_ | refine sq_x ?_ | refine bq_n ?_ | refine bq_r ?_ | refine bq_x ?_ | refine bq_y rfl ?_ | refine pq_n ?_ | refine pq_r ?_ | refine pq_x ?_))
                      refine awp_weak (s' := ⟨136, [(0, .d (.int .i64 op)), (4, .ptr 0 0 0), (5, .ptr 1 0 0), (6, .ptr 2 0 0), (7, .ptr 3 0 0), (8, .d (.int .i64 i')), (9, .d (.int .i64 k')), (10, .d (.int .i64 y)), (13, .d (encRuns r))], [(0, some ⟨24, 1, [(regRow a).map .d]⟩), (1, some ⟨24, 1, [(regRow b).map .d]⟩), (2, some ⟨24, 1, [[.nl]]⟩), (3, some ⟨24, 1, [[.hs 4 0 Z.length]]⟩), (4, some ⟨58, 2, dr (Z.map Row.row)⟩)], 5⟩) ?_ key.h
                      refine weak_of [(0, some 0), (1, some 1), (2, some 2), (3, some 3), (4, some 4)] rfl (by simp [upT, up, upL, push_cast]) (by simp [upH, upR, upL, up, push_cast]) (by simp [namesOk, push_cast]) (by simp [olds])
                    · rw [hq] at g1
                      have he : encRuns [] = .sl [] := rfl
                      rw [he] at g1
                      refine awp_region cx [(3, .p (encRuns r))] fun K hK => ?_
                      simp [push_cast, g1, hP, hQ]
                      repeat (refine And.intro (by clear hK; intros; first | omega | (simp_all; done) | (simp_all <;> omega)) ?_)
                      refine hK _ ?_; clear hK K; (repeat (first | refine awp_seq ?_ | refine awp_block ?_ | refine awp_scope ?_ | refine awp_skip ?_ | refine awp_exit ?_ | refine awp_ret ?_ | refine sq_n ?_ | refine sq_r ?_ | refine sq_x ?_ | refine bq_n ?_ | refine bq_r ?_ | refine bq_x ?_ | refine bq_y rfl ?_ | refine pq_n ?_ | refine pq_r ?_ | refine pq_x ?_))
                      refine awp_weak (s' := ⟨136, [(0, .d (.int .i64 op)), (4, .ptr 0 0 0), (5, .ptr 1 0 0), (6, .ptr 2 0 0), (7, .ptr 3 0 0), (8, .d (.int .i64 i')), (9, .d (.int .i64 k')), (10, .d (.int .i64 y)), (13, .d (encRuns r))], [(0, some ⟨24, 1, [(regRow a).map .d]⟩), (1, some ⟨24, 1, [(regRow b).map .d]⟩), (2, some ⟨24, 1, [[.nl]]⟩), (3, some ⟨24, 1, [[.hs 4 0 Z.length]]⟩), (4, some ⟨58, 2, dr (Z.map Row.row)⟩)], 5⟩) ?_ key.h
                      refine weak_of [(0, some 0), (1, some 1), (2, some 2), (3, some 3), (4, some 4)] rfl (by simp [upT, up, upL, push_cast]) (by simp [upH, upR, upL, up, push_cast]) (by simp [namesOk, push_cast]) (by simp [olds])
                    · refine awp_region cx [(3, .p (encRuns r))] fun K hK => ?_
                      simp [push_cast, g1, hP, hQ]
                      repeat (refine And.intro (by clear hK; intros; first | omega | (simp_all; done) | (simp_all <;> omega)) ?_)
                      refine hK _ ?_; clear hK K; (repeat (first | refine awp_seq ?_ | refine awp_block ?_ | refine awp_scope ?_ | refine awp_skip ?_ | refine awp_exit ?_ | refine awp_ret ?_ | refine sq_n ?_ | refine sq_r ?_ | refine sq_x ?_ | refine bq_n ?_ | refine bq_r ?_ | refine bq_x ?_ | refine bq_y rfl ?_ | refine pq_n ?_ | refine pq_r ?_ | refine pq_x ?_))
                      refine awp_weak (s' := ⟨136, [(0, .d (.int .i64 op)), (4, .ptr 0 0 0), (5, .ptr 1 0 0), (6, .ptr 2 0 0), (7, .ptr 3 0 0), (8, .d (.int .i64 i')), (9, .d (.int .i64 k')), (10, .d (.int .i64 y)), (13, .d (encRuns r))], [(0, some ⟨24, 1, [(regRow a).map .d]⟩), (1, some ⟨24, 1, [(regRow b).map .d]⟩), (2, some ⟨24, 1, [[.nl]]⟩), (3, some ⟨24, 1, [[.hs 4 0 Z.length]]⟩), (4, some ⟨58, 2, dr (Z.map Row.row)⟩)], 5⟩) ?_ key.h
                      refine weak_of [(0, some 0), (1, some 1), (2, some 2), (3, some 3), (4, some 4)] rfl (by simp [upT, up, upL, push_cast]) (by simp [upH, upR, upL, up, push_cast]) (by simp [namesOk, push_cast]) (by simp [olds])
                  · (repeat (first | refine awp_seq ?_ | refine awp_block ?_ | refine awp_scope ?_ | refine awp_skip ?_ | refine awp_exit ?_ | refine awp_ret ?_ | refine sq_n ?_ | refine sq_r ?_ | refine sq_x ?_ | refine bq_n ?_ | refine bq_r ?_ | refine bq_x ?_ | refine bq_y rfl ?_ | refine pq_n ?_ | refine pq_r ?_ | refine pq_x ?_))
                    refine awp_region cx [] fun K hK => ?_
                    simp [push_cast]
                    repeat (refine And.intro (by clear hK; intros; first | omega | (simp_all; done) | (simp_all <;> omega)) ?_)
                    refine hK _ ?_; clear hK K; (repeat (first | refine awp_seq ?_ | refine awp_block ?_ | refine awp_scope ?_ | refine awp_skip ?_ | refine awp_exit ?_ | refine awp_ret ?_ | refine sq_n ?_ | refine sq_r ?_ | refine sq_x ?_ | refine bq_n ?_ | refine bq_r ?_ | refine bq_x ?_ | refine bq_y rfl ?_ | refine pq_n ?_ | refine pq_r ?_ | refine pq_x ?_))
                    refine awp_cond (b := decide (0 < (r.length : Int))) (by simp [push_cast]) (fun hb => ?_) (fun hb => ?_) <;> ((repeat (first | refine awp_seq ?_ | refine awp_block ?_ | refine awp_scope ?_ | refine awp_skip ?_ | refine awp_exit ?_ | refine awp_ret ?_ | refine sq_n ?_ | refine sq_r ?_ | refine sq_x ?_ | refine bq_n ?_ | refine bq_r ?_ | refine bq_x ?_ | refine bq_y rfl ?_ | refine pq_n ?_ | refine pq_r ?_ | refine pq_x ?_)))
                    · have hb : 0 < r.length := by simp at hb; omega
                      have hne : r ≠ [] := List.length_pos_iff.1 hb
                      rw [if_neg hne] at s3
                      refine awp_region cx [] fun K hK => ?_
                      simp [push_cast, hZ32]
                      repeat (refine And.intro (by clear hK; intros; first | omega | (simp_all; done) | (simp_all <;> omega)) ?_)
                      refine hK _ ?_; clear hK K; (repeat (first | refine awp_seq ?_ | refine awp_block ?_ | refine awp_scope ?_ | refine awp_skip ?_ | refine awp_exit ?_ | refine awp_ret ?_ | refine sq_n ?_ | refine sq_r ?_ | refine sq_x ?_ | refine bq_n ?_ | refine bq_r ?_ | refine bq_x ?_ | refine bq_y rfl ?_ | refine pq_n ?_ | refine pq_r ?_ | refine pq_x ?_))
                      refine ⟨(i', k', Z ++ [⟨y, r⟩]), s3, by (try clear hPs); (try clear hQs); simp only; omega, ?_⟩
                      refine weak_of [(0, some 0), (1, some 1), (2, some 2), (3, some 3), (4, some 14)] rfl (by simp [upT, up, upL, push_cast, Row.row]) (by simp [upH, upR, upL, up, push_cast, Row.row]) (by simp [namesOk, push_cast]) (by simp [olds])
                    · have hb : r = [] := by simpa using hb
                      rw [if_pos hb, List.append_nil] at s3
                      refine ⟨(i', k', Z), s3, by (try clear hPs); (try clear hQs); simp only; omega, ?_⟩
                      refine weak_of [(0, some 0), (1, some 1), (2, some 2), (3, some 3), (4, some 4)] rfl (by simp [upT, up, upL, push_cast, Row.row]) (by simp [upH, upR, upL, up, push_cast, Row.row]) (by simp [namesOk, push_cast]) (by simp [olds])
          · have hi : i = a.length := by omega
            have hk : k = b.length := by omega
            subst hi hk
            have hz := hend Z hat
            subst hz
            refine awp_region cx [] fun K hK => ?_
            simp [push_cast]
            repeat (refine And.intro (by clear hK; intros; first | omega | (simp_all; done) | (simp_all <;> omega)) ?_)
            refine hK _ ?_; clear hK K; (repeat (first | refine awp_seq ?_ | refine awp_block ?_ | refine awp_scope ?_ | refine awp_skip ?_ | refine awp_exit ?_ | refine awp_ret ?_ | refine sq_n ?_ | refine sq_r ?_ | refine sq_x ?_ | refine bq_n ?_ | refine bq_r ?_ | refine bq_x ?_ | refine bq_y rfl ?_ | refine pq_n ?_ | refine pq_r ?_ | refine pq_x ?_))
            refine awp_cond (b := false) (by simp [push_cast]) (fun hb => ?_) (fun hb => ?_) <;> ((repeat (first | refine awp_seq ?_ | refine awp_block ?_ | refine awp_scope ?_ | refine awp_skip ?_ | refine awp_exit ?_ | refine awp_ret ?_ | refine sq_n ?_ | refine sq_r ?_ | refine sq_x ?_ | refine bq_n ?_ | refine bq_r ?_ | refine bq_x ?_ | refine bq_y rfl ?_ | refine pq_n ?_ | refine pq_r ?_ | refine pq_x ?_)))
            · simp at hb
            · refine awp_freeze 4 (Z.map Row.row) rfl (by simp [push_cast, Row.row]) fun K hK => ?_
              simp [push_cast, St.fz, fzT, fzH, fzO, fz, fzL, fzR, fzR_dr, fzR_app, fzR_set, fzL_map, Row.row]
              refine hK _ ?_; clear hK K; (repeat (first | refine awp_seq ?_ | refine awp_block ?_ | refine awp_scope ?_ | refine awp_skip ?_ | refine awp_exit ?_ | refine awp_ret ?_ | refine sq_n ?_ | refine sq_r ?_ | refine sq_x ?_ | refine bq_n ?_ | refine bq_r ?_ | refine bq_x ?_ | refine bq_y rfl ?_ | refine pq_n ?_ | refine pq_r ?_ | refine pq_x ?_))
              refine awp_region cx [] fun K hK => ?_
              simp [push_cast]
              repeat (refine And.intro (by clear hK; intros; first | omega | (simp_all; done) | (simp_all <;> omega)) ?_)
              refine hK _ ?_; clear hK K; (repeat (first | refine awp_seq ?_ | refine awp_block ?_ | refine awp_scope ?_ | refine awp_skip ?_ | refine awp_exit ?_ | refine awp_ret ?_ | refine sq_n ?_ | refine sq_r ?_ | refine sq_x ?_ | refine bq_n ?_ | refine bq_r ?_ | refine bq_x ?_ | refine bq_y rfl ?_ | refine pq_n ?_ | refine pq_r ?_ | refine pq_x ?_))
              simp [push_cast]
end Go.Proofs.Ytmfkfgonedgjnaa
