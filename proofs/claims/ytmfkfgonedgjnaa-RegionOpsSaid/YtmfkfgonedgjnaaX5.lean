/-
  The walks of this seat's functions and the plain laws behind them: part X5.
-/
import Derived.Test.YtmfkfgonedgjnaaX4
import Derived.Test.YtmfkfgonedgjnaaR5
set_option linter.unusedVariables false
set_option linter.unusedSimpArgs false
set_option maxRecDepth 100000
namespace Go.Proofs.Ytmfkfgonedgjnaa
open Go.Abs

theorem take_flat_one' {α β : Type} {f : α → List β} (h : ∀ x, (f x).length ≤ 1) (l : List α) (k : Nat) : ((l.take k).flatMap f).length ≤ l.length := by
  have key : ∀ m : List α, (m.flatMap f).length ≤ m.length := by
    intro m
    induction m with
    | nil => simp
    | cons x m ih => have := h x; rw [List.flatMap_cons, List.length_append, List.length_cons]; omega
  have := key (l.take k)
  simp at this ⊢; omega
theorem swOut_len (now o : Bool) (out : List Run) (x : Int) : (swOut now o out x).length ≤ out.length + 1 := by
  unfold swOut
  split
  · simp
  · split
    · simp
      try omega
    · omega
theorem swF_len (f : Bool → Bool → Bool) (a b : List Run) : ∀ (n p q : Nat) (out : List Run) (o : Bool), (swF f a b n p q out o).length ≤ out.length + n
  | 0, _, _, out, _ => by simp [swF]
  | n + 1, p, q, out, o => by
    unfold swF
    split
    · omega
    · refine Nat.le_trans (swF_len f a b n _ _ _ _) ?_
      have := swOut_len (f (swP a (swX a b p q) p % 2 == 1) (swP b (swX a b p q) q % 2 == 1)) o out (swX a b p q)
      omega
theorem sweep_len (f : Bool → Bool → Bool) (a b : List Run) : (sweep f a b).length ≤ 2 * a.length + 2 * b.length := by
  unfold sweep
  split
  · simpa using swF_len f a b (2 * a.length + 2 * b.length) 0 0 [] false
  · simp
theorem rowOf_len {R : List Row} (hR : smallR R) (y : Int) : (rowOf R y).length ≤ 1000000 := by
  unfold rowOf
  split
  · rename_i w h; exact hR.2 w (List.mem_of_find?_eq_some h)
  · simp
theorem opRow_len (f : Bool → Bool → Bool) (a b : List Row) (y : Int) : (opRow f a b y).length ≤ 1 := by unfold opRow; split <;> simp
/-- The rows' numbers that the first k regions give. -/
def ysK (a b : List Row) (k : Nat) : List Int := if k = 0 then [] else if k = 1 then a.map Row.y else a.map Row.y ++ b.map Row.y

set_option maxHeartbeats 4000000 in
theorem combine_ok (f : Bool → Bool → Bool) (hf : f false false = false) (g : FuncId) (hg : ∀ x y : List Run, x.length ≤ 1000000 → y.length ≤ 1000000 → rvalid x = true → rvalid y = true → PC Try.prog g [encRuns x, encRuns y] (.p (encRuns (sweep f x y)))) (a b : List Row) (hA : smallR a) (hB : smallR b) :
    PC Try.prog 81 [.agg (regRow a), .agg (regRow b), .fn (.func g) []] (.p (.agg (regRow (opR f a b)))) := by
  have c1 := valid_ok a hA
  have c2 := valid_ok b hB
  have hal := hA.1
  have hbl := hB.1
  have hop : opR f a b = if validR a && validR b then opOn f a b (dedup (allY a b)) else [] := rfl
  cases ha : validR a with
  | false =>
    rw [ha] at c1
    have h0 : opR f a b = [] := by rw [hop, ha]; simp
    rw [h0]
    refine pc_of_awp cx (fn := Try.f81) (c := _) Try.func81 rfl rfl (Nat.le_of_ble_eq_true rfl) ?_
    rw [Try.ntmps81]; (repeat (first | refine awp_seq ?_ | refine awp_block ?_ | refine awp_scope ?_ | refine awp_skip ?_ | refine awp_exit ?_ | refine awp_ret ?_ | refine sq_n ?_ | refine sq_r ?_ | refine sq_x ?_ | refine bq_n ?_ | refine bq_r ?_ | refine bq_x ?_ | refine bq_y rfl ?_ | refine pq_n ?_ | refine pq_r ?_ | refine pq_x ?_))
    refine awp_region cx [] fun K hK => ?_
    simp [push_cast]
    repeat (refine And.intro (by clear hK; intros; first | omega | (simp_all; done) | (simp_all <;> omega)) ?_)
    refine hK _ ?_; clear hK K; (repeat (first | refine awp_seq ?_ | refine awp_block ?_ | refine awp_scope ?_ | refine awp_skip ?_ | refine awp_exit ?_ | refine awp_ret ?_ | refine sq_n ?_ | refine sq_r ?_ | refine sq_x ?_ | refine bq_n ?_ | refine bq_r ?_ | refine bq_x ?_ | refine bq_y rfl ?_ | refine pq_n ?_ | refine pq_r ?_ | refine pq_x ?_))
    refine awp_region cx [(1, .p (.bool false)), (5, .skip)] fun K hK => ?_
    simp [push_cast, c1]
    repeat (refine And.intro (by clear hK; intros; first | omega | (simp_all; done) | (simp_all <;> omega)) ?_)
    refine hK _ ?_; clear hK K; (repeat (first | refine awp_seq ?_ | refine awp_block ?_ | refine awp_scope ?_ | refine awp_skip ?_ | refine awp_exit ?_ | refine awp_ret ?_ | refine sq_n ?_ | refine sq_r ?_ | refine sq_x ?_ | refine bq_n ?_ | refine bq_r ?_ | refine bq_x ?_ | refine bq_y rfl ?_ | refine pq_n ?_ | refine pq_r ?_ | refine pq_x ?_))
    refine awp_cond (b := true) (by simp [push_cast]) (fun hb => ?_) (fun hb => ?_) <;> ((repeat (first | refine awp_seq ?_ | refine awp_block ?_ | refine awp_scope ?_ | refine awp_skip ?_ | refine awp_exit ?_ | refine awp_ret ?_ | refine sq_n ?_ | refine sq_r ?_ | refine sq_x ?_ | refine bq_n ?_ | refine bq_r ?_ | refine bq_x ?_ | refine bq_y rfl ?_ | refine pq_n ?_ | refine pq_r ?_ | refine pq_x ?_)))
    · refine awp_region cx [] fun K hK => ?_
      simp [push_cast]
      repeat (refine And.intro (by clear hK; intros; first | omega | (simp_all; done) | (simp_all <;> omega)) ?_)
      refine hK _ ?_; clear hK K; (repeat (first | refine awp_seq ?_ | refine awp_block ?_ | refine awp_scope ?_ | refine awp_skip ?_ | refine awp_exit ?_ | refine awp_ret ?_ | refine sq_n ?_ | refine sq_r ?_ | refine sq_x ?_ | refine bq_n ?_ | refine bq_r ?_ | refine bq_x ?_ | refine bq_y rfl ?_ | refine pq_n ?_ | refine pq_r ?_ | refine pq_x ?_))
      simp [push_cast]
    · simp at hb
  | true =>
    rw [ha] at c1
    cases hb0 : validR b with
    | false =>
      rw [hb0] at c2
      have h0 : opR f a b = [] := by rw [hop, ha, hb0]; simp
      rw [h0]
      refine pc_of_awp cx (fn := Try.f81) (c := _) Try.func81 rfl rfl (Nat.le_of_ble_eq_true rfl) ?_
      rw [Try.ntmps81]; (repeat (first | refine awp_seq ?_ | refine awp_block ?_ | refine awp_scope ?_ | refine awp_skip ?_ | refine awp_exit ?_ | refine awp_ret ?_ | refine sq_n ?_ | refine sq_r ?_ | refine sq_x ?_ | refine bq_n ?_ | refine bq_r ?_ | refine bq_x ?_ | refine bq_y rfl ?_ | refine pq_n ?_ | refine pq_r ?_ | refine pq_x ?_))
      refine awp_region cx [] fun K hK => ?_
      simp [push_cast]
      repeat (refine And.intro (by clear hK; intros; first | omega | (simp_all; done) | (simp_all <;> omega)) ?_)
      refine hK _ ?_; clear hK K; (repeat (first | refine awp_seq ?_ | refine awp_block ?_ | refine awp_scope ?_ | refine awp_skip ?_ | refine awp_exit ?_ | refine awp_ret ?_ | refine sq_n ?_ | refine sq_r ?_ | refine sq_x ?_ | refine bq_n ?_ | refine bq_r ?_ | refine bq_x ?_ | refine bq_y rfl ?_ | refine pq_n ?_ | refine pq_r ?_ | refine pq_x ?_))
      refine awp_region cx [(1, .p (.bool true)), (5, .p (.bool false))] fun K hK => ?_
      simp [push_cast, c1, c2]
      repeat (refine And.intro (by clear hK; intros; first | omega | (simp_all; done) | (simp_all <;> omega)) ?_)
      refine hK _ ?_; clear hK K; (repeat (first | refine awp_seq ?_ | refine awp_block ?_ | refine awp_scope ?_ | refine awp_skip ?_ | refine awp_exit ?_ | refine awp_ret ?_ | refine sq_n ?_ | refine sq_r ?_ | refine sq_x ?_ | refine bq_n ?_ | refine bq_r ?_ | refine bq_x ?_ | refine bq_y rfl ?_ | refine pq_n ?_ | refine pq_r ?_ | refine pq_x ?_))
      refine awp_cond (b := true) (by simp [push_cast]) (fun hb => ?_) (fun hb => ?_) <;> ((repeat (first | refine awp_seq ?_ | refine awp_block ?_ | refine awp_scope ?_ | refine awp_skip ?_ | refine awp_exit ?_ | refine awp_ret ?_ | refine sq_n ?_ | refine sq_r ?_ | refine sq_x ?_ | refine bq_n ?_ | refine bq_r ?_ | refine bq_x ?_ | refine bq_y rfl ?_ | refine pq_n ?_ | refine pq_r ?_ | refine pq_x ?_)))
      · refine awp_region cx [] fun K hK => ?_
        simp [push_cast]
        repeat (refine And.intro (by clear hK; intros; first | omega | (simp_all; done) | (simp_all <;> omega)) ?_)
        refine hK _ ?_; clear hK K; (repeat (first | refine awp_seq ?_ | refine awp_block ?_ | refine awp_scope ?_ | refine awp_skip ?_ | refine awp_exit ?_ | refine awp_ret ?_ | refine sq_n ?_ | refine sq_r ?_ | refine sq_x ?_ | refine bq_n ?_ | refine bq_r ?_ | refine bq_x ?_ | refine bq_y rfl ?_ | refine pq_n ?_ | refine pq_r ?_ | refine pq_x ?_))
        simp [push_cast]
      · simp at hb
    | true =>
      rw [hb0] at c2
      have hon := fun ys hp hys => @opR_on f hf a b ha hb0 ys hp hys
      clear hop
      generalize opR f a b = res at *
      refine pc_of_awp cx (fn := Try.f81) (c := _) Try.func81 rfl rfl (Nat.le_of_ble_eq_true rfl) ?_
      rw [Try.ntmps81]; (repeat (first | refine awp_seq ?_ | refine awp_block ?_ | refine awp_scope ?_ | refine awp_skip ?_ | refine awp_exit ?_ | refine awp_ret ?_ | refine sq_n ?_ | refine sq_r ?_ | refine sq_x ?_ | refine bq_n ?_ | refine bq_r ?_ | refine bq_x ?_ | refine bq_y rfl ?_ | refine pq_n ?_ | refine pq_r ?_ | refine pq_x ?_))
      refine awp_region cx [] fun K hK => ?_
      simp [push_cast]
      repeat (refine And.intro (by clear hK; intros; first | omega | (simp_all; done) | (simp_all <;> omega)) ?_)
      refine hK _ ?_; clear hK K; (repeat (first | refine awp_seq ?_ | refine awp_block ?_ | refine awp_scope ?_ | refine awp_skip ?_ | refine awp_exit ?_ | refine awp_ret ?_ | refine sq_n ?_ | refine sq_r ?_ | refine sq_x ?_ | refine bq_n ?_ | refine bq_r ?_ | refine bq_x ?_ | refine bq_y rfl ?_ | refine pq_n ?_ | refine pq_r ?_ | refine pq_x ?_))
      refine awp_region cx [(1, .p (.bool true)), (5, .p (.bool true))] fun K hK => ?_
      simp [push_cast, c1, c2]
      repeat (refine And.intro (by clear hK; intros; first | omega | (simp_all; done) | (simp_all <;> omega)) ?_)
      refine hK _ ?_; clear hK K; (repeat (first | refine awp_seq ?_ | refine awp_block ?_ | refine awp_scope ?_ | refine awp_skip ?_ | refine awp_exit ?_ | refine awp_ret ?_ | refine sq_n ?_ | refine sq_r ?_ | refine sq_x ?_ | refine bq_n ?_ | refine bq_r ?_ | refine bq_x ?_ | refine bq_y rfl ?_ | refine pq_n ?_ | refine pq_r ?_ | refine pq_x ?_))
      refine awp_cond (b := false) (by simp [push_cast]) (fun hb => ?_) (fun hb => ?_) <;> ((repeat (first | refine awp_seq ?_ | refine awp_block ?_ | refine awp_scope ?_ | refine awp_skip ?_ | refine awp_exit ?_ | refine awp_ret ?_ | refine sq_n ?_ | refine sq_r ?_ | refine sq_x ?_ | refine bq_n ?_ | refine bq_r ?_ | refine bq_x ?_ | refine bq_y rfl ?_ | refine pq_n ?_ | refine pq_r ?_ | refine pq_x ?_)))
      · simp at hb
      · refine awp_region cx [] fun K hK => ?_
        simp [push_cast]
        repeat (refine And.intro (by clear hK; intros; first | omega | (simp_all; done) | (simp_all <;> omega)) ?_)
        refine hK _ ?_; clear hK K; (repeat (first | refine awp_seq ?_ | refine awp_block ?_ | refine awp_scope ?_ | refine awp_skip ?_ | refine awp_exit ?_ | refine awp_ret ?_ | refine sq_n ?_ | refine sq_r ?_ | refine sq_x ?_ | refine bq_n ?_ | refine bq_r ?_ | refine bq_x ?_ | refine bq_y rfl ?_ | refine pq_n ?_ | refine pq_r ?_ | refine pq_x ?_))
        refine awp_region cx [] fun K hK => ?_
        simp [push_cast]
        repeat (refine And.intro (by clear hK; intros; first | omega | (simp_all; done) | (simp_all <;> omega)) ?_)
        refine hK _ ?_; clear hK K; (repeat (first | refine awp_seq ?_ | refine awp_block ?_ | refine awp_scope ?_ | refine awp_skip ?_ | refine awp_exit ?_ | refine awp_ret ?_ | refine sq_n ?_ | refine sq_r ?_ | refine sq_x ?_ | refine bq_n ?_ | refine bq_r ?_ | refine bq_x ?_ | refine bq_y rfl ?_ | refine pq_n ?_ | refine pq_r ?_ | refine pq_x ?_))
        refine awp_loop (β := Nat × List Int) (fun s => ⟨76, [(2, .d (.fn (.func g) [])), (3, .ptr 0 0 0), (4, .ptr 1 0 0), (6, .ptr 2 0 0), (7, .hs 3 0 s.2.length), (27, .d (.agg [encRows a, encRows b])), (28, .d (.int .i64 s.1))], [(0, some ⟨24, 1, [(regRow a).map .d]⟩), (1, some ⟨24, 1, [(regRow b).map .d]⟩), (2, some ⟨24, 1, [[.nl]]⟩), (3, some ⟨3, 1, dr (s.2.map iRow)⟩)], 4⟩) (fun s => s.1 ≤ 2 ∧ s.2 = ysK a b s.1) (fun s => 2 - s.1) (0, []) ?_ ⟨by simp only; omega, by simp [ysK]⟩ ?_
        · refine weak_of [(0, some 0), (1, some 1), (2, some 2), (3, none)] rfl (by simp [upT, up, upL, push_cast]) (by simp [upH, upR, upL, up, push_cast]) (by simp [namesOk, push_cast]) (by simp [olds])
        · rintro ⟨k, Y⟩ ⟨hk, hY⟩
          simp only at hk hY
          (repeat (first | refine awp_seq ?_ | refine awp_block ?_ | refine awp_scope ?_ | refine awp_skip ?_ | refine awp_exit ?_ | refine awp_ret ?_ | refine sq_n ?_ | refine sq_r ?_ | refine sq_x ?_ | refine bq_n ?_ | refine bq_r ?_ | refine bq_x ?_ | refine bq_y rfl ?_ | refine pq_n ?_ | refine pq_r ?_ | refine pq_x ?_))
          have hYl : Y.length ≤ 2000000 := by
            rw [hY]; unfold ysK; split <;> (try split) <;> simp <;> omega
          by_cases hk2 : k < 2
          · obtain ⟨R, hR⟩ : ∃ R, R = if k = 0 then a else b := ⟨_, rfl⟩
            have hRl : R.length ≤ 1000000 := by rw [hR]; split <;> omega
            have hnx : ysK a b (k + 1) = Y ++ R.map Row.y := by
              rw [hY, hR]
              rcases (by omega : k = 0 ∨ k = 1) with rfl | rfl <;> simp [ysK]
            have hYK : Y.length + R.length ≤ 2000000 := by
              have : (Y ++ R.map Row.y).length ≤ a.length + b.length := by
                rw [← hnx]; unfold ysK; split <;> (try split) <;> simp <;> omega
              simp at this; omega
            have e0 := wrap_i64 (n := (k : Int) + 1) (by omega) (by omega)
            have hk2' : (k : Int) < 2 := by omega
            clear hY
            apply cut_
            · intro key
              rcases (by omega : k = 0 ∨ k = 1) with hk0 | hk0
              · have hR : R = a := by rw [hR, hk0]; rfl
                refine awp_region cx [] fun K hK => ?_
                simp [push_cast, hk0]
                repeat (refine And.intro (by clear hK; intros; first | omega | (simp_all; done) | (simp_all <;> omega)) ?_)
                refine hK _ ?_; clear hK K; (repeat (first | refine awp_seq ?_ | refine awp_block ?_ | refine awp_scope ?_ | refine awp_skip ?_ | refine awp_exit ?_ | refine awp_ret ?_ | refine sq_n ?_ | refine sq_r ?_ | refine sq_x ?_ | refine bq_n ?_ | refine bq_r ?_ | refine bq_x ?_ | refine bq_y rfl ?_ | refine pq_n ?_ | refine pq_r ?_ | refine pq_x ?_))
                refine awp_cond (b := true) (by simp [push_cast, hk0]) (fun hb => ?_) (fun hb => ?_) <;> ((repeat (first | refine awp_seq ?_ | refine awp_block ?_ | refine awp_scope ?_ | refine awp_skip ?_ | refine awp_exit ?_ | refine awp_ret ?_ | refine sq_n ?_ | refine sq_r ?_ | refine sq_x ?_ | refine bq_n ?_ | refine bq_r ?_ | refine bq_x ?_ | refine bq_y rfl ?_ | refine pq_n ?_ | refine pq_r ?_ | refine pq_x ?_)))
                · refine awp_region cx [] fun K hK => ?_
                  simp [push_cast, hk0]
                  repeat (refine And.intro (by clear hK; intros; first | omega | (simp_all; done) | (simp_all <;> omega)) ?_)
                  refine hK _ ?_; clear hK K; (repeat (first | refine awp_seq ?_ | refine awp_block ?_ | refine awp_scope ?_ | refine awp_skip ?_ | refine awp_exit ?_ | refine awp_ret ?_ | refine sq_n ?_ | refine sq_r ?_ | refine sq_x ?_ | refine bq_n ?_ | refine bq_r ?_ | refine bq_x ?_ | refine bq_y rfl ?_ | refine pq_n ?_ | refine pq_r ?_ | refine pq_x ?_))
                  refine awp_weak (s' := ⟨76, [(2, .d (.fn (.func g) [])), (3, .ptr 0 0 0), (4, .ptr 1 0 0), (6, .ptr 2 0 0), (7, .hs 3 0 Y.length), (9, .ptr 4 0 0), (27, .d (.agg [encRows a, encRows b])), (28, .d (.int .i64 k))], [(0, some ⟨24, 1, [(regRow a).map .d]⟩), (1, some ⟨24, 1, [(regRow b).map .d]⟩), (2, some ⟨24, 1, [[.nl]]⟩), (3, some ⟨3, 1, dr (Y.map iRow)⟩), (4, some ⟨24, 1, [(regRow R).map .d]⟩)], 5⟩) ?_ key.h
                  refine weak_of [(0, some 0), (1, some 1), (2, some 2), (3, some 3), (4, some 6)] rfl (by simp [upT, up, upL, push_cast, hk0, hR]) (by simp [upH, upR, upL, up, push_cast, hk0, hR]) (by simp [namesOk, push_cast]) (by simp [olds])
                · simp at hb
              · have hR : R = b := by rw [hR, hk0]; rfl
                refine awp_region cx [] fun K hK => ?_
                simp [push_cast, hk0]
                repeat (refine And.intro (by clear hK; intros; first | omega | (simp_all; done) | (simp_all <;> omega)) ?_)
                refine hK _ ?_; clear hK K; (repeat (first | refine awp_seq ?_ | refine awp_block ?_ | refine awp_scope ?_ | refine awp_skip ?_ | refine awp_exit ?_ | refine awp_ret ?_ | refine sq_n ?_ | refine sq_r ?_ | refine sq_x ?_ | refine bq_n ?_ | refine bq_r ?_ | refine bq_x ?_ | refine bq_y rfl ?_ | refine pq_n ?_ | refine pq_r ?_ | refine pq_x ?_))
                refine awp_cond (b := true) (by simp [push_cast, hk0]) (fun hb => ?_) (fun hb => ?_) <;> ((repeat (first | refine awp_seq ?_ | refine awp_block ?_ | refine awp_scope ?_ | refine awp_skip ?_ | refine awp_exit ?_ | refine awp_ret ?_ | refine sq_n ?_ | refine sq_r ?_ | refine sq_x ?_ | refine bq_n ?_ | refine bq_r ?_ | refine bq_x ?_ | refine bq_y rfl ?_ | refine pq_n ?_ | refine pq_r ?_ | refine pq_x ?_)))
                · refine awp_region cx [] fun K hK => ?_
                  simp [push_cast, hk0]
                  repeat (refine And.intro (by clear hK; intros; first | omega | (simp_all; done) | (simp_all <;> omega)) ?_)
                  refine hK _ ?_; clear hK K; (repeat (first | refine awp_seq ?_ | refine awp_block ?_ | refine awp_scope ?_ | refine awp_skip ?_ | refine awp_exit ?_ | refine awp_ret ?_ | refine sq_n ?_ | refine sq_r ?_ | refine sq_x ?_ | refine bq_n ?_ | refine bq_r ?_ | refine bq_x ?_ | refine bq_y rfl ?_ | refine pq_n ?_ | refine pq_r ?_ | refine pq_x ?_))
                  refine awp_weak (s' := ⟨76, [(2, .d (.fn (.func g) [])), (3, .ptr 0 0 0), (4, .ptr 1 0 0), (6, .ptr 2 0 0), (7, .hs 3 0 Y.length), (9, .ptr 4 0 0), (27, .d (.agg [encRows a, encRows b])), (28, .d (.int .i64 k))], [(0, some ⟨24, 1, [(regRow a).map .d]⟩), (1, some ⟨24, 1, [(regRow b).map .d]⟩), (2, some ⟨24, 1, [[.nl]]⟩), (3, some ⟨3, 1, dr (Y.map iRow)⟩), (4, some ⟨24, 1, [(regRow R).map .d]⟩)], 5⟩) ?_ key.h
                  refine weak_of [(0, some 0), (1, some 1), (2, some 2), (3, some 3), (4, some 6)] rfl (by simp [upT, up, upL, push_cast, hk0, hR]) (by simp [upH, upR, upL, up, push_cast, hk0, hR]) (by simp [namesOk, push_cast]) (by simp [olds])
                · simp at hb
            · (repeat (first | refine awp_seq ?_ | refine awp_block ?_ | refine awp_scope ?_ | refine awp_skip ?_ | refine awp_exit ?_ | refine awp_ret ?_ | refine sq_n ?_ | refine sq_r ?_ | refine sq_x ?_ | refine bq_n ?_ | refine bq_r ?_ | refine bq_x ?_ | refine bq_y rfl ?_ | refine pq_n ?_ | refine pq_r ?_ | refine pq_x ?_))
              refine awp_region cx [] fun K hK => ?_
              simp [push_cast]
              repeat (refine And.intro (by clear hK; intros; first | omega | (simp_all; done) | (simp_all <;> omega)) ?_)
              refine hK _ ?_; clear hK K; (repeat (first | refine awp_seq ?_ | refine awp_block ?_ | refine awp_scope ?_ | refine awp_skip ?_ | refine awp_exit ?_ | refine awp_ret ?_ | refine sq_n ?_ | refine sq_r ?_ | refine sq_x ?_ | refine bq_n ?_ | refine bq_r ?_ | refine bq_x ?_ | refine bq_y rfl ?_ | refine pq_n ?_ | refine pq_r ?_ | refine pq_x ?_))
              refine awp_loop (β := Nat × List Int) (fun s => ⟨76, [(2, .d (.fn (.func g) [])), (3, .ptr 0 0 0), (4, .ptr 1 0 0), (6, .ptr 2 0 0), (7, .hs 3 0 s.2.length), (27, .d (.agg [encRows a, encRows b])), (28, .d (.int .i64 k)), (32, .d (encRows R)), (33, .d (.int .i64 R.length)), (34, .d (.int .i64 s.1))], [(0, some ⟨24, 1, [(regRow a).map .d]⟩), (1, some ⟨24, 1, [(regRow b).map .d]⟩), (2, some ⟨24, 1, [[.nl]]⟩), (3, some ⟨3, 1, dr (s.2.map iRow)⟩)], 4⟩) (fun s => s.1 ≤ R.length ∧ s.2 = Y ++ (R.take s.1).map Row.y) (fun s => R.length - s.1) (0, Y) ?_ ⟨Nat.zero_le _, by simp⟩ ?_
              · refine weak_of [(0, some 0), (1, some 1), (2, some 2), (3, some 3)] rfl (by simp [upT, up, upL, push_cast]) (by simp [upH, upR, upL, up, push_cast]) (by simp [namesOk, push_cast]) (by simp [olds])
              · rintro ⟨j, Z⟩ ⟨hj, hZ⟩
                simp only at hj hZ
                (repeat (first | refine awp_seq ?_ | refine awp_block ?_ | refine awp_scope ?_ | refine awp_skip ?_ | refine awp_exit ?_ | refine awp_ret ?_ | refine sq_n ?_ | refine sq_r ?_ | refine sq_x ?_ | refine bq_n ?_ | refine bq_r ?_ | refine bq_x ?_ | refine bq_y rfl ?_ | refine pq_n ?_ | refine pq_r ?_ | refine pq_x ?_))
                refine awp_region cx [] fun K hK => ?_
                simp [push_cast]
                repeat (refine And.intro (by clear hK; intros; first | omega | (simp_all; done) | (simp_all <;> omega)) ?_)
                refine hK _ ?_; clear hK K; (repeat (first | refine awp_seq ?_ | refine awp_block ?_ | refine awp_scope ?_ | refine awp_skip ?_ | refine awp_exit ?_ | refine awp_ret ?_ | refine sq_n ?_ | refine sq_r ?_ | refine sq_x ?_ | refine bq_n ?_ | refine bq_r ?_ | refine bq_x ?_ | refine bq_y rfl ?_ | refine pq_n ?_ | refine pq_r ?_ | refine pq_x ?_))
                refine awp_cond (b := decide ((j : Int) < R.length)) (by simp [push_cast]) (fun hb => ?_) (fun hb => ?_) <;> ((repeat (first | refine awp_seq ?_ | refine awp_block ?_ | refine awp_scope ?_ | refine awp_skip ?_ | refine awp_exit ?_ | refine awp_ret ?_ | refine sq_n ?_ | refine sq_r ?_ | refine sq_x ?_ | refine bq_n ?_ | refine bq_r ?_ | refine bq_x ?_ | refine bq_y rfl ?_ | refine pq_n ?_ | refine pq_r ?_ | refine pq_x ?_)))
                · have hjl : j < R.length := by simpa using hb
                  obtain ⟨w, hw⟩ := getq hjl
                  have e1 := wrap_i64 (n := (j : Int) + 1) (by omega) (by omega)
                  have hZl : Z.length ≤ 2000000 := by rw [hZ]; simp; omega
                  have hZ8 : (Z.length + 1) * 8 ≤ 140737488355328 := by omega
                  have hnz : Y ++ (R.take (j + 1)).map Row.y = Z ++ [w.y] := by rw [take_get hw, List.map_append, hZ]; simp
                  obtain ⟨wy, wr⟩ := w
                  simp only at hnz
                  refine awp_region cx [] fun K hK => ?_
                  simp [push_cast, hw, Row.row]
                  repeat (refine And.intro (by clear hK; intros; first | omega | (simp_all; done) | (simp_all <;> omega)) ?_)
                  refine hK _ ?_; clear hK K; (repeat (first | refine awp_seq ?_ | refine awp_block ?_ | refine awp_scope ?_ | refine awp_skip ?_ | refine awp_exit ?_ | refine awp_ret ?_ | refine sq_n ?_ | refine sq_r ?_ | refine sq_x ?_ | refine bq_n ?_ | refine bq_r ?_ | refine bq_x ?_ | refine bq_y rfl ?_ | refine pq_n ?_ | refine pq_r ?_ | refine pq_x ?_))
                  refine awp_region cx [] fun K hK => ?_
                  simp [push_cast, hZ8, Row.row]
                  repeat (refine And.intro (by clear hK; intros; first | omega | (simp_all; done) | (simp_all <;> omega)) ?_)
                  refine hK _ ?_; clear hK K; (repeat (first | refine awp_seq ?_ | refine awp_block ?_ | refine awp_scope ?_ | refine awp_skip ?_ | refine awp_exit ?_ | refine awp_ret ?_ | refine sq_n ?_ | refine sq_r ?_ | refine sq_x ?_ | refine bq_n ?_ | refine bq_r ?_ | refine bq_x ?_ | refine bq_y rfl ?_ | refine pq_n ?_ | refine pq_r ?_ | refine pq_x ?_))
                  refine awp_region cx [] fun K hK => ?_
                  simp [push_cast, e1]
                  repeat (refine And.intro (by clear hK; intros; first | omega | (simp_all; done) | (simp_all <;> omega)) ?_)
                  refine hK _ ?_; clear hK K; (repeat (first | refine awp_seq ?_ | refine awp_block ?_ | refine awp_scope ?_ | refine awp_skip ?_ | refine awp_exit ?_ | refine awp_ret ?_ | refine sq_n ?_ | refine sq_r ?_ | refine sq_x ?_ | refine bq_n ?_ | refine bq_r ?_ | refine bq_x ?_ | refine bq_y rfl ?_ | refine pq_n ?_ | refine pq_r ?_ | refine pq_x ?_))
                  refine ⟨(j + 1, Z ++ [wy]), ⟨hjl, hnz.symm⟩, by simp only; omega, ?_⟩
                  refine weak_of [(0, some 0), (1, some 1), (2, some 2), (3, some 13)] rfl (by simp [upT, up, upL, push_cast]) (by simp [upH, upR, upL, up, push_cast]) (by simp [namesOk, push_cast]) (by simp [olds])
                · have hjn : j = R.length := by simp at hb; omega
                  subst hjn
                  rw [List.take_length, ← hnx] at hZ
                  refine awp_region cx [] fun K hK => ?_
                  simp [push_cast, e0]
                  repeat (refine And.intro (by clear hK; intros; first | omega | (simp_all; done) | (simp_all <;> omega)) ?_)
                  refine hK _ ?_; clear hK K; (repeat (first | refine awp_seq ?_ | refine awp_block ?_ | refine awp_scope ?_ | refine awp_skip ?_ | refine awp_exit ?_ | refine awp_ret ?_ | refine sq_n ?_ | refine sq_r ?_ | refine sq_x ?_ | refine bq_n ?_ | refine bq_r ?_ | refine bq_x ?_ | refine bq_y rfl ?_ | refine pq_n ?_ | refine pq_r ?_ | refine pq_x ?_))
                  refine ⟨(k + 1, Z), ⟨by simp only; omega, hZ⟩, by simp only; omega, ?_⟩
                  refine weak_of [(0, some 0), (1, some 1), (2, some 2), (3, some 3)] rfl (by simp [upT, up, upL, push_cast]) (by simp [upH, upR, upL, up, push_cast]) (by simp [namesOk, push_cast]) (by simp [olds])
          · have hk2 : k = 2 := by omega
            subst hk2
            have hY : Y = a.map Row.y ++ b.map Row.y := by rw [hY]; simp [ysK]
            have d1 := sortInts_px Y (by omega)
            have hsrt : (Y.mergeSort fun x y => decide (x ≤ y)) = allY a b := by rw [hY]; rfl
            rw [hsrt] at d1
            have hsl : (allY a b).length = Y.length := by rw [← hsrt]; exact List.length_mergeSort Y
            have d2 := compactInts_px (allY a b) (by omega)
            obtain ⟨q1, q2⟩ := compact_sorted (allY_le a b)
            have hcl := Go.Lib.compact_length_le (allY a b)
            have hres := hon (Go.Lib.compact (allY a b)) q1 (fun w hw => by
              rw [q2, (allY_perm a b).mem_iff, List.mem_append]
              rcases hw with h | h
              · exact .inl (List.mem_map_of_mem h)
              · exact .inr (List.mem_map_of_mem h))
            clear hon q1 q2 hsrt hY
            generalize allY a b = S at *
            generalize hC : Go.Lib.compact S = C at *
            generalize hZs : List.replicate (S.length - C.length) (0 : Int) = Zs at *
            have htk : List.take C.length ((C ++ Zs).map iRow) = C.map iRow := by rw [List.map_append, List.take_left' (by simp)]
            have hCl : C.length ≤ 2000000 := by omega
            have hCle : C.length ≤ (C ++ Zs).length := by simp
            generalize hE : C ++ Zs = E at *
            refine awp_region cx [] fun K hK => ?_
            simp [push_cast]
            repeat (refine And.intro (by clear hK; intros; first | omega | (simp_all; done) | (simp_all <;> omega)) ?_)
            refine hK _ ?_; clear hK K; (repeat (first | refine awp_seq ?_ | refine awp_block ?_ | refine awp_scope ?_ | refine awp_skip ?_ | refine awp_exit ?_ | refine awp_ret ?_ | refine sq_n ?_ | refine sq_r ?_ | refine sq_x ?_ | refine bq_n ?_ | refine bq_r ?_ | refine bq_x ?_ | refine bq_y rfl ?_ | refine pq_n ?_ | refine pq_r ?_ | refine pq_x ?_))
            refine awp_cond (b := false) (by simp [push_cast]) (fun hb => ?_) (fun hb => ?_) <;> ((repeat (first | refine awp_seq ?_ | refine awp_block ?_ | refine awp_scope ?_ | refine awp_skip ?_ | refine awp_exit ?_ | refine awp_ret ?_ | refine sq_n ?_ | refine sq_r ?_ | refine sq_x ?_ | refine bq_n ?_ | refine bq_r ?_ | refine bq_x ?_ | refine bq_y rfl ?_ | refine pq_n ?_ | refine pq_r ?_ | refine pq_x ?_)))
            · simp at hb
            · refine awp_region cx [(1, .x ⟨[(0, 3)], [.hs 0 0 Y.length], [(0, ⟨3, 1, dr (Y.map iRow)⟩)], [(0, 0)], none, [(0, ⟨3, 1, dr (S.map iRow)⟩)], .tup []⟩)] fun K hK => ?_
              simp [push_cast, d1]
              repeat (refine And.intro (by clear hK; intros; first | omega | (simp_all; done) | (simp_all <;> omega)) ?_)
              refine hK _ ?_; clear hK K; (repeat (first | refine awp_seq ?_ | refine awp_block ?_ | refine awp_scope ?_ | refine awp_skip ?_ | refine awp_exit ?_ | refine awp_ret ?_ | refine sq_n ?_ | refine sq_r ?_ | refine sq_x ?_ | refine bq_n ?_ | refine bq_r ?_ | refine bq_x ?_ | refine bq_y rfl ?_ | refine pq_n ?_ | refine pq_r ?_ | refine pq_x ?_))
              rw [← hsl]
              refine awp_region cx [] fun K hK => ?_
              simp [push_cast]
              repeat (refine And.intro (by clear hK; intros; first | omega | (simp_all; done) | (simp_all <;> omega)) ?_)
              refine hK _ ?_; clear hK K; (repeat (first | refine awp_seq ?_ | refine awp_block ?_ | refine awp_scope ?_ | refine awp_skip ?_ | refine awp_exit ?_ | refine awp_ret ?_ | refine sq_n ?_ | refine sq_r ?_ | refine sq_x ?_ | refine bq_n ?_ | refine bq_r ?_ | refine bq_x ?_ | refine bq_y rfl ?_ | refine pq_n ?_ | refine pq_r ?_ | refine pq_x ?_))
              refine awp_region cx [(1, .x ⟨[(0, 3)], [.hs 0 0 S.length], [(0, ⟨3, 1, dr (S.map iRow)⟩)], [(0, 0)], none, [(0, ⟨3, 1, dr (E.map iRow)⟩)], .hs 0 0 C.length⟩)] fun K hK => ?_
              simp [push_cast, d2]
              repeat (refine And.intro (by clear hK; intros; first | omega | (simp_all; done) | (simp_all <;> omega)) ?_)
              refine hK _ ?_; clear hK K; (repeat (first | refine awp_seq ?_ | refine awp_block ?_ | refine awp_scope ?_ | refine awp_skip ?_ | refine awp_exit ?_ | refine awp_ret ?_ | refine sq_n ?_ | refine sq_r ?_ | refine sq_x ?_ | refine bq_n ?_ | refine bq_r ?_ | refine bq_x ?_ | refine bq_y rfl ?_ | refine pq_n ?_ | refine pq_r ?_ | refine pq_x ?_))
              refine awp_freeze 3 (E.map iRow) rfl (by simp [push_cast, htk]) fun K hK => ?_
              simp [push_cast, St.fz, fzT, fzH, fzO, fz, fzL, fzR, fzR_dr, fzR_app, fzR_set, fzL_map, htk]
              refine hK _ ?_; clear hK K; (repeat (first | refine awp_seq ?_ | refine awp_block ?_ | refine awp_scope ?_ | refine awp_skip ?_ | refine awp_exit ?_ | refine awp_ret ?_ | refine sq_n ?_ | refine sq_r ?_ | refine sq_x ?_ | refine bq_n ?_ | refine bq_r ?_ | refine bq_x ?_ | refine bq_y rfl ?_ | refine pq_n ?_ | refine pq_r ?_ | refine pq_x ?_))
              refine awp_loop (β := Nat × List Row) (fun s => ⟨76, [(2, .d (.fn (.func g) [])), (3, .ptr 0 0 0), (4, .ptr 1 0 0), (6, .ptr 2 0 0), (12, .ptr 3 0 0), (48, .d (.sl (C.map iRow))), (49, .d (.int .i64 C.length)), (50, .d (.int .i64 s.1))], [(0, some ⟨24, 1, [(regRow a).map .d]⟩), (1, some ⟨24, 1, [(regRow b).map .d]⟩), (2, some ⟨24, 1, [[.nl]]⟩), (3, some ⟨24, 1, [[.hs 4 0 s.2.length]]⟩), (4, some ⟨58, 2, dr (s.2.map Row.row)⟩)], 5⟩) (fun s => s.1 ≤ C.length ∧ s.2 = opOn f a b (C.take s.1)) (fun s => C.length - s.1) (0, []) ?_ ⟨Nat.zero_le _, by simp [opOn]⟩ ?_
              · refine weak_of [(0, some 0), (1, some 1), (2, some 2), (3, some 7), (4, none)] rfl (by simp [upT, up, upL, push_cast, hCle]) (by simp [upH, upR, upL, up, push_cast, hCle]) (by simp [namesOk, push_cast]) (by simp [olds])
              · rintro ⟨k, Z⟩ ⟨hk, hZ⟩
                simp only at hk hZ
                (repeat (first | refine awp_seq ?_ | refine awp_block ?_ | refine awp_scope ?_ | refine awp_skip ?_ | refine awp_exit ?_ | refine awp_ret ?_ | refine sq_n ?_ | refine sq_r ?_ | refine sq_x ?_ | refine bq_n ?_ | refine bq_r ?_ | refine bq_x ?_ | refine bq_y rfl ?_ | refine pq_n ?_ | refine pq_r ?_ | refine pq_x ?_))
                refine awp_region cx [] fun K hK => ?_
                simp [push_cast]
                repeat (refine And.intro (by clear hK; intros; first | omega | (simp_all; done) | (simp_all <;> omega)) ?_)
                refine hK _ ?_; clear hK K; (repeat (first | refine awp_seq ?_ | refine awp_block ?_ | refine awp_scope ?_ | refine awp_skip ?_ | refine awp_exit ?_ | refine awp_ret ?_ | refine sq_n ?_ | refine sq_r ?_ | refine sq_x ?_ | refine bq_n ?_ | refine bq_r ?_ | refine bq_x ?_ | refine bq_y rfl ?_ | refine pq_n ?_ | refine pq_r ?_ | refine pq_x ?_))
                refine awp_cond (b := decide ((k : Int) < C.length)) (by simp [push_cast]) (fun hb => ?_) (fun hb => ?_) <;> ((repeat (first | refine awp_seq ?_ | refine awp_block ?_ | refine awp_scope ?_ | refine awp_skip ?_ | refine awp_exit ?_ | refine awp_ret ?_ | refine sq_n ?_ | refine sq_r ?_ | refine sq_x ?_ | refine bq_n ?_ | refine bq_r ?_ | refine bq_x ?_ | refine bq_y rfl ?_ | refine pq_n ?_ | refine pq_r ?_ | refine pq_x ?_)))
                · have hlt : k < C.length := by simpa using hb
                  obtain ⟨y, hy⟩ := getq hlt
                  have e0 := wrap_i64 (n := (k : Int) + 1) (by omega) (by omega)
                  have hnx : opOn f a b (C.take (k + 1)) = Z ++ opRow f a b y := by rw [hZ]; unfold opOn; rw [flat_take _ hy]
                  have hZl : Z.length ≤ 2000000 := by
                    have : Z.length ≤ C.length := by rw [hZ]; exact take_flat_one' (opRow_len f a b) C k
                    omega
                  have hZ32 : (Z.length + 1) * 32 ≤ 140737488355328 := by omega
                  have g1 := row_ok a y hA ha
                  have g2 := row_ok b y hB hb0
                  have g3 := hg (rowOf a y) (rowOf b y) (rowOf_len hA y) (rowOf_len hB y) (rowOf_rv ha y) (rowOf_rv hb0 y)
                  have hl1 := rowOf_len hA y
                  have hl2 := rowOf_len hB y
                  have hsl2 := sweep_len f (rowOf a y) (rowOf b y)
                  have g4 := cloneR_ok (sweep f (rowOf a y) (rowOf b y)) (by omega)
                  have hor : opRow f a b y = if sweep f (rowOf a y) (rowOf b y) = [] then [] else [⟨y, sweep f (rowOf a y) (rowOf b y)⟩] := rfl
                  rw [hor] at hnx
                  clear hor hl1 hl2 hsl2
                  generalize sweep f (rowOf a y) (rowOf b y) = r at *
                  generalize rowOf a y = ra at *
                  generalize rowOf b y = rb at *
                  refine awp_region cx [] fun K hK => ?_
                  simp [push_cast, hy]
                  repeat (refine And.intro (by clear hK; intros; first | omega | (simp_all; done) | (simp_all <;> omega)) ?_)
                  refine hK _ ?_; clear hK K; (repeat (first | refine awp_seq ?_ | refine awp_block ?_ | refine awp_scope ?_ | refine awp_skip ?_ | refine awp_exit ?_ | refine awp_ret ?_ | refine sq_n ?_ | refine sq_r ?_ | refine sq_x ?_ | refine bq_n ?_ | refine bq_r ?_ | refine bq_x ?_ | refine bq_y rfl ?_ | refine pq_n ?_ | refine pq_r ?_ | refine pq_x ?_))
                  refine awp_region_draw cx mixed [(3, .p (encRuns ra)), (6, .p (encRuns rb)), (7, .p (encRuns r))] fun K hK => ?_
                  simp [push_cast, g1, g2, g3]
                  repeat (refine And.intro (by clear hK; intros; first | omega | (simp_all; done) | (simp_all <;> omega)) ?_)
                  refine hK _ _ (by kernel_rfl) ?_; clear hK K; (repeat (first | refine awp_seq ?_ | refine awp_block ?_ | refine awp_scope ?_ | refine awp_skip ?_ | refine awp_exit ?_ | refine awp_ret ?_ | refine sq_n ?_ | refine sq_r ?_ | refine sq_x ?_ | refine bq_n ?_ | refine bq_r ?_ | refine bq_x ?_ | refine bq_y rfl ?_ | refine pq_n ?_ | refine pq_r ?_ | refine pq_x ?_))
                  refine awp_region cx [] fun K hK => ?_
                  simp [push_cast]
                  repeat (refine And.intro (by clear hK; intros; first | omega | (simp_all; done) | (simp_all <;> omega)) ?_)
                  refine hK _ ?_; clear hK K; (repeat (first | refine awp_seq ?_ | refine awp_block ?_ | refine awp_scope ?_ | refine awp_skip ?_ | refine awp_exit ?_ | refine awp_ret ?_ | refine sq_n ?_ | refine sq_r ?_ | refine sq_x ?_ | refine bq_n ?_ | refine bq_r ?_ | refine bq_x ?_ | refine bq_y rfl ?_ | refine pq_n ?_ | refine pq_r ?_ | refine pq_x ?_))
                  refine awp_cond (b := decide (0 < (r.length : Int))) (by simp [push_cast]) (fun hb => ?_) (fun hb => ?_) <;> ((repeat (first | refine awp_seq ?_ | refine awp_block ?_ | refine awp_scope ?_ | refine awp_skip ?_ | refine awp_exit ?_ | refine awp_ret ?_ | refine sq_n ?_ | refine sq_r ?_ | refine sq_x ?_ | refine bq_n ?_ | refine bq_r ?_ | refine bq_x ?_ | refine bq_y rfl ?_ | refine pq_n ?_ | refine pq_r ?_ | refine pq_x ?_)))
                  · have hb : 0 < r.length := by simp at hb; omega
                    have hne : r ≠ [] := List.length_pos_iff.1 hb
                    rw [if_neg hne] at hnx
                    refine awp_region_draw cx mixed [(4, .f (encRuns r))] fun K hK => ?_
                    simp [push_cast, g4, hZ32]
                    repeat (refine And.intro (by clear hK; intros; first | omega | (simp_all; done) | (simp_all <;> omega)) ?_)
                    refine hK _ _ (by kernel_rfl) ?_; clear hK K; (repeat (first | refine awp_seq ?_ | refine awp_block ?_ | refine awp_scope ?_ | refine awp_skip ?_ | refine awp_exit ?_ | refine awp_ret ?_ | refine sq_n ?_ | refine sq_r ?_ | refine sq_x ?_ | refine bq_n ?_ | refine bq_r ?_ | refine bq_x ?_ | refine bq_y rfl ?_ | refine pq_n ?_ | refine pq_r ?_ | refine pq_x ?_))
                    refine awp_region cx [] fun K hK => ?_
                    simp [push_cast, e0]
                    repeat (refine And.intro (by clear hK; intros; first | omega | (simp_all; done) | (simp_all <;> omega)) ?_)
                    refine hK _ ?_; clear hK K; (repeat (first | refine awp_seq ?_ | refine awp_block ?_ | refine awp_scope ?_ | refine awp_skip ?_ | refine awp_exit ?_ | refine awp_ret ?_ | refine sq_n ?_ | refine sq_r ?_ | refine sq_x ?_ | refine bq_n ?_ | refine bq_r ?_ | refine bq_x ?_ | refine bq_y rfl ?_ | refine pq_n ?_ | refine pq_r ?_ | refine pq_x ?_))
                    refine ⟨(k + 1, Z ++ [⟨y, r⟩]), ⟨hlt, hnx.symm⟩, by simp only; omega, ?_⟩
                    refine weak_of [(0, some 0), (1, some 1), (2, some 2), (3, some 3), (4, some 28)] rfl (by simp [upT, up, upL, push_cast, Row.row]) (by simp [upH, upR, upL, up, push_cast, Row.row]) (by simp [namesOk, push_cast]) (by simp [olds])
                  · have hb : r = [] := by simpa using hb
                    rw [if_pos hb, List.append_nil] at hnx
                    refine awp_region cx [] fun K hK => ?_
                    simp [push_cast, e0]
                    repeat (refine And.intro (by clear hK; intros; first | omega | (simp_all; done) | (simp_all <;> omega)) ?_)
                    refine hK _ ?_; clear hK K; (repeat (first | refine awp_seq ?_ | refine awp_block ?_ | refine awp_scope ?_ | refine awp_skip ?_ | refine awp_exit ?_ | refine awp_ret ?_ | refine sq_n ?_ | refine sq_r ?_ | refine sq_x ?_ | refine bq_n ?_ | refine bq_r ?_ | refine bq_x ?_ | refine bq_y rfl ?_ | refine pq_n ?_ | refine pq_r ?_ | refine pq_x ?_))
                    refine ⟨(k + 1, Z), ⟨hlt, hnx.symm⟩, by simp only; omega, ?_⟩
                    refine weak_of [(0, some 0), (1, some 1), (2, some 2), (3, some 3), (4, some 4)] rfl (by simp [upT, up, upL, push_cast, Row.row]) (by simp [upH, upR, upL, up, push_cast, Row.row]) (by simp [namesOk, push_cast]) (by simp [olds])
                · have hge : k = C.length := by simp at hb; omega
                  subst hge
                  rw [List.take_length, hres] at hZ
                  subst hZ
                  refine awp_freeze 4 (Z.map Row.row) rfl (by simp [push_cast, Row.row]) fun K hK => ?_
                  simp [push_cast, St.fz, fzT, fzH, fzO, fz, fzL, fzR, fzR_dr, fzR_app, fzR_set, fzL_map, Row.row]
                  refine hK _ ?_; clear hK K; (repeat (first | refine awp_seq ?_ | refine awp_block ?_ | refine awp_scope ?_ | refine awp_skip ?_ | refine awp_exit ?_ | refine awp_ret ?_ | refine sq_n ?_ | refine sq_r ?_ | refine sq_x ?_ | refine bq_n ?_ | refine bq_r ?_ | refine bq_x ?_ | refine bq_y rfl ?_ | refine pq_n ?_ | refine pq_r ?_ | refine pq_x ?_))
                  refine awp_region cx [] fun K hK => ?_
                  simp [push_cast]
                  repeat (refine And.intro (by clear hK; intros; first | omega | (simp_all; done) | (simp_all <;> omega)) ?_)
                  refine hK _ ?_; clear hK K; (repeat (first | refine awp_seq ?_ | refine awp_block ?_ | refine awp_scope ?_ | refine awp_skip ?_ | refine awp_exit ?_ | refine awp_ret ?_ | refine sq_n ?_ | refine sq_r ?_ | refine sq_x ?_ | refine bq_n ?_ | refine bq_r ?_ | refine bq_x ?_ | refine bq_y rfl ?_ | refine pq_n ?_ | refine pq_r ?_ | refine pq_x ?_))
                  simp [push_cast]

theorem unionR_ok (a b : List Row) (hA : smallR a) (hB : smallR b) : PC Try.prog 40 [.agg (regRow a), .agg (regRow b)] (.p (.agg (regRow (opR fU a b)))) := by
  have c1 := combine_ok fU rfl 82 (fun x y h1 h2 h3 h4 => union_ok x y h1 h2 h3 h4) a b hA hB
  generalize opR fU a b = r at *
  refine pc_of_awp cx (fn := Try.f40) (c := _) Try.func40 rfl rfl (Nat.le_of_ble_eq_true rfl) ?_
  rw [Try.ntmps40]; (repeat (first | refine awp_seq ?_ | refine awp_block ?_ | refine awp_scope ?_ | refine awp_skip ?_ | refine awp_exit ?_ | refine awp_ret ?_ | refine sq_n ?_ | refine sq_r ?_ | refine sq_x ?_ | refine bq_n ?_ | refine bq_r ?_ | refine bq_x ?_ | refine bq_y rfl ?_ | refine pq_n ?_ | refine pq_r ?_ | refine pq_x ?_))
  refine awp_region cx [] fun K hK => ?_
  simp [push_cast]
  repeat (refine And.intro (by clear hK; intros; first | omega | (simp_all; done) | (simp_all <;> omega)) ?_)
  refine hK _ ?_; clear hK K; (repeat (first | refine awp_seq ?_ | refine awp_block ?_ | refine awp_scope ?_ | refine awp_skip ?_ | refine awp_exit ?_ | refine awp_ret ?_ | refine sq_n ?_ | refine sq_r ?_ | refine sq_x ?_ | refine bq_n ?_ | refine bq_r ?_ | refine bq_x ?_ | refine bq_y rfl ?_ | refine pq_n ?_ | refine pq_r ?_ | refine pq_x ?_))
  refine awp_region cx [(2, .p (.agg (regRow r)))] fun K hK => ?_
  simp [push_cast, c1]
  repeat (refine And.intro (by clear hK; intros; first | omega | (simp_all; done) | (simp_all <;> omega)) ?_)
  refine hK _ ?_; clear hK K; (repeat (first | refine awp_seq ?_ | refine awp_block ?_ | refine awp_scope ?_ | refine awp_skip ?_ | refine awp_exit ?_ | refine awp_ret ?_ | refine sq_n ?_ | refine sq_r ?_ | refine sq_x ?_ | refine bq_n ?_ | refine bq_r ?_ | refine bq_x ?_ | refine bq_y rfl ?_ | refine pq_n ?_ | refine pq_r ?_ | refine pq_x ?_))
  simp [push_cast]
theorem intersectR_ok (a b : List Row) (hA : smallR a) (hB : smallR b) : PC Try.prog 41 [.agg (regRow a), .agg (regRow b)] (.p (.agg (regRow (opR fI a b)))) := by
  have c1 := combine_ok fI rfl 83 (fun x y h1 h2 h3 h4 => intersect_ok x y h1 h2 h3 h4) a b hA hB
  generalize opR fI a b = r at *
  refine pc_of_awp cx (fn := Try.f41) (c := _) Try.func41 rfl rfl (Nat.le_of_ble_eq_true rfl) ?_
  rw [Try.ntmps41]; (repeat (first | refine awp_seq ?_ | refine awp_block ?_ | refine awp_scope ?_ | refine awp_skip ?_ | refine awp_exit ?_ | refine awp_ret ?_ | refine sq_n ?_ | refine sq_r ?_ | refine sq_x ?_ | refine bq_n ?_ | refine bq_r ?_ | refine bq_x ?_ | refine bq_y rfl ?_ | refine pq_n ?_ | refine pq_r ?_ | refine pq_x ?_))
  refine awp_region cx [] fun K hK => ?_
  simp [push_cast]
  repeat (refine And.intro (by clear hK; intros; first | omega | (simp_all; done) | (simp_all <;> omega)) ?_)
  refine hK _ ?_; clear hK K; (repeat (first | refine awp_seq ?_ | refine awp_block ?_ | refine awp_scope ?_ | refine awp_skip ?_ | refine awp_exit ?_ | refine awp_ret ?_ | refine sq_n ?_ | refine sq_r ?_ | refine sq_x ?_ | refine bq_n ?_ | refine bq_r ?_ | refine bq_x ?_ | refine bq_y rfl ?_ | refine pq_n ?_ | refine pq_r ?_ | refine pq_x ?_))
  refine awp_region cx [(2, .p (.agg (regRow r)))] fun K hK => ?_
  simp [push_cast, c1]
  repeat (refine And.intro (by clear hK; intros; first | omega | (simp_all; done) | (simp_all <;> omega)) ?_)
  refine hK _ ?_; clear hK K; (repeat (first | refine awp_seq ?_ | refine awp_block ?_ | refine awp_scope ?_ | refine awp_skip ?_ | refine awp_exit ?_ | refine awp_ret ?_ | refine sq_n ?_ | refine sq_r ?_ | refine sq_x ?_ | refine bq_n ?_ | refine bq_r ?_ | refine bq_x ?_ | refine bq_y rfl ?_ | refine pq_n ?_ | refine pq_r ?_ | refine pq_x ?_))
  simp [push_cast]
theorem subtractR_ok (a b : List Row) (hA : smallR a) (hB : smallR b) : PC Try.prog 42 [.agg (regRow a), .agg (regRow b)] (.p (.agg (regRow (opR fD a b)))) := by
  have c1 := combine_ok fD rfl 84 (fun x y h1 h2 h3 h4 => subtract_ok x y h1 h2 h3 h4) a b hA hB
  generalize opR fD a b = r at *
  refine pc_of_awp cx (fn := Try.f42) (c := _) Try.func42 rfl rfl (Nat.le_of_ble_eq_true rfl) ?_
  rw [Try.ntmps42]; (repeat (first | refine awp_seq ?_ | refine awp_block ?_ | refine awp_scope ?_ | refine awp_skip ?_ | refine awp_exit ?_ | refine awp_ret ?_ | refine sq_n ?_ | refine sq_r ?_ | refine sq_x ?_ | refine bq_n ?_ | refine bq_r ?_ | refine bq_x ?_ | refine bq_y rfl ?_ | refine pq_n ?_ | refine pq_r ?_ | refine pq_x ?_))
  refine awp_region cx [] fun K hK => ?_
  simp [push_cast]
  repeat (refine And.intro (by clear hK; intros; first | omega | (simp_all; done) | (simp_all <;> omega)) ?_)
  refine hK _ ?_; clear hK K; (repeat (first | refine awp_seq ?_ | refine awp_block ?_ | refine awp_scope ?_ | refine awp_skip ?_ | refine awp_exit ?_ | refine awp_ret ?_ | refine sq_n ?_ | refine sq_r ?_ | refine sq_x ?_ | refine bq_n ?_ | refine bq_r ?_ | refine bq_x ?_ | refine bq_y rfl ?_ | refine pq_n ?_ | refine pq_r ?_ | refine pq_x ?_))
  refine awp_region cx [(2, .p (.agg (regRow r)))] fun K hK => ?_
  simp [push_cast, c1]
  repeat (refine And.intro (by clear hK; intros; first | omega | (simp_all; done) | (simp_all <;> omega)) ?_)
  refine hK _ ?_; clear hK K; (repeat (first | refine awp_seq ?_ | refine awp_block ?_ | refine awp_scope ?_ | refine awp_skip ?_ | refine awp_exit ?_ | refine awp_ret ?_ | refine sq_n ?_ | refine sq_r ?_ | refine sq_x ?_ | refine bq_n ?_ | refine bq_r ?_ | refine bq_x ?_ | refine bq_y rfl ?_ | refine pq_n ?_ | refine pq_r ?_ | refine pq_x ?_))
  simp [push_cast]
end Go.Proofs.Ytmfkfgonedgjnaa
