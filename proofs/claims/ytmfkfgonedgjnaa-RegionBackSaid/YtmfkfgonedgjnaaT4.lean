/-
  The walks of this seat's functions and the plain laws behind them: part T4.
-/
import Derived.Test.YtmfkfgonedgjnaaT3
set_option linter.unusedVariables false
set_option linter.unusedSimpArgs false
namespace Go.Proofs.Ytmfkfgonedgjnaa
open Go.Abs

/-! The reference: the region of cells. -/
/-- What Of returns: a region, and an error's number. -/
def ofR (l : List Cell) : List Row := if l.all onG then build (sortY l) else []
def ofE (l : List Cell) : Int := if l.all onG then 0 else 8
abbrev ofD (l : List Cell) : D := .tup [.agg (regRow (ofR l)), .int .i64 (ofE l)]

theorem addC_small {R : List Row} {n : Nat} (c : Cell) (h1 : R.length ≤ n) (h2 : ∀ w ∈ R, w.runs.length ≤ n) : (addC R c).length ≤ n + 1 ∧ ∀ w ∈ addC R c, w.runs.length ≤ n + 1 := by
  refine ⟨Nat.le_trans (addC_len R c) (by omega), fun w hw => ?_⟩
  rcases List.eq_nil_or_concat R with rfl | ⟨P, v, rfl⟩
  · rw [addC_nil] at hw; simp at hw; subst hw; simp
  · rw [List.concat_eq_append] at *
    rw [addC_end] at hw
    split at hw
    · rcases List.mem_append.1 hw with hw | hw
      · have := h2 w (by simp [hw]); omega
      · simp at hw
        subst hw
        have hv := h2 v (by simp)
        simp only
        rcases List.eq_nil_or_concat v.runs with e | ⟨L, r, e⟩
        · rw [e, addRun_nil]; simp
        · rw [List.concat_eq_append] at e
          rw [e] at hv ⊢
          rw [addRun_end]
          split <;> simp at hv ⊢ <;> omega
    · rcases List.mem_append.1 hw with hw | hw
      · have := h2 w hw; omega
      · simp at hw; subst hw; simp
theorem build_small (l : List Cell) : (build l).length ≤ l.length ∧ ∀ w ∈ build l, w.runs.length ≤ l.length := by
  have : ∀ k, k ≤ l.length → (build (l.take k)).length ≤ k ∧ ∀ w ∈ build (l.take k), w.runs.length ≤ k := by
    intro k
    induction k with
    | zero => intro _; simp [build]
    | succ k ih =>
      intro hk
      obtain ⟨c, hc⟩ := getq (show k < l.length by omega)
      rw [build_take hc]
      have := ih (by omega)
      exact addC_small c this.1 this.2
  have := this l.length (Nat.le_refl _)
  rwa [List.take_length] at this

set_option maxHeartbeats 4000000 in
theorem rof_ok (l : List Cell) (hl : l.length ≤ 1000000) : PC Try.prog 21 [encCells l] (.p (ofD l)) := by
  have hD : ofD l = .tup [.agg (regRow (ofR l)), .int .i64 (ofE l)] := rfl
  rw [hD]
  refine pc_of_awp cx (fn := Try.f21) (c := _) Try.func21 rfl rfl (Nat.le_of_ble_eq_true rfl) ?_
  rw [Try.ntmps21]; (repeat (first | refine awp_seq ?_ | refine awp_block ?_ | refine awp_scope ?_ | refine awp_skip ?_ | refine awp_exit ?_ | refine awp_ret ?_ | refine sq_n ?_ | refine sq_r ?_ | refine sq_x ?_ | refine bq_n ?_ | refine bq_r ?_ | refine bq_x ?_ | refine bq_y rfl ?_ | refine pq_n ?_ | refine pq_r ?_ | refine pq_x ?_))
  refine awp_region cx [] fun K hK => ?_
  simp [push_cast]
  repeat (refine And.intro (by clear hK; intros; first | omega | (simp_all; done) | (simp_all <;> omega)) ?_)
  refine hK _ ?_; clear hK K; (repeat (first | refine awp_seq ?_ | refine awp_block ?_ | refine awp_scope ?_ | refine awp_skip ?_ | refine awp_exit ?_ | refine awp_ret ?_ | refine sq_n ?_ | refine sq_r ?_ | refine sq_x ?_ | refine bq_n ?_ | refine bq_r ?_ | refine bq_x ?_ | refine bq_y rfl ?_ | refine pq_n ?_ | refine pq_r ?_ | refine pq_x ?_))
  refine awp_region cx [] fun K hK => ?_
  simp [push_cast]
  repeat (refine And.intro (by clear hK; intros; first | omega | (simp_all; done) | (simp_all <;> omega)) ?_)
  refine hK _ ?_; clear hK K; (repeat (first | refine awp_seq ?_ | refine awp_block ?_ | refine awp_scope ?_ | refine awp_skip ?_ | refine awp_exit ?_ | refine awp_ret ?_ | refine sq_n ?_ | refine sq_r ?_ | refine sq_x ?_ | refine bq_n ?_ | refine bq_r ?_ | refine bq_x ?_ | refine bq_y rfl ?_ | refine pq_n ?_ | refine pq_r ?_ | refine pq_x ?_))
  refine awp_loop (β := Nat) (fun k => ⟨82, [(0, .d (encCells l)), (2, .ptr 0 0 0), (3, .d (.int .i64 0)), (4, .d (.int .i64 k))], [(0, some ⟨24, 1, [[.nl]]⟩)], 1⟩) (fun k => k ≤ l.length ∧ ∀ c ∈ l.take k, onG c = true) (fun k => l.length - k) 0 ?_ ⟨Nat.zero_le _, by simp⟩ ?_
  · refine weak_of [(0, some 0)] rfl (by simp [upT, up, upL, push_cast]) (by simp [upH, upR, upL, up, push_cast]) (by simp [namesOk, push_cast]) (by simp [olds])
  · rintro k ⟨hk, hon⟩
    (repeat (first | refine awp_seq ?_ | refine awp_block ?_ | refine awp_scope ?_ | refine awp_skip ?_ | refine awp_exit ?_ | refine awp_ret ?_ | refine sq_n ?_ | refine sq_r ?_ | refine sq_x ?_ | refine bq_n ?_ | refine bq_r ?_ | refine bq_x ?_ | refine bq_y rfl ?_ | refine pq_n ?_ | refine pq_r ?_ | refine pq_x ?_))
    refine awp_region cx [] fun K hK => ?_
    simp [push_cast]
    repeat (refine And.intro (by clear hK; intros; first | omega | (simp_all; done) | (simp_all <;> omega)) ?_)
    refine hK _ ?_; clear hK K; (repeat (first | refine awp_seq ?_ | refine awp_block ?_ | refine awp_scope ?_ | refine awp_skip ?_ | refine awp_exit ?_ | refine awp_ret ?_ | refine sq_n ?_ | refine sq_r ?_ | refine sq_x ?_ | refine bq_n ?_ | refine bq_r ?_ | refine bq_x ?_ | refine bq_y rfl ?_ | refine pq_n ?_ | refine pq_r ?_ | refine pq_x ?_))
    refine awp_cond (b := decide ((k : Int) < l.length)) (by simp [push_cast]) (fun hb => ?_) (fun hb => ?_) <;> ((repeat (first | refine awp_seq ?_ | refine awp_block ?_ | refine awp_scope ?_ | refine awp_skip ?_ | refine awp_exit ?_ | refine awp_ret ?_ | refine sq_n ?_ | refine sq_r ?_ | refine sq_x ?_ | refine bq_n ?_ | refine bq_r ?_ | refine bq_x ?_ | refine bq_y rfl ?_ | refine pq_n ?_ | refine pq_r ?_ | refine pq_x ?_)))
    · have hlt : k < l.length := by simpa using hb
      obtain ⟨c, hc⟩ := getq hlt
      have e0 := wrap_i64 (n := (k : Int) + 1) (by omega) (by omega)
      have c1 := inRange_ok c
      generalize hv : onG c = v at c1
      refine awp_region cx [(4, .p (.bool v))] fun K hK => ?_
      simp [push_cast, hc, c1]
      repeat (refine And.intro (by clear hK; intros; first | omega | (simp_all; done) | (simp_all <;> omega)) ?_)
      refine hK _ ?_; clear hK K; (repeat (first | refine awp_seq ?_ | refine awp_block ?_ | refine awp_scope ?_ | refine awp_skip ?_ | refine awp_exit ?_ | refine awp_ret ?_ | refine sq_n ?_ | refine sq_r ?_ | refine sq_x ?_ | refine bq_n ?_ | refine bq_r ?_ | refine bq_x ?_ | refine bq_y rfl ?_ | refine pq_n ?_ | refine pq_r ?_ | refine pq_x ?_))
      refine awp_cond (b := !v) (by simp [push_cast]) (fun hb => ?_) (fun hb => ?_) <;> ((repeat (first | refine awp_seq ?_ | refine awp_block ?_ | refine awp_scope ?_ | refine awp_skip ?_ | refine awp_exit ?_ | refine awp_ret ?_ | refine sq_n ?_ | refine sq_r ?_ | refine sq_x ?_ | refine bq_n ?_ | refine bq_r ?_ | refine bq_x ?_ | refine bq_y rfl ?_ | refine pq_n ?_ | refine pq_r ?_ | refine pq_x ?_)))
      · simp at hb
        rw [hb] at hv
        have hall : l.all onG = false := by
          rw [Bool.eq_false_iff]
          intro h
          have := List.all_eq_true.1 h c (List.mem_of_getElem? hc)
          rw [hv] at this; cases this
        have h1 : ofR l = [] := by simp [ofR, hall]
        have h2 : ofE l = 8 := by simp [ofE, hall]
        rw [h1, h2]
        refine awp_region cx [] fun K hK => ?_
        simp [push_cast]
        repeat (refine And.intro (by clear hK; intros; first | omega | (simp_all; done) | (simp_all <;> omega)) ?_)
        refine hK _ ?_; clear hK K; (repeat (first | refine awp_seq ?_ | refine awp_block ?_ | refine awp_scope ?_ | refine awp_skip ?_ | refine awp_exit ?_ | refine awp_ret ?_ | refine sq_n ?_ | refine sq_r ?_ | refine sq_x ?_ | refine bq_n ?_ | refine bq_r ?_ | refine bq_x ?_ | refine bq_y rfl ?_ | refine pq_n ?_ | refine pq_r ?_ | refine pq_x ?_))
        simp [push_cast]
      · simp at hb
        rw [hb] at hv
        refine awp_region cx [] fun K hK => ?_
        simp [push_cast, e0]
        repeat (refine And.intro (by clear hK; intros; first | omega | (simp_all; done) | (simp_all <;> omega)) ?_)
        refine hK _ ?_; clear hK K; (repeat (first | refine awp_seq ?_ | refine awp_block ?_ | refine awp_scope ?_ | refine awp_skip ?_ | refine awp_exit ?_ | refine awp_ret ?_ | refine sq_n ?_ | refine sq_r ?_ | refine sq_x ?_ | refine bq_n ?_ | refine bq_r ?_ | refine bq_x ?_ | refine bq_y rfl ?_ | refine pq_n ?_ | refine pq_r ?_ | refine pq_x ?_))
        refine ⟨k + 1, ⟨hlt, fun d hd => ?_⟩, by omega, ?_⟩
        · rw [take_get hc] at hd
          rcases List.mem_append.1 hd with hd | hd
          · exact hon d hd
          · simp at hd; subst hd; exact hv
        · refine weak_of [(0, some 0)] rfl (by simp [upT, up, upL, push_cast]) (by simp [upH, upR, upL, up, push_cast]) (by simp [namesOk, push_cast]) (by simp [olds])
    · have hge : k = l.length := by simp at hb; omega
      subst hge
      rw [List.take_length] at hon
      have hall : l.all onG = true := List.all_eq_true.2 hon
      have h1 : ofR l = build (sortY l) := by simp [ofR, hall]
      have h2 : ofE l = 0 := by simp [ofE, hall]
      have c1 := sorted_ok l hl
      have hslen : (sortY l).length = l.length := (sortY_perm l).length_eq
      have hson : ∀ c ∈ sortY l, onG c = true := fun c hc => hon c ((sortY_perm l).mem_iff.1 hc)
      rw [h1, h2]
      clear h1 h2 hb hall
      generalize sortY l = s at *
      refine awp_region cx [(1, .p (encCells s))] fun K hK => ?_
      simp [push_cast, c1]
      repeat (refine And.intro (by clear hK; intros; first | omega | (simp_all; done) | (simp_all <;> omega)) ?_)
      refine hK _ ?_; clear hK K; (repeat (first | refine awp_seq ?_ | refine awp_block ?_ | refine awp_scope ?_ | refine awp_skip ?_ | refine awp_exit ?_ | refine awp_ret ?_ | refine sq_n ?_ | refine sq_r ?_ | refine sq_x ?_ | refine bq_n ?_ | refine bq_r ?_ | refine bq_x ?_ | refine bq_y rfl ?_ | refine pq_n ?_ | refine pq_r ?_ | refine pq_x ?_))
      refine awp_region cx [] fun K hK => ?_
      simp [push_cast]
      repeat (refine And.intro (by clear hK; intros; first | omega | (simp_all; done) | (simp_all <;> omega)) ?_)
      refine hK _ ?_; clear hK K; (repeat (first | refine awp_seq ?_ | refine awp_block ?_ | refine awp_scope ?_ | refine awp_skip ?_ | refine awp_exit ?_ | refine awp_ret ?_ | refine sq_n ?_ | refine sq_r ?_ | refine sq_x ?_ | refine bq_n ?_ | refine bq_r ?_ | refine bq_x ?_ | refine bq_y rfl ?_ | refine pq_n ?_ | refine pq_r ?_ | refine pq_x ?_))
      refine awp_region cx [] fun K hK => ?_
      simp [push_cast]
      repeat (refine And.intro (by clear hK; intros; first | omega | (simp_all; done) | (simp_all <;> omega)) ?_)
      refine hK _ ?_; clear hK K; (repeat (first | refine awp_seq ?_ | refine awp_block ?_ | refine awp_scope ?_ | refine awp_skip ?_ | refine awp_exit ?_ | refine awp_ret ?_ | refine sq_n ?_ | refine sq_r ?_ | refine sq_x ?_ | refine bq_n ?_ | refine bq_r ?_ | refine bq_x ?_ | refine bq_y rfl ?_ | refine pq_n ?_ | refine pq_r ?_ | refine pq_x ?_))
      refine awp_loop (β := Nat × List Row) (fun b => ⟨82, [(0, .d (encCells s)), (2, .ptr 0 0 0), (5, .ptr 1 0 0), (6, .d (.int .i64 b.1))], [(0, some ⟨24, 1, [[.nl]]⟩), (1, some ⟨24, 1, [[.hs 2 0 b.2.length]]⟩), (2, some ⟨58, 2, dr (b.2.map Row.row)⟩)], 3⟩) (fun b => b.1 ≤ s.length ∧ b.2 = build (s.take b.1)) (fun b => s.length - b.1) (0, []) ?_ ⟨Nat.zero_le _, by simp [build]⟩ ?_
      · refine weak_of [(0, some 0), (1, some 8), (2, none)] rfl (by simp [upT, up, upL, push_cast]) (by simp [upH, upR, upL, up, push_cast]) (by simp [namesOk, push_cast]) (by simp [olds])
      · rintro ⟨k, X⟩ ⟨hk, hX⟩
        simp only at hk hX
        (repeat (first | refine awp_seq ?_ | refine awp_block ?_ | refine awp_scope ?_ | refine awp_skip ?_ | refine awp_exit ?_ | refine awp_ret ?_ | refine sq_n ?_ | refine sq_r ?_ | refine sq_x ?_ | refine bq_n ?_ | refine bq_r ?_ | refine bq_x ?_ | refine bq_y rfl ?_ | refine pq_n ?_ | refine pq_r ?_ | refine pq_x ?_))
        refine awp_region cx [] fun K hK => ?_
        simp [push_cast]
        repeat (refine And.intro (by clear hK; intros; first | omega | (simp_all; done) | (simp_all <;> omega)) ?_)
        refine hK _ ?_; clear hK K; (repeat (first | refine awp_seq ?_ | refine awp_block ?_ | refine awp_scope ?_ | refine awp_skip ?_ | refine awp_exit ?_ | refine awp_ret ?_ | refine sq_n ?_ | refine sq_r ?_ | refine sq_x ?_ | refine bq_n ?_ | refine bq_r ?_ | refine bq_x ?_ | refine bq_y rfl ?_ | refine pq_n ?_ | refine pq_r ?_ | refine pq_x ?_))
        refine awp_cond (b := decide ((k : Int) < s.length)) (by simp [push_cast]) (fun hb => ?_) (fun hb => ?_) <;> ((repeat (first | refine awp_seq ?_ | refine awp_block ?_ | refine awp_scope ?_ | refine awp_skip ?_ | refine awp_exit ?_ | refine awp_ret ?_ | refine sq_n ?_ | refine sq_r ?_ | refine sq_x ?_ | refine bq_n ?_ | refine bq_r ?_ | refine bq_x ?_ | refine bq_y rfl ?_ | refine pq_n ?_ | refine pq_r ?_ | refine pq_x ?_)))
        · have hlt : k < s.length := by simpa using hb
          obtain ⟨c, hc⟩ := getq hlt
          have e0 := wrap_i64 (n := (k : Int) + 1) (by omega) (by omega)
          have hcg := onG_bd (hson c (List.mem_of_getElem? hc))
          have hnx : build (s.take (k + 1)) = addC X c := by rw [build_take hc, hX]
          have hsm := build_small (s.take k)
          rw [← hX] at hsm
          have hXl : X.length ≤ 1000000 := by have := hsm.1; simp at this; omega
          have hXr : ∀ w ∈ X, w.runs.length ≤ 1000000 := fun w hw => by have := hsm.2 w hw; simp at this; omega
          have hX32 : (X.length + 1) * 32 ≤ 140737488355328 := by omega
          clear hX hsm
          obtain ⟨x, y⟩ := c
          simp only at hcg
          refine awp_region cx [] fun K hK => ?_
          simp [push_cast]
          repeat (refine And.intro (by clear hK; intros; first | omega | (simp_all; done) | (simp_all <;> omega)) ?_)
          refine hK _ ?_; clear hK K; (repeat (first | refine awp_seq ?_ | refine awp_block ?_ | refine awp_scope ?_ | refine awp_skip ?_ | refine awp_exit ?_ | refine awp_ret ?_ | refine sq_n ?_ | refine sq_r ?_ | refine sq_x ?_ | refine bq_n ?_ | refine bq_r ?_ | refine bq_x ?_ | refine bq_y rfl ?_ | refine pq_n ?_ | refine pq_r ?_ | refine pq_x ?_))
          rcases List.eq_nil_or_concat X with rfl | ⟨P, w, rfl⟩
          · rw [addC_nil] at hnx
            have c1 := with_ok [] x (by simp) (by omega)
            rw [addRun_nil] at c1
            simp only [encRuns, List.map_nil] at c1
            refine awp_region_draw cx mixed [] fun K hK => ?_
            simp [push_cast, hc]
            repeat (refine And.intro (by clear hK; intros; first | omega | (simp_all; done) | (simp_all <;> omega)) ?_)
            refine hK _ _ (by kernel_rfl) ?_; clear hK K; (repeat (first | refine awp_seq ?_ | refine awp_block ?_ | refine awp_scope ?_ | refine awp_skip ?_ | refine awp_exit ?_ | refine awp_ret ?_ | refine sq_n ?_ | refine sq_r ?_ | refine sq_x ?_ | refine bq_n ?_ | refine bq_r ?_ | refine bq_x ?_ | refine bq_y rfl ?_ | refine pq_n ?_ | refine pq_r ?_ | refine pq_x ?_))
            refine awp_cond (b := true) (by simp [push_cast]) (fun hb => ?_) (fun hb => ?_) <;> ((repeat (first | refine awp_seq ?_ | refine awp_block ?_ | refine awp_scope ?_ | refine awp_skip ?_ | refine awp_exit ?_ | refine awp_ret ?_ | refine sq_n ?_ | refine sq_r ?_ | refine sq_x ?_ | refine bq_n ?_ | refine bq_r ?_ | refine bq_x ?_ | refine bq_y rfl ?_ | refine pq_n ?_ | refine pq_r ?_ | refine pq_x ?_)))
            · refine awp_region_draw cx mixed [] fun K hK => ?_
              simp [push_cast, hc]
              repeat (refine And.intro (by clear hK; intros; first | omega | (simp_all; done) | (simp_all <;> omega)) ?_)
              refine hK _ _ (by kernel_rfl) ?_; clear hK K; (repeat (first | refine awp_seq ?_ | refine awp_block ?_ | refine awp_scope ?_ | refine awp_skip ?_ | refine awp_exit ?_ | refine awp_ret ?_ | refine sq_n ?_ | refine sq_r ?_ | refine sq_x ?_ | refine bq_n ?_ | refine bq_r ?_ | refine bq_x ?_ | refine bq_y rfl ?_ | refine pq_n ?_ | refine pq_r ?_ | refine pq_x ?_))
              refine awp_region cx [] fun K hK => ?_
              simp [push_cast]
              repeat (refine And.intro (by clear hK; intros; first | omega | (simp_all; done) | (simp_all <;> omega)) ?_)
              refine hK _ ?_; clear hK K; (repeat (first | refine awp_seq ?_ | refine awp_block ?_ | refine awp_scope ?_ | refine awp_skip ?_ | refine awp_exit ?_ | refine awp_ret ?_ | refine sq_n ?_ | refine sq_r ?_ | refine sq_x ?_ | refine bq_n ?_ | refine bq_r ?_ | refine bq_x ?_ | refine bq_y rfl ?_ | refine pq_n ?_ | refine pq_r ?_ | refine pq_x ?_))
              refine awp_region_draw cx mixed [(16, .p (encRuns [⟨x, x + 1⟩]))] fun K hK => ?_
              simp [push_cast, hc, c1]
              repeat (refine And.intro (by clear hK; intros; first | omega | (simp_all; done) | (simp_all <;> omega)) ?_)
              refine hK _ _ (by kernel_rfl) ?_; clear hK K; (repeat (first | refine awp_seq ?_ | refine awp_block ?_ | refine awp_scope ?_ | refine awp_skip ?_ | refine awp_exit ?_ | refine awp_ret ?_ | refine sq_n ?_ | refine sq_r ?_ | refine sq_x ?_ | refine bq_n ?_ | refine bq_r ?_ | refine bq_x ?_ | refine bq_y rfl ?_ | refine pq_n ?_ | refine pq_r ?_ | refine pq_x ?_))
              refine awp_region cx [] fun K hK => ?_
              simp [push_cast, e0]
              repeat (refine And.intro (by clear hK; intros; first | omega | (simp_all; done) | (simp_all <;> omega)) ?_)
              refine hK _ ?_; clear hK K; (repeat (first | refine awp_seq ?_ | refine awp_block ?_ | refine awp_scope ?_ | refine awp_skip ?_ | refine awp_exit ?_ | refine awp_ret ?_ | refine sq_n ?_ | refine sq_r ?_ | refine sq_x ?_ | refine bq_n ?_ | refine bq_r ?_ | refine bq_x ?_ | refine bq_y rfl ?_ | refine pq_n ?_ | refine pq_r ?_ | refine pq_x ?_))
              refine ⟨(k + 1, [⟨y, [⟨x, x + 1⟩]⟩]), ⟨hlt, hnx.symm⟩, by simp only; omega, ?_⟩
              refine weak_of [(0, some 0), (1, some 1), (2, some 37)] rfl (by simp [upT, up, upL, push_cast, Row.row]) (by simp [upH, upR, upL, up, push_cast, Row.row]) (by simp [namesOk, push_cast]) (by simp [olds])
            · simp at hb
          · rw [List.concat_eq_append] at *
            rw [addC_end] at hnx
            have hz : (P ++ [w])[P.length]? = some w := by simp
            have hlen : (P ++ [w]).length = P.length + 1 := by simp
            have hwr := hXr w (by simp)
            obtain ⟨wy, wr⟩ := w
            simp only at hnx hwr
            generalize hA : P ++ [⟨wy, wr⟩] = A at *
            have hA0 : ((A.length : Int) == 0) = false := by simp; rintro rfl; simp at hlen
            have e1 := wrap_i64 (n := (A.length : Int) - 1) (by omega) (by omega)
            have e2 : ((A.length : Int) - 1).toNat = P.length := by omega
            have e3 : (0 : Int) ≤ (A.length : Int) - 1 := by omega
            have e5 := wrap_i64 (n := (A.length : Int) + 1) (by omega) (by omega)
            have e6 := wrap_i64 (n := (A.length : Int)) (by omega) (by omega)
            refine awp_region_draw cx mixed [] fun K hK => ?_
            simp [push_cast, hc, hz, hA0, e1, e2, e3, Row.row]
            repeat (refine And.intro (by clear hK; intros; first | omega | (simp_all; done) | (simp_all <;> omega)) ?_)
            refine hK _ _ (by kernel_rfl) ?_; clear hK K; (repeat (first | refine awp_seq ?_ | refine awp_block ?_ | refine awp_scope ?_ | refine awp_skip ?_ | refine awp_exit ?_ | refine awp_ret ?_ | refine sq_n ?_ | refine sq_r ?_ | refine sq_x ?_ | refine bq_n ?_ | refine bq_r ?_ | refine bq_x ?_ | refine bq_y rfl ?_ | refine pq_n ?_ | refine pq_r ?_ | refine pq_x ?_))
            refine awp_cond (b := wy != y) (by simp [push_cast, hA0]) (fun hb => ?_) (fun hb => ?_) <;> ((repeat (first | refine awp_seq ?_ | refine awp_block ?_ | refine awp_scope ?_ | refine awp_skip ?_ | refine awp_exit ?_ | refine awp_ret ?_ | refine sq_n ?_ | refine sq_r ?_ | refine sq_x ?_ | refine bq_n ?_ | refine bq_r ?_ | refine bq_x ?_ | refine bq_y rfl ?_ | refine pq_n ?_ | refine pq_r ?_ | refine pq_x ?_)))
            · have hb : ¬ wy = y := by simpa using hb
              rw [if_neg hb] at hnx
              have c1 := with_ok [] x (by simp) (by omega)
              rw [addRun_nil] at c1
              simp only [encRuns, List.map_nil] at c1
              have hget : (dr (A.map Row.row) ++ [[AV.d (.int .i64 y), AV.nl]])[A.length]? = some [AV.d (.int .i64 y), AV.nl] := by
                rw [List.getElem?_append_right (by simp [dr])]; simp [dr]
              have hset : (dr (A.map Row.row) ++ [[AV.d (.int .i64 y), AV.nl]]).set A.length [AV.d (.int .i64 y), AV.d (encRuns [⟨x, x + 1⟩])] = dr ((A ++ [(⟨y, [⟨x, x + 1⟩]⟩ : Row)]).map Row.row) := by
                rw [List.set_append_right _ _ (by simp [dr])]; simp [dr, Row.row]
              refine awp_region_draw cx mixed [] fun K hK => ?_
              simp [push_cast, hc, hX32]
              repeat (refine And.intro (by clear hK; intros; first | omega | (simp_all; done) | (simp_all <;> omega)) ?_)
              refine hK _ _ (by kernel_rfl) ?_; clear hK K; (repeat (first | refine awp_seq ?_ | refine awp_block ?_ | refine awp_scope ?_ | refine awp_skip ?_ | refine awp_exit ?_ | refine awp_ret ?_ | refine sq_n ?_ | refine sq_r ?_ | refine sq_x ?_ | refine bq_n ?_ | refine bq_r ?_ | refine bq_x ?_ | refine bq_y rfl ?_ | refine pq_n ?_ | refine pq_r ?_ | refine pq_x ?_))
              refine awp_region cx [] fun K hK => ?_
              simp [push_cast, e5]
              repeat (refine And.intro (by clear hK; intros; first | omega | (simp_all; done) | (simp_all <;> omega)) ?_)
              refine hK _ ?_; clear hK K; (repeat (first | refine awp_seq ?_ | refine awp_block ?_ | refine awp_scope ?_ | refine awp_skip ?_ | refine awp_exit ?_ | refine awp_ret ?_ | refine sq_n ?_ | refine sq_r ?_ | refine sq_x ?_ | refine bq_n ?_ | refine bq_r ?_ | refine bq_x ?_ | refine bq_y rfl ?_ | refine pq_n ?_ | refine pq_r ?_ | refine pq_x ?_))
              refine awp_region_draw cx mixed [(16, .p (encRuns [⟨x, x + 1⟩]))] fun K hK => ?_
              simp [push_cast, hc, c1, e6, hget, hset]
              repeat (refine And.intro (by clear hK; intros; first | omega | (simp_all; done) | (simp_all <;> omega)) ?_)
              refine hK _ _ (by kernel_rfl) ?_; clear hK K; (repeat (first | refine awp_seq ?_ | refine awp_block ?_ | refine awp_scope ?_ | refine awp_skip ?_ | refine awp_exit ?_ | refine awp_ret ?_ | refine sq_n ?_ | refine sq_r ?_ | refine sq_x ?_ | refine bq_n ?_ | refine bq_r ?_ | refine bq_x ?_ | refine bq_y rfl ?_ | refine pq_n ?_ | refine pq_r ?_ | refine pq_x ?_))
              refine awp_region cx [] fun K hK => ?_
              simp [push_cast, e0]
              repeat (refine And.intro (by clear hK; intros; first | omega | (simp_all; done) | (simp_all <;> omega)) ?_)
              refine hK _ ?_; clear hK K; (repeat (first | refine awp_seq ?_ | refine awp_block ?_ | refine awp_scope ?_ | refine awp_skip ?_ | refine awp_exit ?_ | refine awp_ret ?_ | refine sq_n ?_ | refine sq_r ?_ | refine sq_x ?_ | refine bq_n ?_ | refine bq_r ?_ | refine bq_x ?_ | refine bq_y rfl ?_ | refine pq_n ?_ | refine pq_r ?_ | refine pq_x ?_))
              refine ⟨(k + 1, A ++ [⟨y, [⟨x, x + 1⟩]⟩]), ⟨hlt, hnx.symm⟩, by simp only; omega, ?_⟩
              refine weak_of [(0, some 0), (1, some 1), (2, some 37)] rfl (by simp [upT, up, upL, push_cast, Row.row]) (by simp [upH, upR, upL, up, push_cast, Row.row]) (by simp [namesOk, push_cast]) (by simp [olds])
            · have hb : wy = y := by simpa using hb
              rw [if_pos hb] at hnx
              have c1 := with_ok wr x hwr (by omega)
              have hset : (dr (A.map Row.row)).set P.length [AV.d (.int .i64 wy), AV.d (encRuns (addRun wr x))] = dr ((P ++ [(⟨wy, addRun wr x⟩ : Row)]).map Row.row) := by
                rw [← hA]; simp [dr, Row.row]
              generalize addRun wr x = nr at *
              refine awp_region_draw cx mixed [(16, .p (encRuns nr))] fun K hK => ?_
              simp [push_cast, hc, hz, c1, e1, e2, e3, hset, Row.row]
              repeat (refine And.intro (by clear hK; intros; first | omega | (simp_all; done) | (simp_all <;> omega)) ?_)
              refine hK _ _ (by kernel_rfl) ?_; clear hK K; (repeat (first | refine awp_seq ?_ | refine awp_block ?_ | refine awp_scope ?_ | refine awp_skip ?_ | refine awp_exit ?_ | refine awp_ret ?_ | refine sq_n ?_ | refine sq_r ?_ | refine sq_x ?_ | refine bq_n ?_ | refine bq_r ?_ | refine bq_x ?_ | refine bq_y rfl ?_ | refine pq_n ?_ | refine pq_r ?_ | refine pq_x ?_))
              refine awp_region cx [] fun K hK => ?_
              simp [push_cast, e0]
              repeat (refine And.intro (by clear hK; intros; first | omega | (simp_all; done) | (simp_all <;> omega)) ?_)
              refine hK _ ?_; clear hK K; (repeat (first | refine awp_seq ?_ | refine awp_block ?_ | refine awp_scope ?_ | refine awp_skip ?_ | refine awp_exit ?_ | refine awp_ret ?_ | refine sq_n ?_ | refine sq_r ?_ | refine sq_x ?_ | refine bq_n ?_ | refine bq_r ?_ | refine bq_x ?_ | refine bq_y rfl ?_ | refine pq_n ?_ | refine pq_r ?_ | refine pq_x ?_))
              have hlP : A.length = (P ++ [(⟨wy, nr⟩ : Row)]).length := by simp [hlen]
              rw [hlP]
              refine ⟨(k + 1, P ++ [(⟨wy, nr⟩ : Row)]), ⟨hlt, hnx.symm⟩, by simp only; omega, ?_⟩
              refine weak_of [(0, some 0), (1, some 1), (2, some 2)] rfl (by simp [upT, up, upL, push_cast, Row.row]) (by simp [upH, upR, upL, up, push_cast, Row.row]) (by simp [namesOk, push_cast]) (by simp [olds])
        · have hge : k = s.length := by simp at hb; omega
          subst hge
          rw [List.take_length] at hX
          rw [← hX]
          refine awp_freeze 2 (X.map Row.row) rfl (by simp [push_cast, Row.row]) fun K hK => ?_
          simp [push_cast, St.fz, fzT, fzH, fzO, fz, fzL, fzR, fzR_dr, fzR_app, fzR_set, fzL_map, Row.row]
          refine hK _ ?_; clear hK K; (repeat (first | refine awp_seq ?_ | refine awp_block ?_ | refine awp_scope ?_ | refine awp_skip ?_ | refine awp_exit ?_ | refine awp_ret ?_ | refine sq_n ?_ | refine sq_r ?_ | refine sq_x ?_ | refine bq_n ?_ | refine bq_r ?_ | refine bq_x ?_ | refine bq_y rfl ?_ | refine pq_n ?_ | refine pq_r ?_ | refine pq_x ?_))
          refine awp_region cx [] fun K hK => ?_
          simp [push_cast]
          repeat (refine And.intro (by clear hK; intros; first | omega | (simp_all; done) | (simp_all <;> omega)) ?_)
          refine hK _ ?_; clear hK K; (repeat (first | refine awp_seq ?_ | refine awp_block ?_ | refine awp_scope ?_ | refine awp_skip ?_ | refine awp_exit ?_ | refine awp_ret ?_ | refine sq_n ?_ | refine sq_r ?_ | refine sq_x ?_ | refine bq_n ?_ | refine bq_r ?_ | refine bq_x ?_ | refine bq_y rfl ?_ | refine pq_n ?_ | refine pq_r ?_ | refine pq_x ?_))
          simp [push_cast]
end Go.Proofs.Ytmfkfgonedgjnaa
