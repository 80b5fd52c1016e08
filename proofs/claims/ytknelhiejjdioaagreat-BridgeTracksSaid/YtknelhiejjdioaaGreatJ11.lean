/-
  Texts of this seat put together: Y4, X8, X7, Y5, D2, D3, D4.
-/
import Derived.Test.YtknelhiejjdioaaGreatJ10
import Derived.Test.YtknelhiejjdioaaGreatJ4
import Derived.Test.YtknelhiejjdioaaGreatJ5
import Derived.Test.YtknelhiejjdioaaGreatJ8
import Derived.Test.YtknelhiejjdioaaGreatJ7
set_option linter.unusedVariables false
set_option linter.unusedSimpArgs false
set_option maxRecDepth 100000
namespace Go.Proofs.YtknelhiejjdioaaGreat
open Go.Abs

theorem sideAV (R : List Row) (i : Nat) (y : Int) : ∃ P : AV, ((R[i]? = none ∧ P = .nl ∧ stepI R i y = i) ∨ (∃ v, R[i]? = some v ∧ ¬ v.y = y ∧ P = .nl ∧ stepI R i y = i) ∨ (∃ v, R[i]? = some v ∧ v.y = y ∧ P = .d (encRuns v.runs) ∧ stepI R i y = i + 1)) ∧ ((P = .nl ∧ runsAt R i y = []) ∨ P = .d (encRuns (runsAt R i y))) := by
  cases h : R[i]? with
  | none => exact ⟨.nl, .inl ⟨rfl, rfl, by simp [stepI, h]⟩, .inl ⟨rfl, by simp [runsAt, h]⟩⟩
  | some v =>
    by_cases e : v.y = y
    · exact ⟨.d (encRuns v.runs), .inr (.inr ⟨v, rfl, e, rfl, by simp [stepI, h, e]⟩), .inr (by simp [runsAt, h, e])⟩
    · exact ⟨.nl, .inr (.inl ⟨v, rfl, e, rfl, by simp [stepI, h, e]⟩), .inl ⟨rfl, by simp [runsAt, h, e]⟩⟩
theorem runsAt_len {R : List Row} (h : smallR R) (i : Nat) (y : Int) : (runsAt R i y).length ≤ 1000000 := by
  unfold runsAt
  split
  · rename_i v hv
    split
    · exact h.2 v (List.mem_of_getElem? hv)
    · simp
  · simp

set_option maxHeartbeats 4000000 in
theorem operated_big (op : Int) (f : Bool → Bool → Bool) (hf : f false false = false) (hkp : ∀ x y, PC Tryz.prog 113 [.int .i64 op, .bool x, .bool y] (.p (.bool (f x y)))) (a b : List Row) (hA : bigR a) (hB : bigR b) :
    PC Tryz.prog 44 [.int .i64 op, .agg (regRow a), .agg (regRow b)] (.p (.agg (regRow (opR f a b)))) := by
  have c1 := validR_big a hA
  have c2 := validR_big b hB
  have hop : opR f a b = if validR a && validR b then opOn f a b (dedup (allY a b)) else [] := rfl
  cases ha : validR a with
  | false =>
    rw [ha] at c1
    have h0 : opR f a b = [] := by rw [hop, ha]; simp
    rw [h0]
    refine pc_of_awp cx (fn := Tryz.f44) (c := _) Tryz.func44 rfl rfl (Nat.le_of_ble_eq_true rfl) ?_
    rw [Tryz.ntmps44]; refine Nav.imp ?_
    refine awp_region cx [] fun K hK => ?_
    simp [push_cast]
    repeat (refine And.intro (by clear hK; intros; first | omega | (simp_all; done) | (simp_all <;> omega)) ?_)
    refine hK _ ?_; clear hK K; refine Nav.imp ?_
    refine awp_region cx [] fun K hK => ?_
    simp [push_cast]
    repeat (refine And.intro (by clear hK; intros; first | omega | (simp_all; done) | (simp_all <;> omega)) ?_)
    refine hK _ ?_; clear hK K; refine Nav.imp ?_
    refine awp_region cx [(1, .p (.bool false)), (5, .skip)] fun K hK => ?_
    simp [push_cast, c1]
    repeat (refine And.intro (by clear hK; intros; first | omega | (simp_all; done) | (simp_all <;> omega)) ?_)
    refine hK _ ?_; clear hK K; refine Nav.imp ?_
    refine awp_cond (b := true) (by simp [push_cast]) (fun hb => ?_) (fun hb => ?_) <;> (refine Nav.imp ?_)
    · refine awp_region cx [] fun K hK => ?_
      simp [push_cast]
      repeat (refine And.intro (by clear hK; intros; first | omega | (simp_all; done) | (simp_all <;> omega)) ?_)
      refine hK _ ?_; clear hK K; refine Nav.imp ?_
      simp [push_cast]
    · simp at hb
  | true =>
    rw [ha] at c1
    cases hb0 : validR b with
    | false =>
      rw [hb0] at c2
      have h0 : opR f a b = [] := by rw [hop, ha, hb0]; simp
      rw [h0]
      refine pc_of_awp cx (fn := Tryz.f44) (c := _) Tryz.func44 rfl rfl (Nat.le_of_ble_eq_true rfl) ?_
      rw [Tryz.ntmps44]; refine Nav.imp ?_
      refine awp_region cx [] fun K hK => ?_
      simp [push_cast]
      repeat (refine And.intro (by clear hK; intros; first | omega | (simp_all; done) | (simp_all <;> omega)) ?_)
      refine hK _ ?_; clear hK K; refine Nav.imp ?_
      refine awp_region cx [] fun K hK => ?_
      simp [push_cast]
      repeat (refine And.intro (by clear hK; intros; first | omega | (simp_all; done) | (simp_all <;> omega)) ?_)
      refine hK _ ?_; clear hK K; refine Nav.imp ?_
      refine awp_region cx [(1, .p (.bool true)), (5, .p (.bool false))] fun K hK => ?_
      simp [push_cast, c1, c2]
      repeat (refine And.intro (by clear hK; intros; first | omega | (simp_all; done) | (simp_all <;> omega)) ?_)
      refine hK _ ?_; clear hK K; refine Nav.imp ?_
      refine awp_cond (b := true) (by simp [push_cast]) (fun hb => ?_) (fun hb => ?_) <;> (refine Nav.imp ?_)
      · refine awp_region cx [] fun K hK => ?_
        simp [push_cast]
        repeat (refine And.intro (by clear hK; intros; first | omega | (simp_all; done) | (simp_all <;> omega)) ?_)
        refine hK _ ?_; clear hK K; refine Nav.imp ?_
        simp [push_cast]
      · simp at hb
    | true =>
      replace hA := small_valid ha
      replace hB := small_valid hb0
      have hal := hA.1
      have hbl := hB.1
      rw [hb0] at c2
      have hend := fun out h => @opAt_end f hf a b ha hb0 out h
      have hstart := opAt_start f a b
      clear hop
      generalize opR f a b = res at *
      refine pc_of_awp cx (fn := Tryz.f44) (c := _) Tryz.func44 rfl rfl (Nat.le_of_ble_eq_true rfl) ?_
      rw [Tryz.ntmps44]; refine Nav.imp ?_
      refine awp_region cx [] fun K hK => ?_
      simp [push_cast]
      repeat (refine And.intro (by clear hK; intros; first | omega | (simp_all; done) | (simp_all <;> omega)) ?_)
      refine hK _ ?_; clear hK K; refine Nav.imp ?_
      refine awp_region cx [] fun K hK => ?_
      simp [push_cast]
      repeat (refine And.intro (by clear hK; intros; first | omega | (simp_all; done) | (simp_all <;> omega)) ?_)
      refine hK _ ?_; clear hK K; refine Nav.imp ?_
      refine awp_region cx [(1, .p (.bool true)), (5, .p (.bool true))] fun K hK => ?_
      simp [push_cast, c1, c2]
      repeat (refine And.intro (by clear hK; intros; first | omega | (simp_all; done) | (simp_all <;> omega)) ?_)
      refine hK _ ?_; clear hK K; refine Nav.imp ?_
      refine awp_cond (b := false) (by simp [push_cast]) (fun hb => ?_) (fun hb => ?_) <;> (refine Nav.imp ?_)
      · simp at hb
      · refine awp_region cx [] fun K hK => ?_
        simp [push_cast]
        repeat (refine And.intro (by clear hK; intros; first | omega | (simp_all; done) | (simp_all <;> omega)) ?_)
        refine hK _ ?_; clear hK K; refine Nav.imp ?_
        refine awp_loop (β := Nat × Nat × List Row) (fun s => ⟨136, [(0, .d (.int .i64 op)), (4, .ptr 0 0 0), (5, .ptr 1 0 0), (6, .ptr 2 0 0), (7, .ptr 3 0 0), (8, .d (.int .i64 s.1)), (9, .d (.int .i64 s.2.1))], [(0, some ⟨24, 1, [(regRow a).map .d]⟩), (1, some ⟨24, 1, [(regRow b).map .d]⟩), (2, some ⟨24, 1, [[.nl]]⟩), (3, some ⟨24, 1, [[.hs 4 0 s.2.2.length]]⟩), (4, some ⟨40, 2, dr (s.2.2.map Row.row)⟩)], 5⟩) (fun s => OpAt f a b s.1 s.2.1 s.2.2) (fun s => a.length + b.length - (s.1 + s.2.1)) (0, 0, []) ?_ hstart ?_
        · refine weak_of [(0, some 0), (1, some 1), (2, some 2), (3, some 3), (4, none)] rfl (by simp [upT, up, upL, push_cast]) (by simp [upH, upR, upL, up, push_cast]) (by simp [namesOk, push_cast]) (by simp [olds])
        · rintro ⟨i, k, Z⟩ hat
          simp only at hat
          refine Nav.imp ?_
          have hile := hat.1
          have hkle := hat.2.1
          have hZl : Z.length ≤ 2000000 := by have := opAt_len hat; omega
          have hZ32 : (Z.length + 1) * 32 ≤ 140737488355328 := by omega
          have e1 := wrap_i64 (n := (i : Int) + 1) (by omega) (by omega)
          have e2 := wrap_i64 (n := (k : Int) + 1) (by omega) (by omega)
          by_cases hn : i < a.length ∨ k < b.length
          · obtain ⟨s1, s2, s3, s4⟩ := opAt_step ha hb0 hat hn
            obtain ⟨y, hy⟩ : ∃ y, nextY a b i k = y := ⟨_, rfl⟩
            rw [hy] at s1 s2 s3 s4
            obtain ⟨P, hPs, hPp⟩ := sideAV a i y
            obtain ⟨Q, hQs, hQp⟩ := sideAV b k y
            have hlp := runsAt_len hA i y
            have hlq := runsAt_len hB k y
            have hvp := rowOf_rv ha y
            have hvq := rowOf_rv hb0 y
            have hor : opRow f a b y = if sweep f (rowOf a y) (rowOf b y) = [] then [] else [⟨y, sweep f (rowOf a y) (rowOf b y)⟩] := rfl
            rw [s1] at hvp hor
            rw [s2] at hvq hor
            rw [hor] at s3
            clear hor s1 s2
            generalize stepI a i y = i' at *
            generalize stepI b k y = k' at *
            generalize runsAt a i y = p at *
            generalize runsAt b k y = q at *
            have g1 := combined_ok op f hf hkp p q hlp hlq hvp hvq
            generalize sweep f p q = r at *
            apply cut_
            · intro key
              cases hAi : a[i]? with
              | some v =>
                have hi1 : i < a.length := (List.getElem?_eq_some_iff.1 hAi).1
                have hav := (List.getElem?_eq_some_iff.1 hAi).2
                refine awp_region cx [] fun K hK => ?_
                simp [push_cast, hi1]
                repeat (refine And.intro (by clear hK; intros; first | omega | (simp_all; done) | (simp_all <;> omega)) ?_)
                refine hK _ ?_; clear hK K; refine Nav.imp ?_
                refine awp_cond (b := true) (by simp [push_cast, hi1]) (fun hb => ?_) (fun hb => ?_) <;> (refine Nav.imp ?_)
                · refine awp_region cx [] fun K hK => ?_
                  simp [push_cast]
                  repeat (refine And.intro (by clear hK; intros; first | omega | (simp_all; done) | (simp_all <;> omega)) ?_)
                  refine hK _ ?_; clear hK K; refine Nav.imp ?_
                  refine awp_region cx [] fun K hK => ?_
                  simp [push_cast]
                  repeat (refine And.intro (by clear hK; intros; first | omega | (simp_all; done) | (simp_all <;> omega)) ?_)
                  refine hK _ ?_; clear hK K; refine Nav.imp ?_
                  cases hBk : b[k]? with
                  | some w =>
                    have hk1 : k < b.length := (List.getElem?_eq_some_iff.1 hBk).1
                    have hbw := (List.getElem?_eq_some_iff.1 hBk).2
                    have hk2 : ¬ k = b.length := by (try clear hPs); (try clear hQs); omega
                    have hk3 : ((k : Int) == (b.length : Int)) = false := by (try clear hPs); (try clear hQs); simp; omega
                    refine awp_region_draw cx mixed [] fun K hK => ?_
                    simp [push_cast, hi1, hk1, hk2, hk3, hAi, hBk, hav, hbw, Row.row]
                    repeat (refine And.intro (by clear hK; intros; first | omega | (simp_all; done) | (simp_all <;> omega)) ?_)
                    refine hK _ _ (by kernel_rfl) ?_; clear hK K; refine Nav.imp ?_
                    refine awp_cond (b := decide (v.y ≤ w.y)) (by simp [push_cast, hi1, hk1, hk2, hk3]) (fun hb => ?_) (fun hb => ?_) <;> (refine Nav.imp ?_)
                    · have hvw : v.y ≤ w.y := by simpa using hb
                      have hyv : v.y = y := by rw [← hy]; simp [nextY, hAi, hBk, hvw]
                      refine awp_region cx [] fun K hK => ?_
                      simp [push_cast, hi1, hAi, hav, Row.row]
                      repeat (refine And.intro (by clear hK; intros; first | omega | (simp_all; done) | (simp_all <;> omega)) ?_)
                      refine hK _ ?_; clear hK K; refine Nav.imp ?_
                      refine awp_weak (s' := ⟨136, [(0, .d (.int .i64 op)), (4, .ptr 0 0 0), (5, .ptr 1 0 0), (6, .ptr 2 0 0), (7, .ptr 3 0 0), (8, .d (.int .i64 i)), (9, .d (.int .i64 k)), (10, .d (.int .i64 y)), (11, .nl), (12, .nl)], [(0, some ⟨24, 1, [(regRow a).map .d]⟩), (1, some ⟨24, 1, [(regRow b).map .d]⟩), (2, some ⟨24, 1, [[.nl]]⟩), (3, some ⟨24, 1, [[.hs 4 0 Z.length]]⟩), (4, some ⟨40, 2, dr (Z.map Row.row)⟩)], 5⟩) ?_ key.h
                      refine weak_of [(0, some 0), (1, some 1), (2, some 2), (3, some 3), (4, some 4)] rfl (by simp [upT, up, upL, push_cast, hyv]) (by simp [upH, upR, upL, up, push_cast, hyv]) (by simp [namesOk, push_cast]) (by simp [olds])
                    · have hvw : ¬ v.y ≤ w.y := by simpa using hb
                      have hyv : w.y = y := by rw [← hy]; simp [nextY, hAi, hBk, hvw]
                      refine awp_region cx [] fun K hK => ?_
                      simp [push_cast, hk1, hBk, hbw, Row.row]
                      repeat (refine And.intro (by clear hK; intros; first | omega | (simp_all; done) | (simp_all <;> omega)) ?_)
                      refine hK _ ?_; clear hK K; refine Nav.imp ?_
                      refine awp_weak (s' := ⟨136, [(0, .d (.int .i64 op)), (4, .ptr 0 0 0), (5, .ptr 1 0 0), (6, .ptr 2 0 0), (7, .ptr 3 0 0), (8, .d (.int .i64 i)), (9, .d (.int .i64 k)), (10, .d (.int .i64 y)), (11, .nl), (12, .nl)], [(0, some ⟨24, 1, [(regRow a).map .d]⟩), (1, some ⟨24, 1, [(regRow b).map .d]⟩), (2, some ⟨24, 1, [[.nl]]⟩), (3, some ⟨24, 1, [[.hs 4 0 Z.length]]⟩), (4, some ⟨40, 2, dr (Z.map Row.row)⟩)], 5⟩) ?_ key.h
                      refine weak_of [(0, some 0), (1, some 1), (2, some 2), (3, some 3), (4, some 4)] rfl (by simp [upT, up, upL, push_cast, hyv]) (by simp [upH, upR, upL, up, push_cast, hyv]) (by simp [namesOk, push_cast]) (by simp [olds])
                  | none =>
                    have hk1 : k = b.length := by have := List.getElem?_eq_none_iff.1 hBk; (try clear hPs); (try clear hQs); omega
                    have hyv : v.y = y := by rw [← hy]; simp [nextY, hAi, hBk]
                    refine awp_region_draw cx mixed [] fun K hK => ?_
                    simp [push_cast, hi1, hk1, hAi, hav, Row.row]
                    repeat (refine And.intro (by clear hK; intros; first | omega | (simp_all; done) | (simp_all <;> omega)) ?_)
                    refine hK _ _ (by kernel_rfl) ?_; clear hK K; refine Nav.imp ?_
                    refine awp_cond (b := true) (by simp [push_cast, hi1, hk1]) (fun hb => ?_) (fun hb => ?_) <;> (refine Nav.imp ?_)
                    · refine awp_region cx [] fun K hK => ?_
                      simp [push_cast, hi1, hAi, hav, Row.row]
                      repeat (refine And.intro (by clear hK; intros; first | omega | (simp_all; done) | (simp_all <;> omega)) ?_)
                      refine hK _ ?_; clear hK K; refine Nav.imp ?_
                      refine awp_weak (s' := ⟨136, [(0, .d (.int .i64 op)), (4, .ptr 0 0 0), (5, .ptr 1 0 0), (6, .ptr 2 0 0), (7, .ptr 3 0 0), (8, .d (.int .i64 i)), (9, .d (.int .i64 k)), (10, .d (.int .i64 y)), (11, .nl), (12, .nl)], [(0, some ⟨24, 1, [(regRow a).map .d]⟩), (1, some ⟨24, 1, [(regRow b).map .d]⟩), (2, some ⟨24, 1, [[.nl]]⟩), (3, some ⟨24, 1, [[.hs 4 0 Z.length]]⟩), (4, some ⟨40, 2, dr (Z.map Row.row)⟩)], 5⟩) ?_ key.h
                      refine weak_of [(0, some 0), (1, some 1), (2, some 2), (3, some 3), (4, some 4)] rfl (by simp [upT, up, upL, push_cast, hyv, hk1]) (by simp [upH, upR, upL, up, push_cast, hyv, hk1]) (by simp [namesOk, push_cast]) (by simp [olds])
                    · simp at hb
                · simp at hb
              | none =>
                have hi1 : i = a.length := by have := List.getElem?_eq_none_iff.1 hAi; (try clear hPs); (try clear hQs); omega
                have hi2 : ¬ i < a.length := by (try clear hPs); (try clear hQs); omega
                have hk1 : k < b.length := by (try clear hPs); (try clear hQs); omega
                obtain ⟨w, hBk⟩ : ∃ w, b[k]? = some w := getq hk1
                have hbw := (List.getElem?_eq_some_iff.1 hBk).2
                have hk2 : ¬ k = b.length := by (try clear hPs); (try clear hQs); omega
                have hk3 : ((k : Int) == (b.length : Int)) = false := by (try clear hPs); (try clear hQs); simp; omega
                have hyv : w.y = y := by rw [← hy]; simp [nextY, hAi, hBk]
                refine awp_region cx [] fun K hK => ?_
                simp [push_cast, hi2, hk1]
                repeat (refine And.intro (by clear hK; intros; first | omega | (simp_all; done) | (simp_all <;> omega)) ?_)
                refine hK _ ?_; clear hK K; refine Nav.imp ?_
                refine awp_cond (b := true) (by simp [push_cast, hi2, hk1]) (fun hb => ?_) (fun hb => ?_) <;> (refine Nav.imp ?_)
                · refine awp_region cx [] fun K hK => ?_
                  simp [push_cast]
                  repeat (refine And.intro (by clear hK; intros; first | omega | (simp_all; done) | (simp_all <;> omega)) ?_)
                  refine hK _ ?_; clear hK K; refine Nav.imp ?_
                  refine awp_region cx [] fun K hK => ?_
                  simp [push_cast]
                  repeat (refine And.intro (by clear hK; intros; first | omega | (simp_all; done) | (simp_all <;> omega)) ?_)
                  refine hK _ ?_; clear hK K; refine Nav.imp ?_
                  refine awp_region_draw cx mixed [] fun K hK => ?_
                  simp [push_cast, hi2, hk1, hk2, hk3]
                  repeat (refine And.intro (by clear hK; intros; first | omega | (simp_all; done) | (simp_all <;> omega)) ?_)
                  refine hK _ _ (by kernel_rfl) ?_; clear hK K; refine Nav.imp ?_
                  refine awp_cond (b := false) (by simp [push_cast, hi2, hk1, hk2, hk3]) (fun hb => ?_) (fun hb => ?_) <;> (refine Nav.imp ?_)
                  · simp at hb
                  · refine awp_region cx [] fun K hK => ?_
                    simp [push_cast, hk1, hBk, hbw, Row.row]
                    repeat (refine And.intro (by clear hK; intros; first | omega | (simp_all; done) | (simp_all <;> omega)) ?_)
                    refine hK _ ?_; clear hK K; refine Nav.imp ?_
                    refine awp_weak (s' := ⟨136, [(0, .d (.int .i64 op)), (4, .ptr 0 0 0), (5, .ptr 1 0 0), (6, .ptr 2 0 0), (7, .ptr 3 0 0), (8, .d (.int .i64 i)), (9, .d (.int .i64 k)), (10, .d (.int .i64 y)), (11, .nl), (12, .nl)], [(0, some ⟨24, 1, [(regRow a).map .d]⟩), (1, some ⟨24, 1, [(regRow b).map .d]⟩), (2, some ⟨24, 1, [[.nl]]⟩), (3, some ⟨24, 1, [[.hs 4 0 Z.length]]⟩), (4, some ⟨40, 2, dr (Z.map Row.row)⟩)], 5⟩) ?_ key.h
                    refine weak_of [(0, some 0), (1, some 1), (2, some 2), (3, some 3), (4, some 4)] rfl (by simp [upT, up, upL, push_cast, hyv]) (by simp [upH, upR, upL, up, push_cast, hyv]) (by simp [namesOk, push_cast]) (by simp [olds])
                · simp at hb
            · refine Nav.imp ?_
              apply cut_
              · intro key
                rcases hPs with ⟨hAi, hP, hi'⟩ | ⟨v, hAi, hvy, hP, hi'⟩ | ⟨v, hAi, hvy, hP, hi'⟩
                · have hi2 : ¬ i < a.length := by have := List.getElem?_eq_none_iff.1 hAi; (try clear hPs); (try clear hQs); omega
                  refine awp_region cx [] fun K hK => ?_
                  simp [push_cast, hi2]
                  repeat (refine And.intro (by clear hK; intros; first | omega | (simp_all; done) | (simp_all <;> omega)) ?_)
                  refine hK _ ?_; clear hK K; refine Nav.imp ?_
                  refine awp_cond (b := false) (by simp [push_cast, hi2]) (fun hb => ?_) (fun hb => ?_) <;> (refine Nav.imp ?_)
                  · simp at hb
                  · refine awp_weak (s' := ⟨136, [(0, .d (.int .i64 op)), (4, .ptr 0 0 0), (5, .ptr 1 0 0), (6, .ptr 2 0 0), (7, .ptr 3 0 0), (8, .d (.int .i64 i')), (9, .d (.int .i64 k)), (10, .d (.int .i64 y)), (11, P), (12, .nl)], [(0, some ⟨24, 1, [(regRow a).map .d]⟩), (1, some ⟨24, 1, [(regRow b).map .d]⟩), (2, some ⟨24, 1, [[.nl]]⟩), (3, some ⟨24, 1, [[.hs 4 0 Z.length]]⟩), (4, some ⟨40, 2, dr (Z.map Row.row)⟩)], 5⟩) ?_ key.h
                    refine weak_of [(0, some 0), (1, some 1), (2, some 2), (3, some 3), (4, some 4)] rfl (by simp [upT, up, upL, push_cast, hP, hi']) (by simp [upH, upR, upL, up, push_cast, hP, hi']) (by simp [namesOk, push_cast]) (by simp [olds])
                · have hi1 : i < a.length := (List.getElem?_eq_some_iff.1 hAi).1
                  have hav := (List.getElem?_eq_some_iff.1 hAi).2
                  refine awp_region cx [] fun K hK => ?_
                  simp [push_cast, hi1, hAi, hav, hvy, Row.row]
                  repeat (refine And.intro (by clear hK; intros; first | omega | (simp_all; done) | (simp_all <;> omega)) ?_)
                  refine hK _ ?_; clear hK K; refine Nav.imp ?_
                  refine awp_cond (b := false) (by simp [push_cast, hi1, hvy]) (fun hb => ?_) (fun hb => ?_) <;> (refine Nav.imp ?_)
                  · simp at hb
                  · refine awp_weak (s' := ⟨136, [(0, .d (.int .i64 op)), (4, .ptr 0 0 0), (5, .ptr 1 0 0), (6, .ptr 2 0 0), (7, .ptr 3 0 0), (8, .d (.int .i64 i')), (9, .d (.int .i64 k)), (10, .d (.int .i64 y)), (11, P), (12, .nl)], [(0, some ⟨24, 1, [(regRow a).map .d]⟩), (1, some ⟨24, 1, [(regRow b).map .d]⟩), (2, some ⟨24, 1, [[.nl]]⟩), (3, some ⟨24, 1, [[.hs 4 0 Z.length]]⟩), (4, some ⟨40, 2, dr (Z.map Row.row)⟩)], 5⟩) ?_ key.h
                    refine weak_of [(0, some 0), (1, some 1), (2, some 2), (3, some 3), (4, some 4)] rfl (by simp [upT, up, upL, push_cast, hP, hi']) (by simp [upH, upR, upL, up, push_cast, hP, hi']) (by simp [namesOk, push_cast]) (by simp [olds])
                · have hi1 : i < a.length := (List.getElem?_eq_some_iff.1 hAi).1
                  have hav := (List.getElem?_eq_some_iff.1 hAi).2
                  refine awp_region cx [] fun K hK => ?_
                  simp [push_cast, hi1, hAi, hav, hvy, Row.row]
                  repeat (refine And.intro (by clear hK; intros; first | omega | (simp_all; done) | (simp_all <;> omega)) ?_)
                  refine hK _ ?_; clear hK K; refine Nav.imp ?_
                  refine awp_cond (b := true) (by simp [push_cast, hi1, hvy]) (fun hb => ?_) (fun hb => ?_) <;> (refine Nav.imp ?_)
                  · refine awp_region cx [] fun K hK => ?_
                    simp [push_cast, hi1, hAi, hav, Row.row]
                    repeat (refine And.intro (by clear hK; intros; first | omega | (simp_all; done) | (simp_all <;> omega)) ?_)
                    refine hK _ ?_; clear hK K; refine Nav.imp ?_
                    refine awp_region cx [] fun K hK => ?_
                    simp [push_cast, e1]
                    repeat (refine And.intro (by clear hK; intros; first | omega | (simp_all; done) | (simp_all <;> omega)) ?_)
                    refine hK _ ?_; clear hK K; refine Nav.imp ?_
                    refine awp_weak (s' := ⟨136, [(0, .d (.int .i64 op)), (4, .ptr 0 0 0), (5, .ptr 1 0 0), (6, .ptr 2 0 0), (7, .ptr 3 0 0), (8, .d (.int .i64 i')), (9, .d (.int .i64 k)), (10, .d (.int .i64 y)), (11, P), (12, .nl)], [(0, some ⟨24, 1, [(regRow a).map .d]⟩), (1, some ⟨24, 1, [(regRow b).map .d]⟩), (2, some ⟨24, 1, [[.nl]]⟩), (3, some ⟨24, 1, [[.hs 4 0 Z.length]]⟩), (4, some ⟨40, 2, dr (Z.map Row.row)⟩)], 5⟩) ?_ key.h
                    refine weak_of [(0, some 0), (1, some 1), (2, some 2), (3, some 3), (4, some 4)] rfl (by simp [upT, up, upL, push_cast, hP, hi']) (by simp [upH, upR, upL, up, push_cast, hP, hi']) (by simp [namesOk, push_cast]) (by simp [olds])
                  · simp at hb
              · refine Nav.imp ?_
                apply cut_
                · intro key
                  rcases hQs with ⟨hBk, hQ, hk'⟩ | ⟨v, hBk, hvy, hQ, hk'⟩ | ⟨v, hBk, hvy, hQ, hk'⟩
                  · have hi2 : ¬ k < b.length := by have := List.getElem?_eq_none_iff.1 hBk; (try clear hPs); (try clear hQs); omega
                    refine awp_region cx [] fun K hK => ?_
                    simp [push_cast, hi2]
                    repeat (refine And.intro (by clear hK; intros; first | omega | (simp_all; done) | (simp_all <;> omega)) ?_)
                    refine hK _ ?_; clear hK K; refine Nav.imp ?_
                    refine awp_cond (b := false) (by simp [push_cast, hi2]) (fun hb => ?_) (fun hb => ?_) <;> (refine Nav.imp ?_)
                    · simp at hb
                    · refine awp_weak (s' := ⟨136, [(0, .d (.int .i64 op)), (4, .ptr 0 0 0), (5, .ptr 1 0 0), (6, .ptr 2 0 0), (7, .ptr 3 0 0), (8, .d (.int .i64 i')), (9, .d (.int .i64 k')), (10, .d (.int .i64 y)), (11, P), (12, Q)], [(0, some ⟨24, 1, [(regRow a).map .d]⟩), (1, some ⟨24, 1, [(regRow b).map .d]⟩), (2, some ⟨24, 1, [[.nl]]⟩), (3, some ⟨24, 1, [[.hs 4 0 Z.length]]⟩), (4, some ⟨40, 2, dr (Z.map Row.row)⟩)], 5⟩) ?_ key.h
                      rcases hPp with ⟨hP2, _⟩ | hP2
                      · refine weak_of [(0, some 0), (1, some 1), (2, some 2), (3, some 3), (4, some 4)] rfl (by simp [upT, up, upL, push_cast, hQ, hk', hP2]) (by simp [upH, upR, upL, up, push_cast, hQ, hk', hP2]) (by simp [namesOk, push_cast]) (by simp [olds])
                      · refine weak_of [(0, some 0), (1, some 1), (2, some 2), (3, some 3), (4, some 4)] rfl (by simp [upT, up, upL, push_cast, hQ, hk', hP2]) (by simp [upH, upR, upL, up, push_cast, hQ, hk', hP2]) (by simp [namesOk, push_cast]) (by simp [olds])
                  · have hi1 : k < b.length := (List.getElem?_eq_some_iff.1 hBk).1
                    have hav := (List.getElem?_eq_some_iff.1 hBk).2
                    refine awp_region cx [] fun K hK => ?_
                    simp [push_cast, hi1, hBk, hav, hvy, Row.row]
                    repeat (refine And.intro (by clear hK; intros; first | omega | (simp_all; done) | (simp_all <;> omega)) ?_)
                    refine hK _ ?_; clear hK K; refine Nav.imp ?_
                    refine awp_cond (b := false) (by simp [push_cast, hi1, hvy]) (fun hb => ?_) (fun hb => ?_) <;> (refine Nav.imp ?_)
                    · simp at hb
                    · refine awp_weak (s' := ⟨136, [(0, .d (.int .i64 op)), (4, .ptr 0 0 0), (5, .ptr 1 0 0), (6, .ptr 2 0 0), (7, .ptr 3 0 0), (8, .d (.int .i64 i')), (9, .d (.int .i64 k')), (10, .d (.int .i64 y)), (11, P), (12, Q)], [(0, some ⟨24, 1, [(regRow a).map .d]⟩), (1, some ⟨24, 1, [(regRow b).map .d]⟩), (2, some ⟨24, 1, [[.nl]]⟩), (3, some ⟨24, 1, [[.hs 4 0 Z.length]]⟩), (4, some ⟨40, 2, dr (Z.map Row.row)⟩)], 5⟩) ?_ key.h
                      rcases hPp with ⟨hP2, _⟩ | hP2
                      · refine weak_of [(0, some 0), (1, some 1), (2, some 2), (3, some 3), (4, some 4)] rfl (by simp [upT, up, upL, push_cast, hQ, hk', hP2]) (by simp [upH, upR, upL, up, push_cast, hQ, hk', hP2]) (by simp [namesOk, push_cast]) (by simp [olds])
                      · refine weak_of [(0, some 0), (1, some 1), (2, some 2), (3, some 3), (4, some 4)] rfl (by simp [upT, up, upL, push_cast, hQ, hk', hP2]) (by simp [upH, upR, upL, up, push_cast, hQ, hk', hP2]) (by simp [namesOk, push_cast]) (by simp [olds])
                  · have hi1 : k < b.length := (List.getElem?_eq_some_iff.1 hBk).1
                    have hav := (List.getElem?_eq_some_iff.1 hBk).2
                    refine awp_region cx [] fun K hK => ?_
                    simp [push_cast, hi1, hBk, hav, hvy, Row.row]
                    repeat (refine And.intro (by clear hK; intros; first | omega | (simp_all; done) | (simp_all <;> omega)) ?_)
                    refine hK _ ?_; clear hK K; refine Nav.imp ?_
                    refine awp_cond (b := true) (by simp [push_cast, hi1, hvy]) (fun hb => ?_) (fun hb => ?_) <;> (refine Nav.imp ?_)
                    · refine awp_region cx [] fun K hK => ?_
                      simp [push_cast, hi1, hBk, hav, Row.row]
                      repeat (refine And.intro (by clear hK; intros; first | omega | (simp_all; done) | (simp_all <;> omega)) ?_)
                      refine hK _ ?_; clear hK K; refine Nav.imp ?_
                      refine awp_region cx [] fun K hK => ?_
                      simp [push_cast, e2]
                      repeat (refine And.intro (by clear hK; intros; first | omega | (simp_all; done) | (simp_all <;> omega)) ?_)
                      refine hK _ ?_; clear hK K; refine Nav.imp ?_
                      refine awp_weak (s' := ⟨136, [(0, .d (.int .i64 op)), (4, .ptr 0 0 0), (5, .ptr 1 0 0), (6, .ptr 2 0 0), (7, .ptr 3 0 0), (8, .d (.int .i64 i')), (9, .d (.int .i64 k')), (10, .d (.int .i64 y)), (11, P), (12, Q)], [(0, some ⟨24, 1, [(regRow a).map .d]⟩), (1, some ⟨24, 1, [(regRow b).map .d]⟩), (2, some ⟨24, 1, [[.nl]]⟩), (3, some ⟨24, 1, [[.hs 4 0 Z.length]]⟩), (4, some ⟨40, 2, dr (Z.map Row.row)⟩)], 5⟩) ?_ key.h
                      rcases hPp with ⟨hP2, _⟩ | hP2
                      · refine weak_of [(0, some 0), (1, some 1), (2, some 2), (3, some 3), (4, some 4)] rfl (by simp [upT, up, upL, push_cast, hQ, hk', hP2]) (by simp [upH, upR, upL, up, push_cast, hQ, hk', hP2]) (by simp [namesOk, push_cast]) (by simp [olds])
                      · refine weak_of [(0, some 0), (1, some 1), (2, some 2), (3, some 3), (4, some 4)] rfl (by simp [upT, up, upL, push_cast, hQ, hk', hP2]) (by simp [upH, upR, upL, up, push_cast, hQ, hk', hP2]) (by simp [namesOk, push_cast]) (by simp [olds])
                    · simp at hb
                · refine Nav.imp ?_
                  apply cut_
                  · intro key
                    rcases hPp with ⟨hP, hp⟩ | hP <;> rcases hQp with ⟨hQ, hq⟩ | hQ
                    · rw [hp, hq] at g1
                      simp only [encRuns, List.map_nil] at g1
                      refine awp_region cx [(3, .p (encRuns r))] fun K hK => ?_
                      simp [push_cast, g1, hP, hQ]
                      repeat (refine And.intro (by clear hK; intros; first | omega | (simp_all; done) | (simp_all <;> omega)) ?_)
                      refine hK _ ?_; clear hK K; refine Nav.imp ?_
                      refine awp_weak (s' := ⟨136, [(0, .d (.int .i64 op)), (4, .ptr 0 0 0), (5, .ptr 1 0 0), (6, .ptr 2 0 0), (7, .ptr 3 0 0), (8, .d (.int .i64 i')), (9, .d (.int .i64 k')), (10, .d (.int .i64 y)), (13, .d (encRuns r))], [(0, some ⟨24, 1, [(regRow a).map .d]⟩), (1, some ⟨24, 1, [(regRow b).map .d]⟩), (2, some ⟨24, 1, [[.nl]]⟩), (3, some ⟨24, 1, [[.hs 4 0 Z.length]]⟩), (4, some ⟨40, 2, dr (Z.map Row.row)⟩)], 5⟩) ?_ key.h
                      refine weak_of [(0, some 0), (1, some 1), (2, some 2), (3, some 3), (4, some 4)] rfl (by simp [upT, up, upL, push_cast]) (by simp [upH, upR, upL, up, push_cast]) (by simp [namesOk, push_cast]) (by simp [olds])
                    · rw [hp] at g1
                      have he : encRuns [] = .sl [] := rfl
                      rw [he] at g1
                      refine awp_region cx [(3, .p (encRuns r))] fun K hK => ?_
                      simp [push_cast, g1, hP, hQ]
                      repeat (refine And.intro (by clear hK; intros; first | omega | (simp_all; done) | (simp_all <;> omega)) ?_)
                      refine hK _ ?_; clear hK K; refine Nav.imp ?_
                      refine awp_weak (s' := ⟨136, [(0, .d (.int .i64 op)), (4, .ptr 0 0 0), (5, .ptr 1 0 0), (6, .ptr 2 0 0), (7, .ptr 3 0 0), (8, .d (.int .i64 i')), (9, .d (.int .i64 k')), (10, .d (.int .i64 y)), (13, .d (encRuns r))], [(0, some ⟨24, 1, [(regRow a).map .d]⟩), (1, some ⟨24, 1, [(regRow b).map .d]⟩), (2, some ⟨24, 1, [[.nl]]⟩), (3, some ⟨24, 1, [[.hs 4 0 Z.length]]⟩), (4, some ⟨40, 2, dr (Z.map Row.row)⟩)], 5⟩) ?_ key.h
                      refine weak_of [(0, some 0), (1, some 1), (2, some 2), (3, some 3), (4, some 4)] rfl (by simp [upT, up, upL, push_cast]) (by simp [upH, upR, upL, up, push_cast]) (by simp [namesOk, push_cast]) (by simp [olds])
                    · rw [hq] at g1
                      have he : encRuns [] = .sl [] := rfl
                      rw [he] at g1
                      refine awp_region cx [(3, .p (encRuns r))] fun K hK => ?_
                      simp [push_cast, g1, hP, hQ]
                      repeat (refine And.intro (by clear hK; intros; first | omega | (simp_all; done) | (simp_all <;> omega)) ?_)
                      refine hK _ ?_; clear hK K; refine Nav.imp ?_
                      refine awp_weak (s' := ⟨136, [(0, .d (.int .i64 op)), (4, .ptr 0 0 0), (5, .ptr 1 0 0), (6, .ptr 2 0 0), (7, .ptr 3 0 0), (8, .d (.int .i64 i')), (9, .d (.int .i64 k')), (10, .d (.int .i64 y)), (13, .d (encRuns r))], [(0, some ⟨24, 1, [(regRow a).map .d]⟩), (1, some ⟨24, 1, [(regRow b).map .d]⟩), (2, some ⟨24, 1, [[.nl]]⟩), (3, some ⟨24, 1, [[.hs 4 0 Z.length]]⟩), (4, some ⟨40, 2, dr (Z.map Row.row)⟩)], 5⟩) ?_ key.h
                      refine weak_of [(0, some 0), (1, some 1), (2, some 2), (3, some 3), (4, some 4)] rfl (by simp [upT, up, upL, push_cast]) (by simp [upH, upR, upL, up, push_cast]) (by simp [namesOk, push_cast]) (by simp [olds])
                    · refine awp_region cx [(3, .p (encRuns r))] fun K hK => ?_
                      simp [push_cast, g1, hP, hQ]
                      repeat (refine And.intro (by clear hK; intros; first | omega | (simp_all; done) | (simp_all <;> omega)) ?_)
                      refine hK _ ?_; clear hK K; refine Nav.imp ?_
                      refine awp_weak (s' := ⟨136, [(0, .d (.int .i64 op)), (4, .ptr 0 0 0), (5, .ptr 1 0 0), (6, .ptr 2 0 0), (7, .ptr 3 0 0), (8, .d (.int .i64 i')), (9, .d (.int .i64 k')), (10, .d (.int .i64 y)), (13, .d (encRuns r))], [(0, some ⟨24, 1, [(regRow a).map .d]⟩), (1, some ⟨24, 1, [(regRow b).map .d]⟩), (2, some ⟨24, 1, [[.nl]]⟩), (3, some ⟨24, 1, [[.hs 4 0 Z.length]]⟩), (4, some ⟨40, 2, dr (Z.map Row.row)⟩)], 5⟩) ?_ key.h
                      refine weak_of [(0, some 0), (1, some 1), (2, some 2), (3, some 3), (4, some 4)] rfl (by simp [upT, up, upL, push_cast]) (by simp [upH, upR, upL, up, push_cast]) (by simp [namesOk, push_cast]) (by simp [olds])
                  · refine Nav.imp ?_
                    refine awp_region cx [] fun K hK => ?_
                    simp [push_cast]
                    repeat (refine And.intro (by clear hK; intros; first | omega | (simp_all; done) | (simp_all <;> omega)) ?_)
                    refine hK _ ?_; clear hK K; refine Nav.imp ?_
                    refine awp_cond (b := decide (0 < (r.length : Int))) (by simp [push_cast]) (fun hb => ?_) (fun hb => ?_) <;> (refine Nav.imp ?_)
                    · have hb : 0 < r.length := by simp at hb; omega
                      have hne : r ≠ [] := List.length_pos_iff.1 hb
                      rw [if_neg hne] at s3
                      refine awp_region cx [] fun K hK => ?_
                      simp [push_cast, hZ32]
                      repeat (refine And.intro (by clear hK; intros; first | omega | (simp_all; done) | (simp_all <;> omega)) ?_)
                      refine hK _ ?_; clear hK K; refine Nav.imp ?_
                      refine ⟨(i', k', Z ++ [⟨y, r⟩]), s3, by (try clear hPs); (try clear hQs); simp only; omega, ?_⟩
                      refine weak_of [(0, some 0), (1, some 1), (2, some 2), (3, some 3), (4, some 14)] rfl (by simp [upT, up, upL, push_cast, Row.row]) (by simp [upH, upR, upL, up, push_cast, Row.row]) (by simp [namesOk, push_cast]) (by simp [olds])
                    · have hb : r = [] := by simpa using hb
                      rw [if_pos hb, List.append_nil] at s3
                      refine ⟨(i', k', Z), s3, by (try clear hPs); (try clear hQs); simp only; omega, ?_⟩
                      refine weak_of [(0, some 0), (1, some 1), (2, some 2), (3, some 3), (4, some 4)] rfl (by simp [upT, up, upL, push_cast, Row.row]) (by simp [upH, upR, upL, up, push_cast, Row.row]) (by simp [namesOk, push_cast]) (by simp [olds])
          · have hi : i = a.length := by omega
            have hk : k = b.length := by omega
            subst hi hk
            have hz := hend Z hat
            subst hz
            refine awp_region cx [] fun K hK => ?_
            simp [push_cast]
            repeat (refine And.intro (by clear hK; intros; first | omega | (simp_all; done) | (simp_all <;> omega)) ?_)
            refine hK _ ?_; clear hK K; refine Nav.imp ?_
            refine awp_cond (b := false) (by simp [push_cast]) (fun hb => ?_) (fun hb => ?_) <;> (refine Nav.imp ?_)
            · simp at hb
            · refine awp_freeze 4 (Z.map Row.row) rfl (by simp [push_cast, Row.row]) fun K hK => ?_
              simp [push_cast, St.fz, fzT, fzH, fzO, fz, fzL, fzR, fzR_dr, fzR_app, fzR_set, fzL_map, Row.row]
              refine hK _ ?_; clear hK K; refine Nav.imp ?_
              refine awp_region cx [] fun K hK => ?_
              simp [push_cast]
              repeat (refine And.intro (by clear hK; intros; first | omega | (simp_all; done) | (simp_all <;> omega)) ?_)
              refine hK _ ?_; clear hK K; refine Nav.imp ?_
              simp [push_cast]
end Go.Proofs.YtknelhiejjdioaaGreat

set_option linter.unusedVariables false
set_option linter.unusedSimpArgs false
namespace Go.Proofs.YtknelhiejjdioaaGreat
open Go.Abs

/-! A valid region is small. -/
theorem fine_low {l : List Run} (h : fine l = true) : ∀ (k : Nat) (r : Run), l[k]? = some r → -4096 + (k : Int) ≤ r.a
  | 0, r, hr => by have := fine_at h hr; simp; omega
  | k + 1, r, hr => by
    have hk := (List.getElem?_eq_some_iff.1 hr).1
    obtain ⟨p, hp⟩ : ∃ p, l[k]? = some p := getq (by omega)
    have h1 := fine_low h k p hp
    have h2 := fine_gap h hr hp
    have h3 := fine_at h hp
    simp; omega
theorem rows_low {R : List Row} (h : validR R = true) : ∀ (k : Nat) (w : Row), R[k]? = some w → -4096 + (k : Int) ≤ w.y
  | 0, w, hw => by have := validR_at h hw; simp; omega
  | k + 1, w, hw => by
    have hk := (List.getElem?_eq_some_iff.1 hw).1
    obtain ⟨p, hp⟩ : ∃ p, R[k]? = some p := getq (by omega)
    have h1 := rows_low h k p hp
    have h2 := validR_gap h hw hp
    simp; omega
theorem valid_small {R : List Row} (h : validR R = true) : smallR R := by
  refine ⟨?_, fun w hw => ?_⟩
  · by_cases e : R.length ≤ 8192
    · omega
    · obtain ⟨w, hw⟩ := getq (show 8192 < R.length by omega)
      have h1 := rows_low h 8192 w hw
      have h2 := validR_at h hw
      simp at h1; omega
  · have hf := (row_fine h hw).2
    by_cases e : w.runs.length ≤ 8192
    · omega
    · obtain ⟨r, hr⟩ := getq (show 8192 < w.runs.length by omega)
      have h1 := fine_low hf 8192 r hr
      have h2 := fine_at hf hr
      simp at h1; omega

/-! Regions compared. -/



def sameB (a b : List Row) : Bool := validR a && validR b && decide (a = b)

end Go.Proofs.YtknelhiejjdioaaGreat

set_option linter.unusedVariables false
set_option linter.unusedSimpArgs false
namespace Go.Proofs.YtknelhiejjdioaaGreat
open Go.Abs

def withinB (a b : List Row) : Bool := validR a && validR b && decide ((opR fD a b).length = 0)
theorem withinR_big (a b : List Row) (hA : bigR a) (hB : bigR b) : PC Tryz.prog 20 [.agg (regRow a), .agg (regRow b)] (.p (.bool (withinB a b))) := by
  have c1 := valid_big a hA
  have c2 := valid_big b hB
  have c3 := subtractR_big a b hA hB
  unfold withinB
  generalize validR a = v at *
  generalize validR b = w at *
  generalize opR fD a b = r at *
  have hr : ((r.length : Int) == 0) = decide (r.length = 0) := by rw [Bool.eq_iff_iff]; simp
  cases v with
  | false =>
    refine pc_of_awp cx (fn := Tryz.f20) (c := _) Tryz.func20 rfl rfl (Nat.le_of_ble_eq_true rfl) ?_
    rw [Tryz.ntmps20]; refine Nav.imp ?_
    refine awp_region cx [] fun K hK => ?_
    simp [push_cast]
    repeat (refine And.intro (by clear hK; intros; first | omega | (simp_all; done) | (simp_all <;> omega)) ?_)
    refine hK _ ?_; clear hK K; refine Nav.imp ?_
    refine awp_region cx [(1, .p (.bool false)), (4, .skip), (9, .skip)] fun K hK => ?_
    simp [push_cast, c1]
    repeat (refine And.intro (by clear hK; intros; first | omega | (simp_all; done) | (simp_all <;> omega)) ?_)
    refine hK _ ?_; clear hK K; refine Nav.imp ?_
    simp [push_cast]
  | true =>
    cases w with
    | false =>
      refine pc_of_awp cx (fn := Tryz.f20) (c := _) Tryz.func20 rfl rfl (Nat.le_of_ble_eq_true rfl) ?_
      rw [Tryz.ntmps20]; refine Nav.imp ?_
      refine awp_region cx [] fun K hK => ?_
      simp [push_cast]
      repeat (refine And.intro (by clear hK; intros; first | omega | (simp_all; done) | (simp_all <;> omega)) ?_)
      refine hK _ ?_; clear hK K; refine Nav.imp ?_
      refine awp_region cx [(1, .p (.bool true)), (4, .p (.bool false)), (9, .skip)] fun K hK => ?_
      simp [push_cast, c1, c2]
      repeat (refine And.intro (by clear hK; intros; first | omega | (simp_all; done) | (simp_all <;> omega)) ?_)
      refine hK _ ?_; clear hK K; refine Nav.imp ?_
      simp [push_cast]
    | true =>
      refine pc_of_awp cx (fn := Tryz.f20) (c := _) Tryz.func20 rfl rfl (Nat.le_of_ble_eq_true rfl) ?_
      rw [Tryz.ntmps20]; refine Nav.imp ?_
      refine awp_region cx [] fun K hK => ?_
      simp [push_cast]
      repeat (refine And.intro (by clear hK; intros; first | omega | (simp_all; done) | (simp_all <;> omega)) ?_)
      refine hK _ ?_; clear hK K; refine Nav.imp ?_
      refine awp_region cx [(1, .p (.bool true)), (4, .p (.bool true)), (9, .p (.agg (regRow r)))] fun K hK => ?_
      simp [push_cast, c1, c2, c3]
      repeat (refine And.intro (by clear hK; intros; first | omega | (simp_all; done) | (simp_all <;> omega)) ?_)
      refine hK _ ?_; clear hK K; refine Nav.imp ?_
      simp [push_cast, hr]
theorem withinR_ok (a b : List Row) (hA : smallR a) (hB : smallR b) : PC Tryz.prog 20 [.agg (regRow a), .agg (regRow b)] (.p (.bool (withinB a b))) := withinR_big a b (big_of hA) (big_of hB)
end Go.Proofs.YtknelhiejjdioaaGreat

set_option linter.unusedVariables false
set_option linter.unusedSimpArgs false
set_option maxRecDepth 100000
namespace Go.Proofs.YtknelhiejjdioaaGreat
open Go.Abs


theorem rintersect_big (a b : List Row) (hA : bigR a) (hB : bigR b) : PC Tryz.prog 55 [.agg (regRow a), .agg (regRow b)] (.p (.agg (regRow (opR fI a b)))) := by
  have c1 := operated_big 1 fI rfl keptI a b hA hB
  generalize opR fI a b = r at *
  refine pc_of_awp cx (fn := Tryz.f55) (c := _) Tryz.func55 rfl rfl (Nat.le_of_ble_eq_true rfl) ?_
  rw [Tryz.ntmps55]; refine Nav.imp ?_
  refine awp_region cx [] fun K hK => ?_
  simp [push_cast]
  repeat (refine And.intro (by clear hK; intros; first | omega | (simp_all; done) | (simp_all <;> omega)) ?_)
  refine hK _ ?_; clear hK K; refine Nav.imp ?_
  refine awp_region cx [(2, .p (.agg (regRow r)))] fun K hK => ?_
  simp [push_cast, c1]
  repeat (refine And.intro (by clear hK; intros; first | omega | (simp_all; done) | (simp_all <;> omega)) ?_)
  refine hK _ ?_; clear hK K; refine Nav.imp ?_
  simp [push_cast]
theorem rsubtract_big (a b : List Row) (hA : bigR a) (hB : bigR b) : PC Tryz.prog 25 [.agg (regRow a), .agg (regRow b)] (.p (.agg (regRow (opR fD a b)))) := by
  have c1 := operated_big 2 fD rfl keptD a b hA hB
  generalize opR fD a b = r at *
  refine pc_of_awp cx (fn := Tryz.f25) (c := _) Tryz.func25 rfl rfl (Nat.le_of_ble_eq_true rfl) ?_
  rw [Tryz.ntmps25]; refine Nav.imp ?_
  refine awp_region cx [] fun K hK => ?_
  simp [push_cast]
  repeat (refine And.intro (by clear hK; intros; first | omega | (simp_all; done) | (simp_all <;> omega)) ?_)
  refine hK _ ?_; clear hK K; refine Nav.imp ?_
  refine awp_region cx [(2, .p (.agg (regRow r)))] fun K hK => ?_
  simp [push_cast, c1]
  repeat (refine And.intro (by clear hK; intros; first | omega | (simp_all; done) | (simp_all <;> omega)) ?_)
  refine hK _ ?_; clear hK K; refine Nav.imp ?_
  simp [push_cast]

theorem rintersect_ok (a b : List Row) (hA : smallR a) (hB : smallR b) : PC Tryz.prog 55 [.agg (regRow a), .agg (regRow b)] (.p (.agg (regRow (opR fI a b)))) := rintersect_big a b (big_of hA) (big_of hB)
theorem rsubtract_ok (a b : List Row) (hA : smallR a) (hB : smallR b) : PC Tryz.prog 25 [.agg (regRow a), .agg (regRow b)] (.p (.agg (regRow (opR fD a b)))) := rsubtract_big a b (big_of hA) (big_of hB)

theorem opR_small {f : Bool → Bool → Bool} (hf : f false false = false) (a b : List Row) : smallR (opR f a b) := by
  cases ha : validR a with
  | false => rw [show opR f a b = [] from by simp [opR, ha]]; exact ⟨by simp, by simp⟩
  | true =>
    cases hb : validR b with
    | false => rw [show opR f a b = [] from by simp [opR, ha, hb]]; exact ⟨by simp, by simp⟩
    | true => exact valid_small (opR_facts hf ha hb).1
end Go.Proofs.YtknelhiejjdioaaGreat

set_option linter.unusedVariables false
set_option linter.unusedSimpArgs false
set_option maxRecDepth 100000
namespace Go.Proofs.YtknelhiejjdioaaGreat
open Go.Abs

theorem rturned_ok (l : List Cell) (hn : l.length ≤ 1000000) : PC Tryz.prog 93 [encCells l] (.p (encCells (l.map xc))) := by
  refine pc_of_awp cx (fn := Tryz.f93) (c := _) Tryz.func93 rfl rfl (Nat.le_of_ble_eq_true rfl) ?_
  rw [Tryz.ntmps93]; refine Nav.imp ?_
  refine awp_region cx [] fun K hK => ?_
  simp [push_cast]
  repeat (refine And.intro (by clear hK; intros; first | omega | (simp_all; done) | (simp_all <;> omega)) ?_)
  refine hK _ ?_; clear hK K; refine Nav.imp ?_
  refine awp_region cx [] fun K hK => ?_
  simp [push_cast]
  repeat (refine And.intro (by clear hK; intros; first | omega | (simp_all; done) | (simp_all <;> omega)) ?_)
  refine hK _ ?_; clear hK K; refine Nav.imp ?_
  refine awp_region cx [] fun K hK => ?_
  simp [push_cast]
  repeat (refine And.intro (by clear hK; intros; first | omega | (simp_all; done) | (simp_all <;> omega)) ?_)
  refine hK _ ?_; clear hK K; refine Nav.imp ?_
  refine awp_loop (β := Nat × List Cell) (fun s => ⟨22, [(3, .hs 0 0 s.2.length), (6, .d (encCells l)), (7, .d (.int .i64 l.length)), (8, .d (.int .i64 s.1))], [(0, some ⟨49, 2, dr (s.2.map Cell.row)⟩)], 1⟩) (fun s => s.1 ≤ l.length ∧ s.2 = (l.take s.1).map xc) (fun s => l.length - s.1) (0, []) ?_ ⟨Nat.zero_le _, by simp⟩ ?_
  · refine weak_of [(0, none)] rfl (by simp [upT, up, upL, push_cast]) (by simp [upH, upR, upL, up, push_cast]) (by simp [namesOk, push_cast]) (by simp [olds])
  · rintro ⟨k, X⟩ ⟨hk, hX⟩
    simp only at hk hX
    have hXl : X.length = k := by rw [hX]; simp; omega
    refine Nav.imp ?_
    refine awp_region cx [] fun K hK => ?_
    simp [push_cast]
    repeat (refine And.intro (by clear hK; intros; first | omega | (simp_all; done) | (simp_all <;> omega)) ?_)
    refine hK _ ?_; clear hK K; refine Nav.imp ?_
    refine awp_cond (b := decide ((k : Int) < l.length)) (by simp [push_cast]) (fun hb => ?_) (fun hb => ?_) <;> (refine Nav.imp ?_)
    · have hlt : k < l.length := by simpa using hb
      obtain ⟨c, hc⟩ := getq hlt
      have e0 := wrap_i64 (n := (k : Int) + 1) (by omega) (by omega)
      have hX1 : (l.take (k + 1)).map xc = X ++ [xc c] := by rw [take_get hc, List.map_append, ← hX]; rfl
      have h16 : (X.length + 1) * 16 ≤ 140737488355328 := by omega
      obtain ⟨x, y⟩ := c
      refine awp_region cx [] fun K hK => ?_
      simp [push_cast, hc, Cell.row]
      repeat (refine And.intro (by clear hK; intros; first | omega | (simp_all; done) | (simp_all <;> omega)) ?_)
      refine hK _ ?_; clear hK K; refine Nav.imp ?_
      refine awp_region cx [] fun K hK => ?_
      simp [push_cast, h16, Cell.row]
      repeat (refine And.intro (by clear hK; intros; first | omega | (simp_all; done) | (simp_all <;> omega)) ?_)
      refine hK _ ?_; clear hK K; refine Nav.imp ?_
      refine awp_region cx [] fun K hK => ?_
      simp [push_cast, e0]
      repeat (refine And.intro (by clear hK; intros; first | omega | (simp_all; done) | (simp_all <;> omega)) ?_)
      refine hK _ ?_; clear hK K; refine Nav.imp ?_
      refine ⟨(k + 1, X ++ [xc ⟨x, y⟩]), ⟨hlt, hX1.symm⟩, by simp only; omega, ?_⟩
      refine weak_of [(0, some 13)] rfl (by simp [upT, up, upL, push_cast, xc, Cell.row]) (by simp [upH, upR, upL, up, push_cast, xc, Cell.row]) (by simp [namesOk, push_cast]) (by simp [olds])
    · have hke : k = l.length := by simp at hb; omega
      subst hke
      rw [List.take_length] at hX
      subst hX
      generalize l.map xc = m at *
      have ht : List.take m.length (m.map Cell.row) = m.map Cell.row := List.take_of_length_le (by simp)
      refine awp_region cx [] fun K hK => ?_
      simp [push_cast]
      repeat (refine And.intro (by clear hK; intros; first | omega | (simp_all; done) | (simp_all <;> omega)) ?_)
      refine hK _ ?_; clear hK K; refine Nav.imp ?_
      simp [push_cast, ht]

theorem ordered_ok (D : List Row) (up : Bool) (hv : validR D = true) (hn : (regCells D).length ≤ 1000000) : PC Tryz.prog 56 [.agg (regRow D), .bool up] (.p (encCells (ordL D up))) := by
  obtain ⟨t1, _, t3⟩ := turn_facts hv
  have c1 := rcells_ok D (small_valid hv) fun _ => hn
  rw [show cellsOf D = regCells D from by unfold cellsOf; rw [if_pos hv]] at c1
  have c2 := rturned_ok (regCells D) hn
  have c3 := rof_ok ((regCells D).map xc) (by rw [List.length_map]; exact hn)
  rw [show ofD ((regCells D).map xc) = .tup [.agg (regRow (turnR D)), .int .i64 (ofE ((regCells D).map xc))] from rfl, turn_err hv] at c3
  have c4 := rcells_ok (turnR D) (small_valid t1) fun _ => by omega
  rw [show cellsOf (turnR D) = regCells (turnR D) from by unfold cellsOf; rw [if_pos t1]] at c4
  have c5 := rturned_ok (regCells (turnR D)) (by omega)
  cases up with
  | false =>
    show PC _ _ _ (.p (encCells (regCells D)))
    generalize regCells D = l at *
    refine pc_of_awp cx (fn := Tryz.f56) (c := _) Tryz.func56 rfl rfl (Nat.le_of_ble_eq_true rfl) ?_
    rw [Tryz.ntmps56]; refine Nav.imp ?_
    refine awp_region cx [] fun K hK => ?_
    simp [push_cast]
    repeat (refine And.intro (by clear hK; intros; first | omega | (simp_all; done) | (simp_all <;> omega)) ?_)
    refine hK _ ?_; clear hK K; refine Nav.imp ?_
    refine awp_region cx [] fun K hK => ?_
    simp [push_cast]
    repeat (refine And.intro (by clear hK; intros; first | omega | (simp_all; done) | (simp_all <;> omega)) ?_)
    refine hK _ ?_; clear hK K; refine Nav.imp ?_
    refine awp_cond (b := true) (by simp [push_cast]) (fun hb => ?_) (fun hb => ?_) <;> (refine Nav.imp ?_)
    · refine awp_region cx [(1, .p (encCells l))] fun K hK => ?_
      simp [push_cast, c1]
      repeat (refine And.intro (by clear hK; intros; first | omega | (simp_all; done) | (simp_all <;> omega)) ?_)
      refine hK _ ?_; clear hK K; refine Nav.imp ?_
      simp [push_cast]
    · simp at hb
  | true =>
    show PC _ _ _ (.p (encCells ((regCells (turnR D)).map xc)))
    generalize (regCells (turnR D)).map xc = m2 at *
    generalize regCells (turnR D) = l2 at *
    generalize (regCells D).map xc = m at *
    generalize regCells D = l at *
    generalize turnR D = W at *
    refine pc_of_awp cx (fn := Tryz.f56) (c := _) Tryz.func56 rfl rfl (Nat.le_of_ble_eq_true rfl) ?_
    rw [Tryz.ntmps56]; refine Nav.imp ?_
    refine awp_region cx [] fun K hK => ?_
    simp [push_cast]
    repeat (refine And.intro (by clear hK; intros; first | omega | (simp_all; done) | (simp_all <;> omega)) ?_)
    refine hK _ ?_; clear hK K; refine Nav.imp ?_
    refine awp_region cx [] fun K hK => ?_
    simp [push_cast]
    repeat (refine And.intro (by clear hK; intros; first | omega | (simp_all; done) | (simp_all <;> omega)) ?_)
    refine hK _ ?_; clear hK K; refine Nav.imp ?_
    refine awp_cond (b := false) (by simp [push_cast]) (fun hb => ?_) (fun hb => ?_) <;> (refine Nav.imp ?_)
    · simp at hb
    · refine awp_region cx [(1, .p (encCells l)), (2, .p (encCells m)), (3, .p (.tup [.agg (regRow W), .int .i64 0]))] fun K hK => ?_
      simp [push_cast, c1, c2, c3]
      repeat (refine And.intro (by clear hK; intros; first | omega | (simp_all; done) | (simp_all <;> omega)) ?_)
      refine hK _ ?_; clear hK K; refine Nav.imp ?_
      refine awp_region cx [(1, .p (encCells l2)), (2, .p (encCells m2))] fun K hK => ?_
      simp [push_cast, c4, c5]
      repeat (refine And.intro (by clear hK; intros; first | omega | (simp_all; done) | (simp_all <;> omega)) ?_)
      refine hK _ ?_; clear hK K; refine Nav.imp ?_
      simp [push_cast]
theorem rloose30_ok (r b : List Row) (hr : bigR r) (hb0 : bigR b) : PC Tryz.prog 18 [.agg (regRow r), .agg (regRow b)] (.p (.agg (regRow (opR fD r b)))) := by
  have c := rsubtract_big r b hr hb0
  refine pc_of_awp cx (fn := Tryz.f18) (c := _) Tryz.func18 rfl rfl (Nat.le_of_ble_eq_true rfl) ?_
  rw [Tryz.ntmps18]; refine Nav.imp ?_
  refine awp_region cx [] fun K hK => ?_
  simp [push_cast]
  repeat (refine And.intro (by clear hK; intros; first | omega | (simp_all; done) | (simp_all <;> omega)) ?_)
  refine hK _ ?_; clear hK K; refine Nav.imp ?_
  refine awp_region cx [(2, .p (.agg (regRow (opR fD r b))))] fun K hK => ?_
  simp [push_cast, c]
  repeat (refine And.intro (by clear hK; intros; first | omega | (simp_all; done) | (simp_all <;> omega)) ?_)
  refine hK _ ?_; clear hK K; refine Nav.imp ?_
  simp [push_cast]
end Go.Proofs.YtknelhiejjdioaaGreat

set_option linter.unusedVariables false
set_option linter.unusedSimpArgs false
set_option maxRecDepth 100000
namespace Go.Proofs.YtknelhiejjdioaaGreat
open Go.Abs

def otl : Option (List Cell) → List (List AV)
  | none => []
  | some l => [[.hs 2 0 l.length]]
def orl : Option (List Cell) → List Cell
  | none => []
  | some l => l
def grpAt (dx dy : Int) (l : List Cell) (k : Nat) : List (List Cell) × Option (List Cell) := (l.take k).foldl (grp dx dy) ([], none)
theorem grpAt_next {dx dy : Int} {l : List Cell} {k : Nat} {c : Cell} (h : l[k]? = some c) : grpAt dx dy l (k + 1) = grp dx dy (grpAt dx dy l k) c := by
  unfold grpAt
  rw [take_get h, List.foldl_append]; rfl
theorem grp_none {dx dy : Int} {P : List (List Cell)} {c : Cell} : grp dx dy (P, none) c = (P, some [c]) := rfl
theorem grp_flat (dx dy : Int) (s : List (List Cell) × Option (List Cell)) (c : Cell) : (allG (grp dx dy s c)).flatten = (allG s).flatten ++ [c] := by
  obtain ⟨P, o⟩ := s
  cases o with
  | none => simp [grp, allG]
  | some l =>
    simp only [grp]
    cases l[l.length - 1]? with
    | none => simp [allG]
    | some e =>
      simp only
      split <;> simp [allG]
theorem grpAt_flat (dx dy : Int) (l : List Cell) : ∀ k, k ≤ l.length → (allG (grpAt dx dy l k)).flatten = l.take k
  | 0, _ => by simp [grpAt, allG]
  | k + 1, h => by
    obtain ⟨c, hc⟩ := getq (show k < l.length by omega)
    rw [grpAt_next hc, grp_flat, grpAt_flat dx dy l k (by omega), take_get hc]
theorem grpAt_inv (dx dy : Int) (l : List Cell) : ∀ k, k ≤ l.length → ((grpAt dx dy l k).2 = none → (grpAt dx dy l k).1 = []) ∧ ∀ m ∈ allG (grpAt dx dy l k), m ≠ []
  | 0, _ => by simp [grpAt, allG]
  | k + 1, h => by
    obtain ⟨c, hc⟩ := getq (show k < l.length by omega)
    obtain ⟨h1, h2⟩ := grpAt_inv dx dy l k (by omega)
    rw [grpAt_next hc]
    generalize grpAt dx dy l k = s at *
    obtain ⟨P, o⟩ := s
    cases o with
    | none =>
      have := h1 rfl
      simp only at this
      subst this
      simp [grp, allG]
    | some q =>
      simp only [grp]
      have h2' : ∀ m ∈ P ++ [q], m ≠ [] := h2
      cases q[q.length - 1]? with
      | none =>
        refine ⟨fun h => (by cases h), fun m hm => ?_⟩
        rcases List.mem_append.1 (show m ∈ (P ++ [q]) ++ [[c]] from hm) with hm | hm
        · exact h2' m hm
        · simp at hm; subst hm; simp
      | some e =>
        simp only
        split
        · refine ⟨fun h => (by cases h), fun m hm => ?_⟩
          rcases List.mem_append.1 (show m ∈ P ++ [q ++ [c]] from hm) with hm | hm
          · exact h2' m (by simp [hm])
          · simp at hm; subst hm; simp
        · refine ⟨fun h => (by cases h), fun m hm => ?_⟩
          rcases List.mem_append.1 (show m ∈ (P ++ [q]) ++ [[c]] from hm) with hm | hm
          · exact h2' m hm
          · simp at hm; subst hm; simp

set_option maxHeartbeats 16000000 in
theorem rspans_ok (r b : List Row) (ud : Bool) (hr : bigR r) (hb0 : bigR b) (hn : (regCells (opR fD r b)).length ≤ 1000000) : PC Tryz.prog 33 [.agg (regRow r), .agg (regRow b), .bool ud] (.p (encSpans (rspans r b ud))) := by
  have hD := opR_valid (f := fD) rfl r b
  have hI := opR_valid (f := fI) rfl r b
  have c1 := rintersect_big r b hr hb0
  have c2 := rloose30_ok r b hr hb0
  have c3 := ordered_ok (opR fD r b) ud hD hn
  have hres := spans_ref r b ud
  have hcon := fun c => contains18_ok (opR fI r b) c (small_valid hI)
  have hcm := fun c => conB_mem hI c
  have hon : ∀ c ∈ ordL (opR fD r b) ud, onG c = true := by
    cases ud with
    | false => exact fun c hc => cells_on hD hc
    | true => exact xc_all fun c hc => cells_on (turn_facts hD).1 hc
  have hll : (ordL (opR fD r b) ud).length ≤ 1000000 := by
    cases ud with
    | false => exact hn
    | true =>
      show ((regCells (turnR (opR fD r b))).map xc).length ≤ _
      rw [List.length_map, (turn_facts hD).2.2]; exact hn
  have hdx : (dxB ud = 1 ∧ dyB ud = 0) ∨ (dxB ud = 0 ∧ dyB ud = 1) := by cases ud <;> simp [dxB, dyB]
  generalize rspans r b ud = W at *
  generalize ordL (opR fD r b) ud = l at *
  generalize hDX : dxB ud = dx at *
  generalize hDY : dyB ud = dy at *
  generalize opR fD r b = D at *
  generalize opR fI r b = H at *
  clear hn
  refine pc_of_awp cx (fn := Tryz.f33) (c := _) Tryz.func33 rfl rfl (Nat.le_of_ble_eq_true rfl) ?_
  rw [Tryz.ntmps33]; refine Nav.imp ?_
  refine awp_region cx [] fun K hK => ?_
  simp [push_cast]
  repeat (refine And.intro (by clear hK; intros; first | omega | (simp_all; done) | (simp_all <;> omega)) ?_)
  refine hK _ ?_; clear hK K; refine Nav.imp ?_
  refine awp_region cx [] fun K hK => ?_
  simp [push_cast]
  repeat (refine And.intro (by clear hK; intros; first | omega | (simp_all; done) | (simp_all <;> omega)) ?_)
  refine hK _ ?_; clear hK K; refine Nav.imp ?_
  refine awp_region cx [] fun K hK => ?_
  simp [push_cast]
  repeat (refine And.intro (by clear hK; intros; first | omega | (simp_all; done) | (simp_all <;> omega)) ?_)
  refine hK _ ?_; clear hK K; refine Nav.imp ?_
  apply cut_
  · intro key
    refine awp_cond (b := ud) (by simp [push_cast]) (fun hb => ?_) (fun hb => ?_) <;> (refine Nav.imp ?_)
    · have hX : dx = 0 := by rw [← hDX, hb]; rfl
      have hY : dy = 1 := by rw [← hDY, hb]; rfl
      refine awp_region cx [] fun K hK => ?_
      simp [push_cast]
      repeat (refine And.intro (by clear hK; intros; first | omega | (simp_all; done) | (simp_all <;> omega)) ?_)
      refine hK _ ?_; clear hK K; refine Nav.imp ?_
      refine awp_weak (s' := ⟨128, [(2, .d (.bool ud)), (3, .ptr 0 0 0), (4, .ptr 1 0 0), (7, .d (.int .i64 dx)), (8, .d (.int .i64 dy))], [(0, some ⟨24, 1, [(regRow r).map .d]⟩), (1, some ⟨24, 1, [(regRow b).map .d]⟩)], 2⟩) ?_ key.h
      refine weak_of [(0, some 0), (1, some 1)] rfl (by simp [upT, up, upL, push_cast, hX, hY]) (by simp [upH, upR, upL, up, push_cast, hX, hY]) (by simp [namesOk, push_cast]) (by simp [olds])
    · have hX : dx = 1 := by rw [← hDX, hb]; rfl
      have hY : dy = 0 := by rw [← hDY, hb]; rfl
      refine awp_weak (s' := ⟨128, [(2, .d (.bool ud)), (3, .ptr 0 0 0), (4, .ptr 1 0 0), (7, .d (.int .i64 dx)), (8, .d (.int .i64 dy))], [(0, some ⟨24, 1, [(regRow r).map .d]⟩), (1, some ⟨24, 1, [(regRow b).map .d]⟩)], 2⟩) ?_ key.h
      refine weak_of [(0, some 0), (1, some 1)] rfl (by simp [upT, up, upL, push_cast, hX, hY]) (by simp [upH, upR, upL, up, push_cast, hX, hY]) (by simp [namesOk, push_cast]) (by simp [olds])
  · clear hDX hDY
    refine awp_region cx [(2, .p (.agg (regRow H)))] fun K hK => ?_
    simp [push_cast, c1]
    repeat (refine And.intro (by clear hK; intros; first | omega | (simp_all; done) | (simp_all <;> omega)) ?_)
    refine hK _ ?_; clear hK K; refine Nav.imp ?_
    refine awp_region cx [] fun K hK => ?_
    simp [push_cast]
    repeat (refine And.intro (by clear hK; intros; first | omega | (simp_all; done) | (simp_all <;> omega)) ?_)
    refine hK _ ?_; clear hK K; refine Nav.imp ?_
    refine awp_region cx [(2, .p (.agg (regRow D))), (4, .p (encCells l))] fun K hK => ?_
    simp [push_cast, c2, c3]
    repeat (refine And.intro (by clear hK; intros; first | omega | (simp_all; done) | (simp_all <;> omega)) ?_)
    refine hK _ ?_; clear hK K; refine Nav.imp ?_
    refine awp_loop (β := Nat × List (List Cell) × Option (List Cell)) (fun s => ⟨128, [(7, .d (.int .i64 dx)), (8, .d (.int .i64 dy)), (9, .ptr 0 0 0), (10, .hs 1 0 (s.2.1.length + (otl s.2.2).length)), (11, .nl), (28, .d (encCells l)), (29, .d (.int .i64 l.length)), (30, .d (.int .i64 s.1))], [(0, some ⟨24, 1, [(regRow H).map .d]⟩), (1, some ⟨45, 1, dr (s.2.1.map fun l => [encCells l]) ++ otl s.2.2⟩), (2, some ⟨49, 2, dr ((orl s.2.2).map Cell.row)⟩)], 3⟩) (fun s => s.1 ≤ l.length ∧ (s.2.1, s.2.2) = grpAt dx dy l s.1) (fun s => l.length - s.1) (0, [], none) ?_ ⟨Nat.zero_le _, rfl⟩ ?_
    · refine weak_of [(0, some 5), (1, none), (2, none)] rfl (by simp [upT, up, upL, push_cast, otl, orl]) (by simp [upH, upR, upL, up, push_cast, otl, orl]) (by simp [namesOk, push_cast]) (by simp [olds])
    · rintro ⟨k, P, o⟩ ⟨hk, hS⟩
      simp only at hk hS
      obtain ⟨hi1, hi2⟩ := grpAt_inv dx dy l k hk
      have hfl := grpAt_flat dx dy l k hk
      rw [← hS] at hi1 hi2 hfl
      have hnum := flat_num hi2
      rw [hfl, List.length_take] at hnum
      refine Nav.imp ?_
      refine awp_region cx [] fun K hK => ?_
      simp [push_cast, otl, orl]
      repeat (refine And.intro (by clear hK; intros; first | omega | (simp_all; done) | (simp_all <;> omega)) ?_)
      refine hK _ ?_; clear hK K; refine Nav.imp ?_
      refine awp_cond (b := decide ((k : Int) < l.length)) (by simp [push_cast]) (fun hb => ?_) (fun hb => ?_) <;> (refine Nav.imp ?_)
      · have hlt : k < l.length := by simpa using hb
        obtain ⟨c, hc⟩ := getq hlt
        have e0 := wrap_i64 (n := (k : Int) + 1) (by omega) (by omega)
        have hnx := grpAt_next (dx := dx) (dy := dy) hc
        rw [← hS] at hnx
        have hcb := onG_bd (hon c (List.mem_of_getElem? hc))
        obtain ⟨x, y⟩ := c
        simp only at hcb
        rcases o with _ | q
        · have hP := hi1 rfl
          simp only at hP
          subst hP
          have e1 := wrap_i64 (n := -1) (by omega) (by omega)
          refine awp_region cx [] fun K hK => ?_
          simp [push_cast, hc, otl, orl, Cell.row]
          repeat (refine And.intro (by clear hK; intros; first | omega | (simp_all; done) | (simp_all <;> omega)) ?_)
          refine hK _ ?_; clear hK K; refine Nav.imp ?_
          refine awp_region cx [] fun K hK => ?_
          simp [push_cast, otl, e1]
          repeat (refine And.intro (by clear hK; intros; first | omega | (simp_all; done) | (simp_all <;> omega)) ?_)
          refine hK _ ?_; clear hK K; refine Nav.imp ?_
          refine awp_region cx [] fun K hK => ?_
          simp [push_cast]
          repeat (refine And.intro (by clear hK; intros; first | omega | (simp_all; done) | (simp_all <;> omega)) ?_)
          refine hK _ ?_; clear hK K; refine Nav.imp ?_
          refine awp_cond (b := false) (by simp [push_cast]) (fun hb => ?_) (fun hb => ?_) <;> (refine Nav.imp ?_)
          · simp at hb
          · refine awp_region cx [] fun K hK => ?_
            simp [push_cast, Cell.row]
            repeat (refine And.intro (by clear hK; intros; first | omega | (simp_all; done) | (simp_all <;> omega)) ?_)
            refine hK _ ?_; clear hK K; refine Nav.imp ?_
            refine awp_region cx [] fun K hK => ?_
            simp [push_cast, e0]
            repeat (refine And.intro (by clear hK; intros; first | omega | (simp_all; done) | (simp_all <;> omega)) ?_)
            refine hK _ ?_; clear hK K; refine Nav.imp ?_
            refine ⟨(k + 1, [], some [⟨x, y⟩]), ⟨hlt, hnx.symm⟩, by simp only; omega, ?_⟩
            refine weak_of [(0, some 0), (1, some 18), (2, some 16)] rfl (by simp [upT, up, upL, push_cast, otl, orl, Cell.row]) (by simp [upH, upR, upL, up, push_cast, otl, orl, Cell.row]) (by simp [namesOk, push_cast]) (by simp [olds])
        · have hqne : q ≠ [] := hi2 q (by simp [allG])
          have hql0 : 0 < q.length := List.length_pos_iff.2 hqne
          have hqle : q.length ≤ 1000000 := by
            have h1 := congrArg List.length hfl
            simp [allG] at h1
            omega
          have hPl : P.length + 1 ≤ 1000000 := by simp [allG] at hnum; omega
          obtain ⟨e, he⟩ := getq (show q.length - 1 < q.length by omega)
          have heon : onG e = true := by
            have h1 : e ∈ l.take k := by rw [← hfl]; exact List.mem_flatten.2 ⟨q, by simp [allG], List.mem_of_getElem? he⟩
            exact hon e (List.mem_of_mem_take h1)
          have heb := onG_bd heon
          simp only [grp, he] at hnx
          clear hi1 hi2 hfl hS heon hnum
          obtain ⟨ex, ey⟩ := e
          simp only at heb hnx
          have hP24 : (P.length + 1 + 1) * 24 ≤ 140737488355328 := by omega
          have hq16 : (q.length + 1) * 16 ≤ 140737488355328 := by omega
          have hget : (dr (P.map fun l => [encCells l]) ++ [[AV.hs 2 0 q.length]])[P.length]? = some [AV.hs 2 0 q.length] := by
            rw [List.getElem?_append_right (by simp [dr])]; simp [dr]
          have hset : ∀ v, (dr (P.map fun l => [encCells l]) ++ [[AV.hs 2 0 q.length]]).set P.length v = dr (P.map fun l => [encCells l]) ++ [v] := fun v => by
            rw [List.set_append_right _ _ (by simp [dr])]; simp [dr]
          have e6 := wrap_i64 (n := (P.length : Int)) (by omega) (by omega)
          have e7 := wrap_i64 (n := (q.length : Int) - 1) (by omega) (by omega)
          have e8 : ((q.length : Int) - 1).toNat = q.length - 1 := by omega
          have e9 : (0 : Int) ≤ (q.length : Int) - 1 := by omega
          have e10 : (q.length : Int) - 1 < (q.length : Int) := by omega
          have w1 := wrap_i64 (n := ex + dx) (by omega) (by omega)
          have w2 := wrap_i64 (n := ey + dy) (by omega) (by omega)
          refine awp_region cx [] fun K hK => ?_
          simp [push_cast, hc, otl, orl, Cell.row]
          repeat (refine And.intro (by clear hK; intros; first | omega | (simp_all; done) | (simp_all <;> omega)) ?_)
          refine hK _ ?_; clear hK K; refine Nav.imp ?_
          refine awp_region cx [] fun K hK => ?_
          simp [push_cast, otl, e6]
          repeat (refine And.intro (by clear hK; intros; first | omega | (simp_all; done) | (simp_all <;> omega)) ?_)
          refine hK _ ?_; clear hK K; refine Nav.imp ?_
          refine awp_region cx [] fun K hK => ?_
          simp [push_cast]
          repeat (refine And.intro (by clear hK; intros; first | omega | (simp_all; done) | (simp_all <;> omega)) ?_)
          refine hK _ ?_; clear hK K; refine Nav.imp ?_
          refine awp_cond (b := true) (by simp [push_cast]) (fun hb => ?_) (fun hb => ?_) <;> (refine Nav.imp ?_)
          · refine awp_region_draw cx mixed [] fun K hK => ?_
            simp [push_cast, hget, he, e7, e8, e9, e10, Cell.row]
            repeat (refine And.intro (by clear hK; intros; first | omega | (simp_all; done) | (simp_all <;> omega)) ?_)
            refine hK _ _ (by kernel_rfl) ?_; clear hK K; refine Nav.imp ?_
            by_cases hm : ex + dx = x ∧ ey + dy = y
            · rw [if_pos hm] at hnx
              obtain ⟨m1, m2⟩ := hm
              have w3 := wrap_i64 (n := x) (by omega) (by omega)
              have w4 := wrap_i64 (n := y) (by omega) (by omega)
              refine awp_region cx [] fun K hK => ?_
              simp [push_cast, w1, w2, m1, m2, w3, w4]
              repeat (refine And.intro (by clear hK; intros; first | omega | (simp_all; done) | (simp_all <;> omega)) ?_)
              refine hK _ ?_; clear hK K; refine Nav.imp ?_
              refine awp_cond (b := true) (by simp [push_cast]) (fun hb => ?_) (fun hb => ?_) <;> (refine Nav.imp ?_)
              · refine awp_region_draw cx mixed [] fun K hK => ?_
                simp [push_cast, hget, hset, hq16, Cell.row]
                repeat (refine And.intro (by clear hK; intros; first | omega | (simp_all; done) | (simp_all <;> omega)) ?_)
                refine hK _ _ (by kernel_rfl) ?_; clear hK K; refine Nav.imp ?_
                refine awp_region cx [] fun K hK => ?_
                simp [push_cast, e0]
                repeat (refine And.intro (by clear hK; intros; first | omega | (simp_all; done) | (simp_all <;> omega)) ?_)
                refine hK _ ?_; clear hK K; refine Nav.imp ?_
                refine ⟨(k + 1, P, some (q ++ [⟨x, y⟩])), ⟨hlt, hnx.symm⟩, by simp only; omega, ?_⟩
                refine weak_of [(0, some 0), (1, some 1), (2, some 52)] rfl (by simp [upT, up, upL, push_cast, otl, orl, Cell.row]) (by simp [upH, upR, upL, up, push_cast, otl, orl, Cell.row]) (by simp [namesOk, push_cast]) (by simp [olds])
              · simp at hb
            · rw [if_neg hm] at hnx
              obtain ⟨A, hA⟩ : ∃ A, A = P ++ [q] := ⟨_, rfl⟩
              have hfold : dr (P.map fun l => [encCells l]) ++ [[AV.d (.sl (q.map Cell.row))]] = dr (A.map fun l => [encCells l]) := by rw [hA]; simp [dr]
              have hAl : P.length + 1 = A.length := by rw [hA]; simp
              rw [← hA] at hnx
              apply cut_
              · intro key
                by_cases m1 : ex + dx = x
                · have m2 : ¬ ey + dy = y := fun h => hm ⟨m1, h⟩
                  have w3 := wrap_i64 (n := x) (by omega) (by omega)
                  refine awp_region cx [] fun K hK => ?_
                  simp [push_cast, w1, w2, w3, m1, m2]
                  repeat (refine And.intro (by clear hK; intros; first | omega | (simp_all; done) | (simp_all <;> omega)) ?_)
                  refine hK _ ?_; clear hK K; refine Nav.imp ?_
                  refine awp_cond (b := false) (by simp [push_cast, w3, m2]) (fun hb => ?_) (fun hb => ?_) <;> (refine Nav.imp ?_)
                  · simp at hb
                  · refine awp_weak (s' := ⟨128, [(7, .d (.int .i64 dx)), (8, .d (.int .i64 dy)), (9, .ptr 0 0 0), (10, .hs 1 0 (P.length + 1)), (11, .nl), (13, .ptr 3 0 0), (28, .d (encCells l)), (29, .d (.int .i64 l.length)), (30, .d (.int .i64 k))], [(0, some ⟨24, 1, [(regRow H).map .d]⟩), (1, some ⟨45, 1, dr (P.map fun l => [encCells l]) ++ [[.hs 2 0 q.length]]⟩), (2, some ⟨49, 2, dr (q.map Cell.row)⟩), (3, some ⟨49, 2, [[.d (.int .i64 x), .d (.int .i64 y)]]⟩)], 4⟩) ?_ key.h
                    refine weak_of [(0, some 0), (1, some 1), (2, some 2), (3, some 6)] rfl (by simp [upT, up, upL, push_cast, upR_app]) (by simp [upH, upR, upL, up, push_cast, upR_app]) (by simp [namesOk, push_cast]) (by simp [olds])
                · refine awp_region cx [] fun K hK => ?_
                  simp [push_cast, w1, w2, m1]
                  repeat (refine And.intro (by clear hK; intros; first | omega | (simp_all; done) | (simp_all <;> omega)) ?_)
                  refine hK _ ?_; clear hK K; refine Nav.imp ?_
                  refine awp_cond (b := false) (by simp [push_cast, m1]) (fun hb => ?_) (fun hb => ?_) <;> (refine Nav.imp ?_)
                  · simp at hb
                  · refine awp_weak (s' := ⟨128, [(7, .d (.int .i64 dx)), (8, .d (.int .i64 dy)), (9, .ptr 0 0 0), (10, .hs 1 0 (P.length + 1)), (11, .nl), (13, .ptr 3 0 0), (28, .d (encCells l)), (29, .d (.int .i64 l.length)), (30, .d (.int .i64 k))], [(0, some ⟨24, 1, [(regRow H).map .d]⟩), (1, some ⟨45, 1, dr (P.map fun l => [encCells l]) ++ [[.hs 2 0 q.length]]⟩), (2, some ⟨49, 2, dr (q.map Cell.row)⟩), (3, some ⟨49, 2, [[.d (.int .i64 x), .d (.int .i64 y)]]⟩)], 4⟩) ?_ key.h
                    refine weak_of [(0, some 0), (1, some 1), (2, some 2), (3, some 6)] rfl (by simp [upT, up, upL, push_cast, upR_app]) (by simp [upH, upR, upL, up, push_cast, upR_app]) (by simp [namesOk, push_cast]) (by simp [olds])
              · refine awp_freeze 2 (q.map Cell.row) rfl (by simp [push_cast, hfold]) fun K hK => ?_
                simp [push_cast, St.fz, fzT, fzH, fzO, fz, fzL, fzR, fzR_dr, fzR_app, fzR_set, fzL_map, hfold]
                refine hK _ ?_; clear hK K; refine Nav.imp ?_
                rw [hAl] at hP24 ⊢
                clear hA hfold hget hset
                refine awp_region cx [] fun K hK => ?_
                simp [push_cast, Cell.row, hP24]
                repeat (refine And.intro (by clear hK; intros; first | omega | (simp_all; done) | (simp_all <;> omega)) ?_)
                refine hK _ ?_; clear hK K; refine Nav.imp ?_
                refine awp_region cx [] fun K hK => ?_
                simp [push_cast, e0]
                repeat (refine And.intro (by clear hK; intros; first | omega | (simp_all; done) | (simp_all <;> omega)) ?_)
                refine hK _ ?_; clear hK K; refine Nav.imp ?_
                refine ⟨(k + 1, A, some [⟨x, y⟩]), ⟨hlt, hnx.symm⟩, by simp only; omega, ?_⟩
                refine weak_of [(0, some 0), (1, some 8), (2, some 6)] rfl (by simp [upT, up, upL, push_cast, otl, orl, Cell.row]) (by simp [upH, upR, upL, up, push_cast, otl, orl, Cell.row]) (by simp [namesOk, push_cast]) (by simp [olds])
          · simp at hb
      · have hke : k = l.length := by simp at hb; omega
        subst hke
        have hfin : grpAt dx dy l l.length = l.foldl (grp dx dy) ([], none) := by unfold grpAt; rw [List.take_length]
        rw [hfin] at hS
        rw [← hS] at hres
        have hAon : ∀ m ∈ allG (P, o), ∀ c ∈ m, onG c = true := fun m hm c hc => by
          have h1 : c ∈ l := by
            rw [List.take_length] at hfl
            rw [← hfl]; exact List.mem_flatten.2 ⟨m, hm, hc⟩
          exact hon c h1
        have hAlen : ∀ m ∈ allG (P, o), m.length ≤ 1000000 := fun m hm => by
          rw [List.take_length] at hfl
          have h1 := (List.sublist_flatten_of_mem hm).length_le
          rw [hfl] at h1; omega
        have hnum2 : (allG (P, o)).length ≤ 1000000 := by omega
        obtain ⟨A, hA⟩ : ∃ A, A = allG (P, o) := ⟨_, rfl⟩
        rw [← hA] at hres hAon hAlen hnum2 hi2
        clear hS hfl hnum hfin
        apply cut_
        · intro key
          rcases o with _ | q
          · have hP := hi1 rfl
            simp only at hP
            subst hP
            simp only [allG, Option.toList, List.append_nil] at hA
            simp only [otl, orl]
            refine awp_freeze 2 ([] : List (List Abs.D)) rfl (by simp [push_cast]) fun K hK => ?_
            simp [push_cast, St.fz, fzT, fzH, fzO, fz, fzL, fzR, fzR_dr, fzR_app, fzR_set, fzL_map]
            refine hK _ ?_; clear hK K; refine Nav.imp ?_
            refine awp_freeze 1 ([] : List (List Abs.D)) rfl (by simp [push_cast]) fun K hK => ?_
            simp [push_cast, St.fz, fzT, fzH, fzO, fz, fzL, fzR, fzR_dr, fzR_app, fzR_set, fzL_map]
            refine hK _ ?_; clear hK K; refine Nav.imp ?_
            refine awp_weak (s' := ⟨128, [(7, .d (.int .i64 dx)), (8, .d (.int .i64 dy)), (9, .ptr 0 0 0), (10, .d (encSpans A)), (11, .nl)], [(0, some ⟨24, 1, [(regRow H).map .d]⟩)], 1⟩) ?_ key.h
            refine weak_of [(0, some 0)] rfl (by simp [upT, up, upL, push_cast, hA]) (by simp [upH, upR, upL, up, push_cast, hA]) (by simp [namesOk, push_cast]) (by simp [olds])
          · simp only [otl, orl]
            have hfold : dr (P.map fun l => [encCells l]) ++ [[AV.d (.sl (q.map Cell.row))]] = dr (A.map fun l => [encCells l]) := by rw [hA]; simp [dr, allG]
            have hAl : P.length + 1 = A.length := by rw [hA]; simp [allG]
            refine awp_freeze 2 (q.map Cell.row) rfl (by simp [push_cast, hfold]) fun K hK => ?_
            simp [push_cast, St.fz, fzT, fzH, fzO, fz, fzL, fzR, fzR_dr, fzR_app, fzR_set, fzL_map, hfold]
            refine hK _ ?_; clear hK K; refine Nav.imp ?_
            rw [hAl]
            clear hA hfold
            have ht : List.take A.length (A.map fun l => [encCells l]) = A.map fun l => [encCells l] := List.take_of_length_le (by simp)
            refine awp_freeze 1 (A.map fun l => [encCells l]) rfl (by simp [push_cast, ht]) fun K hK => ?_
            simp [push_cast, St.fz, fzT, fzH, fzO, fz, fzL, fzR, fzR_dr, fzR_app, fzR_set, fzL_map, ht]
            refine hK _ ?_; clear hK K; refine Nav.imp ?_
            refine awp_weak (s' := ⟨128, [(7, .d (.int .i64 dx)), (8, .d (.int .i64 dy)), (9, .ptr 0 0 0), (10, .d (encSpans A)), (11, .nl)], [(0, some ⟨24, 1, [(regRow H).map .d]⟩)], 1⟩) ?_ key.h
            refine weak_of [(0, some 0)] rfl (by simp [upT, up, upL, push_cast]) (by simp [upH, upR, upL, up, push_cast]) (by simp [namesOk, push_cast]) (by simp [olds])
        · clear hA hi1 P o
          have hfull : (A.take A.length).filter (heldB H dx dy) = W := by rw [List.take_length]; exact hres
          refine awp_region cx [] fun K hK => ?_
          simp [push_cast]
          repeat (refine And.intro (by clear hK; intros; first | omega | (simp_all; done) | (simp_all <;> omega)) ?_)
          refine hK _ ?_; clear hK K; refine Nav.imp ?_
          refine awp_loop (β := Nat × List (List Cell)) (fun s => ⟨128, [(7, .d (.int .i64 dx)), (8, .d (.int .i64 dy)), (9, .ptr 0 0 0), (11, .hs 1 0 s.2.length), (83, .d (encSpans A)), (84, .d (.int .i64 A.length)), (85, .d (.int .i64 s.1))], [(0, some ⟨24, 1, [(regRow H).map .d]⟩), (1, some ⟨45, 1, dr (s.2.map fun l => [encCells l])⟩)], 2⟩) (fun s => s.1 ≤ A.length ∧ s.2 = (A.take s.1).filter (heldB H dx dy)) (fun s => A.length - s.1) (0, []) ?_ ⟨Nat.zero_le _, by simp⟩ ?_
          · refine weak_of [(0, some 0), (1, none)] rfl (by simp [upT, up, upL, push_cast]) (by simp [upH, upR, upL, up, push_cast]) (by simp [namesOk, push_cast]) (by simp [olds])
          · rintro ⟨k, X⟩ ⟨hk, hX⟩
            simp only at hk hX
            have hXl : X.length ≤ 1000000 := by
              rw [hX]
              refine Nat.le_trans (List.length_filter_le _ _) ?_
              rw [List.length_take]; omega
            refine Nav.imp ?_
            refine awp_region cx [] fun K hK => ?_
            simp [push_cast]
            repeat (refine And.intro (by clear hK; intros; first | omega | (simp_all; done) | (simp_all <;> omega)) ?_)
            refine hK _ ?_; clear hK K; refine Nav.imp ?_
            refine awp_cond (b := decide ((k : Int) < A.length)) (by simp [push_cast]) (fun hb => ?_) (fun hb => ?_) <;> (refine Nav.imp ?_)
            · have hlt : k < A.length := by simpa using hb
              obtain ⟨m, hm⟩ := getq hlt
              have hmA := List.mem_of_getElem? hm
              have e0 := wrap_i64 (n := (k : Int) + 1) (by omega) (by omega)
              have hm0 : 0 < m.length := List.length_pos_iff.2 (hi2 m hmA)
              have hml := hAlen m hmA
              obtain ⟨c, g0⟩ := getq hm0
              obtain ⟨e, g1⟩ := getq (show m.length - 1 < m.length by omega)
              have o0 := onG_bd (hAon m hmA c (List.mem_of_getElem? g0))
              have o1 := onG_bd (hAon m hmA e (List.mem_of_getElem? g1))
              have hX1 : (A.take (k + 1)).filter (heldB H dx dy) = X ++ (if heldB H dx dy m then [m] else []) := by
                rw [take_get hm, List.filter_append, ← hX]
                congr 1
                rw [List.filter_cons]; rfl
              have hheld : heldB H dx dy m = (conB H ⟨c.x - dx, c.y - dy⟩ && conB H ⟨e.x + dx, e.y + dy⟩) := by
                unfold heldB
                rw [g0, g1, hcm, hcm]
              rw [hheld] at hX1
              clear hheld hmA
              obtain ⟨cx', cy'⟩ := c
              obtain ⟨ex, ey⟩ := e
              simp only at o0 o1 hX1
              have w1 := wrap_i64 (n := cx' - dx) (by omega) (by omega)
              have w2 := wrap_i64 (n := cy' - dy) (by omega) (by omega)
              have w3 := wrap_i64 (n := ex + dx) (by omega) (by omega)
              have w4 := wrap_i64 (n := ey + dy) (by omega) (by omega)
              have z1 := hcon ⟨cx' - dx, cy' - dy⟩
              have z2 := hcon ⟨ex + dx, ey + dy⟩
              generalize conB H ⟨cx' - dx, cy' - dy⟩ = v1 at *
              generalize conB H ⟨ex + dx, ey + dy⟩ = v2 at *
              have e7 := wrap_i64 (n := (m.length : Int) - 1) (by omega) (by omega)
              have e8 : ((m.length : Int) - 1).toNat = m.length - 1 := by omega
              have e9 : (0 : Int) ≤ (m.length : Int) - 1 := by omega
              have e10 : (m.length : Int) - 1 < (m.length : Int) := by omega
              have h24 : (X.length + 1) * 24 ≤ 140737488355328 := by omega
              refine awp_region cx [] fun K hK => ?_
              simp [push_cast, hm]
              repeat (refine And.intro (by clear hK; intros; first | omega | (simp_all; done) | (simp_all <;> omega)) ?_)
              refine hK _ ?_; clear hK K; refine Nav.imp ?_
              refine awp_region_draw cx mixed [] fun K hK => ?_
              simp [push_cast, g0, g1, e7, e8, e9, e10, Cell.row]
              repeat (refine And.intro (by clear hK; intros; first | omega | (simp_all; done) | (simp_all <;> omega)) ?_)
              refine hK _ _ (by kernel_rfl) ?_; clear hK K; refine Nav.imp ?_
              cases v1 with
              | false =>
                rw [Bool.false_and, if_neg (by simp), List.append_nil] at hX1
                refine awp_region cx [(10, .p (.bool false)), (22, .skip)] fun K hK => ?_
                simp [push_cast, z1, w1, w2, Cell.row]
                repeat (refine And.intro (by clear hK; intros; first | omega | (simp_all; done) | (simp_all <;> omega)) ?_)
                refine hK _ ?_; clear hK K; refine Nav.imp ?_
                refine awp_cond (b := false) (by simp [push_cast]) (fun hb => ?_) (fun hb => ?_) <;> (refine Nav.imp ?_)
                · simp at hb
                · refine awp_region cx [] fun K hK => ?_
                  simp [push_cast, e0]
                  repeat (refine And.intro (by clear hK; intros; first | omega | (simp_all; done) | (simp_all <;> omega)) ?_)
                  refine hK _ ?_; clear hK K; refine Nav.imp ?_
                  refine ⟨(k + 1, X), ⟨hlt, hX1.symm⟩, by simp only; omega, ?_⟩
                  refine weak_of [(0, some 0), (1, some 1)] rfl (by simp [upT, up, upL, push_cast]) (by simp [upH, upR, upL, up, push_cast]) (by simp [namesOk, push_cast]) (by simp [olds])
              | true =>
                rw [Bool.true_and] at hX1
                refine awp_region cx [(10, .p (.bool true)), (22, .p (.bool v2))] fun K hK => ?_
                simp [push_cast, z1, z2, w1, w2, w3, w4, Cell.row]
                repeat (refine And.intro (by clear hK; intros; first | omega | (simp_all; done) | (simp_all <;> omega)) ?_)
                refine hK _ ?_; clear hK K; refine Nav.imp ?_
                cases v2 with
                | false =>
                  rw [if_neg (by simp), List.append_nil] at hX1
                  refine awp_cond (b := false) (by simp [push_cast]) (fun hb => ?_) (fun hb => ?_) <;> (refine Nav.imp ?_)
                  · simp at hb
                  · refine awp_region cx [] fun K hK => ?_
                    simp [push_cast, e0]
                    repeat (refine And.intro (by clear hK; intros; first | omega | (simp_all; done) | (simp_all <;> omega)) ?_)
                    refine hK _ ?_; clear hK K; refine Nav.imp ?_
                    refine ⟨(k + 1, X), ⟨hlt, hX1.symm⟩, by simp only; omega, ?_⟩
                    refine weak_of [(0, some 0), (1, some 1)] rfl (by simp [upT, up, upL, push_cast]) (by simp [upH, upR, upL, up, push_cast]) (by simp [namesOk, push_cast]) (by simp [olds])
                | true =>
                  rw [if_pos (by simp)] at hX1
                  refine awp_cond (b := true) (by simp [push_cast]) (fun hb => ?_) (fun hb => ?_) <;> (refine Nav.imp ?_)
                  · refine awp_region cx [] fun K hK => ?_
                    simp [push_cast, h24]
                    repeat (refine And.intro (by clear hK; intros; first | omega | (simp_all; done) | (simp_all <;> omega)) ?_)
                    refine hK _ ?_; clear hK K; refine Nav.imp ?_
                    refine awp_region cx [] fun K hK => ?_
                    simp [push_cast, e0]
                    repeat (refine And.intro (by clear hK; intros; first | omega | (simp_all; done) | (simp_all <;> omega)) ?_)
                    refine hK _ ?_; clear hK K; refine Nav.imp ?_
                    refine ⟨(k + 1, X ++ [m]), ⟨hlt, hX1.symm⟩, by simp only; omega, ?_⟩
                    refine weak_of [(0, some 0), (1, some 46)] rfl (by simp [upT, up, upL, push_cast]) (by simp [upH, upR, upL, up, push_cast]) (by simp [namesOk, push_cast]) (by simp [olds])
                  · simp at hb
            · have hke : k = A.length := by simp at hb; omega
              subst hke
              rw [hfull] at hX
              subst hX
              have ht : List.take X.length (X.map fun l => [encCells l]) = X.map fun l => [encCells l] := List.take_of_length_le (by simp)
              refine awp_region cx [] fun K hK => ?_
              simp [push_cast]
              repeat (refine And.intro (by clear hK; intros; first | omega | (simp_all; done) | (simp_all <;> omega)) ?_)
              refine hK _ ?_; clear hK K; refine Nav.imp ?_
              simp [push_cast, ht]
end Go.Proofs.YtknelhiejjdioaaGreat

set_option linter.unusedVariables false
set_option linter.unusedSimpArgs false
set_option maxRecDepth 100000
namespace Go.Proofs.YtknelhiejjdioaaGreat
open Go.Abs

theorem rspans_cover (r b : List Row) (ud : Bool) : coverR (rspans r b ud) = anchR r b ud := by
  unfold rspans anchR
  split
  · rfl
  · exact aw_c0
theorem rspans_len {r b : List Row} (hn : validR r = true → (regCells r).length ≤ 1000000) (ud : Bool) : (rspans r b ud).length ≤ 1000000 ∧ (rspans r b ud).flatten.length ≤ 1000000 := by
  unfold rspans
  split
  · rename_i h
    simp only [Bool.and_eq_true] at h
    obtain ⟨_, _, h1, h2⟩ := spansU_facts h.1 h.2 ud
    have := hn h.1
    omega
  · simp
theorem loose_len {r b : List Row} (hn : validR r = true → (regCells r).length ≤ 1000000) : (regCells (opR fD r b)).length ≤ 1000000 := by
  cases hv : (validR r && validR b) with
  | false => rw [opR_bad2 hv]; simp [regCells]
  | true =>
    simp only [Bool.and_eq_true] at hv
    have h1 := (opR_facts (f := fD) rfl hv.1 hv.2).1
    exact Nat.le_trans (cells_le h1 hv.1 fun c hc => ((opD_iff hv.1 hv.2 c).1 hc).1) (hn hv.1)
theorem ranch_ok (r b : List Row) (ud : Bool) (hr : fewC r) (hb0 : fewC b) : PC Tryz.prog 19 [.agg (regRow r), .agg (regRow b), .bool ud] (.p (.agg (regRow (anchR r b ud)))) := by
  obtain ⟨hL, hn⟩ := rspans_len (b := b) hr.2 ud
  have c1 := rspans_ok r b ud hr.1 hb0.1 (loose_len hr.2)
  have c2 := rof_ok (rspans r b ud).flatten hn
  rw [show ofD (rspans r b ud).flatten = .tup [.agg (regRow (coverR (rspans r b ud))), .int .i64 (ofE (rspans r b ud).flatten)] from rfl, rspans_cover] at c2
  generalize anchR r b ud = W at *
  generalize rspans r b ud = L at *
  have htake : ∀ k l, L[k]? = some l → (L.take (k + 1)).flatten = (L.take k).flatten ++ l := fun k l h => by rw [take_get h]; simp
  have hall : (L.take L.length).flatten = L.flatten := by rw [List.take_length]
  have hlen : ∀ k l, L[k]? = some l → ((L.take k).flatten ++ l).length ≤ 1000000 := fun k l h => by
    rw [← htake k l h]
    refine Nat.le_trans ?_ hn
    have : L.flatten = (L.take (k + 1)).flatten ++ (L.drop (k + 1)).flatten := by rw [← List.flatten_append, List.take_append_drop]
    rw [this, List.length_append]; omega
  generalize ofE L.flatten = er at *
  refine pc_of_awp cx (fn := Tryz.f19) (c := _) Tryz.func19 rfl rfl (Nat.le_of_ble_eq_true rfl) ?_
  rw [Tryz.ntmps19]; refine Nav.imp ?_
  refine awp_region cx [] fun K hK => ?_
  simp [push_cast]
  repeat (refine And.intro (by clear hK; intros; first | omega | (simp_all; done) | (simp_all <;> omega)) ?_)
  refine hK _ ?_; clear hK K; refine Nav.imp ?_
  refine awp_region cx [] fun K hK => ?_
  simp [push_cast]
  repeat (refine And.intro (by clear hK; intros; first | omega | (simp_all; done) | (simp_all <;> omega)) ?_)
  refine hK _ ?_; clear hK K; refine Nav.imp ?_
  refine awp_region cx [(3, .p (encSpans L))] fun K hK => ?_
  simp [push_cast, c1]
  repeat (refine And.intro (by clear hK; intros; first | omega | (simp_all; done) | (simp_all <;> omega)) ?_)
  refine hK _ ?_; clear hK K; refine Nav.imp ?_
  refine awp_loop (β := Nat × List Cell) (fun s => ⟨31, [(6, .ptr 1 0 0), (7, .hs 0 0 s.2.length), (15, .d (encSpans L)), (16, .d (.int .i64 L.length)), (17, .d (.int .i64 s.1))], [(0, some ⟨49, 2, dr (s.2.map Cell.row)⟩), (1, some ⟨24, 1, [[.nl]]⟩)], 2⟩) (fun s => s.1 ≤ L.length ∧ s.2 = (L.take s.1).flatten) (fun s => L.length - s.1) (0, []) ?_ ⟨Nat.zero_le _, by simp⟩ ?_
  · refine weak_of [(0, none), (1, some 2)] rfl (by simp [upT, up, upL, push_cast]) (by simp [upH, upR, upL, up, push_cast]) (by simp [namesOk, push_cast]) (by simp [olds])
  · rintro ⟨k, X⟩ ⟨hk, hX⟩
    simp only at hk hX
    refine Nav.imp ?_
    refine awp_region cx [] fun K hK => ?_
    simp [push_cast]
    repeat (refine And.intro (by clear hK; intros; first | omega | (simp_all; done) | (simp_all <;> omega)) ?_)
    refine hK _ ?_; clear hK K; refine Nav.imp ?_
    refine awp_cond (b := decide ((k : Int) < L.length)) (by simp [push_cast]) (fun hb => ?_) (fun hb => ?_) <;> (refine Nav.imp ?_)
    · have hlt : k < L.length := by simpa using hb
      obtain ⟨l, hl⟩ := getq hlt
      have e0 := wrap_i64 (n := (k : Int) + 1) (by omega) (by omega)
      have hle := hlen k l hl
      have hnx := htake k l hl
      rw [← hX] at hle hnx
      rw [List.length_append] at hle
      have h16 : (X.length + l.length) * 16 ≤ 140737488355328 := by omega
      refine awp_region cx [] fun K hK => ?_
      simp [push_cast, hl]
      repeat (refine And.intro (by clear hK; intros; first | omega | (simp_all; done) | (simp_all <;> omega)) ?_)
      refine hK _ ?_; clear hK K; refine Nav.imp ?_
      refine awp_region cx [] fun K hK => ?_
      simp [push_cast, h16]
      repeat (refine And.intro (by clear hK; intros; first | omega | (simp_all; done) | (simp_all <;> omega)) ?_)
      refine hK _ ?_; clear hK K; refine Nav.imp ?_
      refine awp_region cx [] fun K hK => ?_
      simp [push_cast, e0]
      repeat (refine And.intro (by clear hK; intros; first | omega | (simp_all; done) | (simp_all <;> omega)) ?_)
      refine hK _ ?_; clear hK K; refine Nav.imp ?_
      refine ⟨(k + 1, X ++ l), ⟨hlt, hnx.symm⟩, by simp only; omega, ?_⟩
      refine weak_of [(0, some 8), (1, some 1)] rfl (by simp [upT, up, upL, push_cast]) (by simp [upH, upR, upL, up, push_cast]) (by simp [namesOk, push_cast]) (by simp [olds])
    · have hke : k = L.length := by simp at hb; omega
      subst hke
      rw [hall] at hX
      subst hX
      generalize L.flatten = m at *
      have ht : List.take m.length (m.map Cell.row) = m.map Cell.row := List.take_of_length_le (by simp)
      refine awp_freeze 0 (m.map Cell.row) rfl (by simp [push_cast]) fun K hK => ?_
      simp [push_cast, St.fz, fzT, fzH, fzO, fz, fzL, fzR, fzR_dr, fzR_app, fzR_set, fzL_map]
      refine hK _ ?_; clear hK K; refine Nav.imp ?_
      refine awp_region cx [(1, .p (.tup [.agg (regRow W), .int .i64 er]))] fun K hK => ?_
      simp [push_cast, c2]
      repeat (refine And.intro (by clear hK; intros; first | omega | (simp_all; done) | (simp_all <;> omega)) ?_)
      refine hK _ ?_; clear hK K; refine Nav.imp ?_
      refine awp_region cx [] fun K hK => ?_
      simp [push_cast]
      repeat (refine And.intro (by clear hK; intros; first | omega | (simp_all; done) | (simp_all <;> omega)) ?_)
      refine hK _ ?_; clear hK K; refine Nav.imp ?_
      simp [push_cast]

def moreV (r b : List Row) : Bool := decide (countR (anchR r b false) < countR (anchR r b true))
theorem more_eq {r b : List Row} : rspans r b (moreV r b) = brL r b ∧ opR fD (opR fD r b) (if moreV r b then anchR r b true else anchR r b false) = brRest r b := by
  cases hv : (validR r && validR b) with
  | true =>
    have e1 : moreV r b = moreUp r b := by unfold moreV moreUp anchR; rw [if_pos hv, if_pos hv]
    have e2 : rspans r b (moreV r b) = brL r b := by unfold rspans brL; rw [if_pos hv, if_pos hv, e1]
    refine ⟨e2, ?_⟩
    have e3 : brRest r b = opR fD (opR fD r b) (coverR (brL r b)) := by unfold brRest; rw [if_pos hv]
    rw [e3, ← e2, rspans_cover]
    cases moreV r b <;> rfl
  | false =>
    have h1 : ∀ ud, anchR r b ud = [] := fun ud => by unfold anchR; rw [if_neg (by rw [hv]; simp)]
    have h2 : ∀ ud, rspans r b ud = [] := fun ud => by unfold rspans; rw [if_neg (by rw [hv]; simp)]
    have h3 : brL r b = [] := by unfold brL; rw [if_neg (by rw [hv]; simp)]
    have h4 : brRest r b = [] := by unfold brRest; rw [if_neg (by rw [hv]; simp)]
    rw [h1, h1, h2, h3, h4, opR_bad2 hv]
    refine ⟨rfl, ?_⟩
    have : (if moreV r b = true then ([] : List Row) else []) = [] := by split <;> rfl
    rw [this]
    exact valid_empty (opR_facts (f := fD) rfl rfl rfl).1 fun c hc => by
      have := ((opD_iff rfl rfl c).1 hc).1
      simp [regCells] at this
theorem anch_valid (r b : List Row) (ud : Bool) : validR (anchR r b ud) = true := by
  unfold anchR
  split
  · rename_i h
    simp only [Bool.and_eq_true] at h
    exact (cover_facts h.1 h.2 ud).1
  · rfl

set_option maxHeartbeats 8000000 in
theorem rbridges_ok (r b : List Row) (hr : fewC r) (hb0 : fewC b) : PC Tryz.prog 14 [.agg (regRow r), .agg (regRow b)] (.p (.tup [encTracks ((brL r b).map brT), .agg (regRow (brRest r b))])) := by
  have a1 := ranch_ok r b false hr hb0
  have a2 := ranch_ok r b true hr hb0
  have v1 := anch_valid r b false
  have v2 := anch_valid r b true
  have k1 := rcount_ok (anchR r b false) (small_valid v1)
  have k2 := rcount_ok (anchR r b true) (small_valid v2)
  have hmv : moreV r b = decide (countR (anchR r b false) < countR (anchR r b true)) := rfl
  obtain ⟨e1, e2⟩ := more_eq (r := r) (b := b)
  obtain ⟨hL, _⟩ := rspans_len (b := b) hr.2 (moreV r b)
  have c1 := rspans_ok r b (moreV r b) hr.1 hb0.1 (loose_len hr.2)
  rw [e1] at c1 hL
  have c2 := rloose30_ok r b hr.1 hb0.1
  have vD := opR_valid (f := fD) rfl r b
  have c3 := rsubtract_ok (opR fD r b) (if moreV r b then anchR r b true else anchR r b false) (small_valid vD) (small_valid (by split <;> assumption))
  rw [e2] at c3
  clear e1 e2 v1 v2 vD
  generalize brRest r b = W at *
  generalize brL r b = L at *
  generalize opR fD r b = D at *
  generalize hC : (if moreV r b then anchR r b true else anchR r b false) = C at *
  generalize anchR r b false = A1 at *
  generalize anchR r b true = A2 at *
  generalize moreV r b = ud at *
  have hmu2 : decide (countR A1 < countR A2) = ud := hmv.symm
  refine pc_of_awp cx (fn := Tryz.f14) (c := _) Tryz.func14 rfl rfl (Nat.le_of_ble_eq_true rfl) ?_
  rw [Tryz.ntmps14]; refine Nav.imp ?_
  refine awp_region cx [] fun K hK => ?_
  simp [push_cast]
  repeat (refine And.intro (by clear hK; intros; first | omega | (simp_all; done) | (simp_all <;> omega)) ?_)
  refine hK _ ?_; clear hK K; refine Nav.imp ?_
  refine awp_region_draw cx mixed [(2, .p (.agg (regRow A1))), (5, .p (.agg (regRow A2)))] fun K hK => ?_
  simp [push_cast, a1, a2]
  repeat (refine And.intro (by clear hK; intros; first | omega | (simp_all; done) | (simp_all <;> omega)) ?_)
  refine hK _ _ (by kernel_rfl) ?_; clear hK K; refine Nav.imp ?_
  refine awp_region_draw cx mixed [(1, .p (.int .i64 (countR A2))), (3, .p (.int .i64 (countR A1)))] fun K hK => ?_
  simp [push_cast, k1, k2, hmu2]
  repeat (refine And.intro (by clear hK; intros; first | omega | (simp_all; done) | (simp_all <;> omega)) ?_)
  refine hK _ _ (by kernel_rfl) ?_; clear hK K; refine Nav.imp ?_
  refine awp_region cx [] fun K hK => ?_
  simp [push_cast]
  repeat (refine And.intro (by clear hK; intros; first | omega | (simp_all; done) | (simp_all <;> omega)) ?_)
  refine hK _ ?_; clear hK K; refine Nav.imp ?_
  apply cut_
  · intro key
    refine awp_cond (b := ud) (by simp [push_cast, hmu2]) (fun hb => ?_) (fun hb => ?_) <;> (refine Nav.imp ?_)
    · have hX : C = A2 := by rw [← hC, hb]; rfl
      refine awp_region cx [] fun K hK => ?_
      simp [push_cast]
      repeat (refine And.intro (by clear hK; intros; first | omega | (simp_all; done) | (simp_all <;> omega)) ?_)
      refine hK _ ?_; clear hK K; refine Nav.imp ?_
      refine awp_weak (s' := ⟨46, [(2, .ptr 0 0 0), (3, .ptr 1 0 0), (5, .ptr 2 0 0), (6, .ptr 3 0 0), (8, .d (.bool ud))], [(0, some ⟨24, 1, [(regRow r).map .d]⟩), (1, some ⟨24, 1, [(regRow b).map .d]⟩), (2, some ⟨24, 1, [[.nl]]⟩), (3, some ⟨24, 1, [(regRow C).map .d]⟩)], 4⟩) ?_ key.h
      refine weak_of [(0, some 0), (1, some 1), (2, some 3), (3, some 10)] rfl (by simp [upT, up, upL, push_cast, hX, hmu2]) (by simp [upH, upR, upL, up, push_cast, hX, hmu2]) (by simp [namesOk, push_cast]) (by simp [olds])
    · have hX : C = A1 := by rw [← hC, hb]; rfl
      refine awp_weak (s' := ⟨46, [(2, .ptr 0 0 0), (3, .ptr 1 0 0), (5, .ptr 2 0 0), (6, .ptr 3 0 0), (8, .d (.bool ud))], [(0, some ⟨24, 1, [(regRow r).map .d]⟩), (1, some ⟨24, 1, [(regRow b).map .d]⟩), (2, some ⟨24, 1, [[.nl]]⟩), (3, some ⟨24, 1, [(regRow C).map .d]⟩)], 4⟩) ?_ key.h
      refine weak_of [(0, some 0), (1, some 1), (2, some 3), (3, some 10)] rfl (by simp [upT, up, upL, push_cast, hX, hmu2]) (by simp [upH, upR, upL, up, push_cast, hX, hmu2]) (by simp [namesOk, push_cast]) (by simp [olds])
  · clear hC hmu2 hmv
    refine awp_region cx [] fun K hK => ?_
    simp [push_cast]
    repeat (refine And.intro (by clear hK; intros; first | omega | (simp_all; done) | (simp_all <;> omega)) ?_)
    refine hK _ ?_; clear hK K; refine Nav.imp ?_
    refine awp_region cx [(3, .p (encSpans L))] fun K hK => ?_
    simp [push_cast, c1]
    repeat (refine And.intro (by clear hK; intros; first | omega | (simp_all; done) | (simp_all <;> omega)) ?_)
    refine hK _ ?_; clear hK K; refine Nav.imp ?_
    refine awp_loop (β := Nat × List Track) (fun s => ⟨46, [(2, .ptr 0 0 0), (3, .ptr 1 0 0), (5, .ptr 2 0 0), (6, .ptr 3 0 0), (9, .hs 4 0 s.2.length), (28, .d (encSpans L)), (29, .d (.int .i64 L.length)), (30, .d (.int .i64 s.1))], [(0, some ⟨24, 1, [(regRow r).map .d]⟩), (1, some ⟨24, 1, [(regRow b).map .d]⟩), (2, some ⟨24, 1, [[.nl]]⟩), (3, some ⟨24, 1, [(regRow C).map .d]⟩), (4, some ⟨47, 3, dr (s.2.map Track.row)⟩)], 5⟩) (fun s => s.1 ≤ L.length ∧ s.2 = (L.take s.1).map brT) (fun s => L.length - s.1) (0, []) ?_ ⟨Nat.zero_le _, by simp⟩ ?_
    · refine weak_of [(0, some 0), (1, some 1), (2, some 2), (3, some 3), (4, none)] rfl (by simp [upT, up, upL, push_cast]) (by simp [upH, upR, upL, up, push_cast]) (by simp [namesOk, push_cast]) (by simp [olds])
    · rintro ⟨k, X⟩ ⟨hk, hX⟩
      simp only at hk hX
      have hXl : X.length = k := by rw [hX]; simp; omega
      refine Nav.imp ?_
      refine awp_region cx [] fun K hK => ?_
      simp [push_cast]
      repeat (refine And.intro (by clear hK; intros; first | omega | (simp_all; done) | (simp_all <;> omega)) ?_)
      refine hK _ ?_; clear hK K; refine Nav.imp ?_
      refine awp_cond (b := decide ((k : Int) < L.length)) (by simp [push_cast]) (fun hb => ?_) (fun hb => ?_) <;> (refine Nav.imp ?_)
      · have hlt : k < L.length := by simpa using hb
        obtain ⟨l, hl⟩ := getq hlt
        have e0 := wrap_i64 (n := (k : Int) + 1) (by omega) (by omega)
        have hX1 : (L.take (k + 1)).map brT = X ++ [brT l] := by rw [take_get hl, List.map_append, ← hX]; rfl
        have h24 : (X.length + 1) * 40 ≤ 140737488355328 := by omega
        refine awp_region cx [] fun K hK => ?_
        simp [push_cast, hl]
        repeat (refine And.intro (by clear hK; intros; first | omega | (simp_all; done) | (simp_all <;> omega)) ?_)
        refine hK _ ?_; clear hK K; refine Nav.imp ?_
        refine awp_region cx [] fun K hK => ?_
        simp [push_cast, h24]
        repeat (refine And.intro (by clear hK; intros; first | omega | (simp_all; done) | (simp_all <;> omega)) ?_)
        refine hK _ ?_; clear hK K; refine Nav.imp ?_
        refine awp_region cx [] fun K hK => ?_
        simp [push_cast, e0]
        repeat (refine And.intro (by clear hK; intros; first | omega | (simp_all; done) | (simp_all <;> omega)) ?_)
        refine hK _ ?_; clear hK K; refine Nav.imp ?_
        refine ⟨(k + 1, X ++ [brT l]), ⟨hlt, hX1.symm⟩, by simp only; omega, ?_⟩
        refine weak_of [(0, some 0), (1, some 1), (2, some 2), (3, some 3), (4, some 13)] rfl (by simp [upT, up, upL, push_cast, brT, Track.row]) (by simp [upH, upR, upL, up, push_cast, brT, Track.row]) (by simp [namesOk, push_cast]) (by simp [olds])
      · have hke : k = L.length := by simp at hb; omega
        subst hke
        rw [List.take_length] at hX
        subst hX
        refine awp_region_draw cx mixed [(3, .p (.agg (regRow D))), (5, .p (.agg (regRow W)))] fun K hK => ?_
        simp [push_cast, c2, c3]
        repeat (refine And.intro (by clear hK; intros; first | omega | (simp_all; done) | (simp_all <;> omega)) ?_)
        refine hK _ _ (by kernel_rfl) ?_; clear hK K; refine Nav.imp ?_
        have ht : List.take L.length ((L.map brT).map Track.row) = (L.map brT).map Track.row := List.take_of_length_le (by simp)
        simp [push_cast]
end Go.Proofs.YtknelhiejjdioaaGreat
