/-
  The walks of this seat's functions and the plain laws behind them: part O12.
-/
import Derived.Test.YtdoedfheagkloaaP4
set_option linter.unusedVariables false
set_option linter.unusedSimpArgs false
namespace Go.Proofs.Ytdoedfheagkloaa
open Go.Abs

theorem erase_take {l : List Track} {i k : Nat} {x : Track} (h : l[k]? = some x) : (l.take (k + 1)).eraseIdx i = if k = i then (l.take k).eraseIdx i else (l.take k).eraseIdx i ++ [x] := by
  have hk := (List.getElem?_eq_some_iff.1 h).1
  have hl : (l.take k).length = k := by simp; omega
  rw [List.take_add_one, h]
  simp only [Option.toList_some]
  split
  · rename_i e
    subst e
    rw [List.eraseIdx_append_of_length_le (by omega), hl, Nat.sub_self, List.eraseIdx_of_length_le (l := l.take k) (by omega)]
    simp
  · rename_i e
    by_cases h1 : i < k
    · rw [List.eraseIdx_append_of_lt_length (by omega)]
    · rw [List.eraseIdx_of_length_le (l := l.take k) (by omega), List.eraseIdx_of_length_le (by rw [List.length_append, hl]; simp; omega)]

theorem other_ok (l : List Track) (i : Nat) (hl : l.length ≤ 1000) (hi : i < l.length) : PC Try.prog 59 [encTracks l, .int .i64 i] (.p (encTracks (l.eraseIdx i))) := by
  refine pc_of_awp cx (fn := Try.f59) (c := _) Try.func59 rfl rfl (Nat.le_of_ble_eq_true rfl) ?_
  rw [Try.ntmps59]; (repeat (first | refine awp_seq ?_ | refine awp_block ?_ | refine awp_scope ?_ | refine awp_skip ?_ | refine awp_exit ?_ | refine awp_ret ?_ | refine sq_n ?_ | refine sq_r ?_ | refine sq_x ?_ | refine bq_n ?_ | refine bq_r ?_ | refine bq_x ?_ | refine bq_y rfl ?_ | refine pq_n ?_ | refine pq_r ?_ | refine pq_x ?_))
  refine awp_region cx [] fun K hK => ?_
  simp [push_cast]
  first | refine hK _ ?_ | refine ⟨(by clear hK; intros; first | omega | (simp_all; done) | (simp_all <;> omega)), hK _ ?_⟩ | refine ⟨(by clear hK; intros; first | omega | (simp_all; done) | (simp_all <;> omega)), (by clear hK; intros; first | omega | (simp_all; done) | (simp_all <;> omega)), hK _ ?_⟩ | refine ⟨(by clear hK; intros; first | omega | (simp_all; done) | (simp_all <;> omega)), (by clear hK; intros; first | omega | (simp_all; done) | (simp_all <;> omega)), (by clear hK; intros; first | omega | (simp_all; done) | (simp_all <;> omega)), hK _ ?_⟩
  clear hK K; (repeat (first | refine awp_seq ?_ | refine awp_block ?_ | refine awp_scope ?_ | refine awp_skip ?_ | refine awp_exit ?_ | refine awp_ret ?_ | refine sq_n ?_ | refine sq_r ?_ | refine sq_x ?_ | refine bq_n ?_ | refine bq_r ?_ | refine bq_x ?_ | refine bq_y rfl ?_ | refine pq_n ?_ | refine pq_r ?_ | refine pq_x ?_))
  refine awp_region cx [] fun K hK => ?_
  simp [push_cast]
  first | refine hK _ ?_ | refine ⟨(by clear hK; intros; first | omega | (simp_all; done) | (simp_all <;> omega)), hK _ ?_⟩ | refine ⟨(by clear hK; intros; first | omega | (simp_all; done) | (simp_all <;> omega)), (by clear hK; intros; first | omega | (simp_all; done) | (simp_all <;> omega)), hK _ ?_⟩ | refine ⟨(by clear hK; intros; first | omega | (simp_all; done) | (simp_all <;> omega)), (by clear hK; intros; first | omega | (simp_all; done) | (simp_all <;> omega)), (by clear hK; intros; first | omega | (simp_all; done) | (simp_all <;> omega)), hK _ ?_⟩
  clear hK K; (repeat (first | refine awp_seq ?_ | refine awp_block ?_ | refine awp_scope ?_ | refine awp_skip ?_ | refine awp_exit ?_ | refine awp_ret ?_ | refine sq_n ?_ | refine sq_r ?_ | refine sq_x ?_ | refine bq_n ?_ | refine bq_r ?_ | refine bq_x ?_ | refine bq_y rfl ?_ | refine pq_n ?_ | refine pq_r ?_ | refine pq_x ?_))
  refine awp_region cx [] fun K hK => ?_
  simp [push_cast]
  first | refine hK _ ?_ | refine ⟨(by clear hK; intros; first | omega | (simp_all; done) | (simp_all <;> omega)), hK _ ?_⟩ | refine ⟨(by clear hK; intros; first | omega | (simp_all; done) | (simp_all <;> omega)), (by clear hK; intros; first | omega | (simp_all; done) | (simp_all <;> omega)), hK _ ?_⟩ | refine ⟨(by clear hK; intros; first | omega | (simp_all; done) | (simp_all <;> omega)), (by clear hK; intros; first | omega | (simp_all; done) | (simp_all <;> omega)), (by clear hK; intros; first | omega | (simp_all; done) | (simp_all <;> omega)), hK _ ?_⟩
  clear hK K; (repeat (first | refine awp_seq ?_ | refine awp_block ?_ | refine awp_scope ?_ | refine awp_skip ?_ | refine awp_exit ?_ | refine awp_ret ?_ | refine sq_n ?_ | refine sq_r ?_ | refine sq_x ?_ | refine bq_n ?_ | refine bq_r ?_ | refine bq_x ?_ | refine bq_y rfl ?_ | refine pq_n ?_ | refine pq_r ?_ | refine pq_x ?_))
  refine awp_loop (β := Nat × List Track) (fun b => ⟨24, [(0, .d (encTracks l)), (1, .d (.int .i64 i)), (5, .hs 0 0 b.2.length), (8, .d (.int .i64 l.length)), (9, .d (.int .i64 b.1))], [(0, some ⟨36, 3, dr (b.2.map Track.row)⟩)], 1⟩) (fun b => b.1 ≤ l.length ∧ b.2 = (l.take b.1).eraseIdx i) (fun b => l.length - b.1) (0, []) ?_ ⟨Nat.zero_le _, rfl⟩ ?_
  · refine weak_of [(0, none)] rfl (by simp [upT, up, upL, push_cast]) (by simp [upH, upR, upL, up, push_cast]) (by simp [namesOk, push_cast]) (by simp [olds])
  · rintro ⟨k, X⟩ ⟨hk, hX⟩
    simp only at hk hX
    have hXl : X.length ≤ 1000 := by rw [hX, List.length_eraseIdx]; split <;> simp <;> omega
    (repeat (first | refine awp_seq ?_ | refine awp_block ?_ | refine awp_scope ?_ | refine awp_skip ?_ | refine awp_exit ?_ | refine awp_ret ?_ | refine sq_n ?_ | refine sq_r ?_ | refine sq_x ?_ | refine bq_n ?_ | refine bq_r ?_ | refine bq_x ?_ | refine bq_y rfl ?_ | refine pq_n ?_ | refine pq_r ?_ | refine pq_x ?_))
    refine awp_region cx [] fun K hK => ?_
    simp [push_cast]
    first | refine hK _ ?_ | refine ⟨(by clear hK; intros; first | omega | (simp_all; done) | (simp_all <;> omega)), hK _ ?_⟩ | refine ⟨(by clear hK; intros; first | omega | (simp_all; done) | (simp_all <;> omega)), (by clear hK; intros; first | omega | (simp_all; done) | (simp_all <;> omega)), hK _ ?_⟩ | refine ⟨(by clear hK; intros; first | omega | (simp_all; done) | (simp_all <;> omega)), (by clear hK; intros; first | omega | (simp_all; done) | (simp_all <;> omega)), (by clear hK; intros; first | omega | (simp_all; done) | (simp_all <;> omega)), hK _ ?_⟩
    clear hK K; (repeat (first | refine awp_seq ?_ | refine awp_block ?_ | refine awp_scope ?_ | refine awp_skip ?_ | refine awp_exit ?_ | refine awp_ret ?_ | refine sq_n ?_ | refine sq_r ?_ | refine sq_x ?_ | refine bq_n ?_ | refine bq_r ?_ | refine bq_x ?_ | refine bq_y rfl ?_ | refine pq_n ?_ | refine pq_r ?_ | refine pq_x ?_))
    refine awp_cond (b := decide ((k : Int) < l.length)) (by simp [push_cast]) (fun hb => ?_) (fun hb => ?_) <;> ((repeat (first | refine awp_seq ?_ | refine awp_block ?_ | refine awp_scope ?_ | refine awp_skip ?_ | refine awp_exit ?_ | refine awp_ret ?_ | refine sq_n ?_ | refine sq_r ?_ | refine sq_x ?_ | refine bq_n ?_ | refine bq_r ?_ | refine bq_x ?_ | refine bq_y rfl ?_ | refine pq_n ?_ | refine pq_r ?_ | refine pq_x ?_)))
    · have hlt : k < l.length := by simpa using hb
      obtain ⟨x, hx⟩ := getq hlt
      have hs := erase_take (i := i) hx
      rw [← hX] at hs
      have e0 := wrap_i64 (n := (k : Int) + 1) (by omega) (by omega)
      have e2 : (X.length + 1) * 40 ≤ 140737488355328 := by omega
      refine awp_region cx [] fun K hK => ?_
      simp [push_cast]
      first | refine hK _ ?_ | refine ⟨(by clear hK; intros; first | omega | (simp_all; done) | (simp_all <;> omega)), hK _ ?_⟩ | refine ⟨(by clear hK; intros; first | omega | (simp_all; done) | (simp_all <;> omega)), (by clear hK; intros; first | omega | (simp_all; done) | (simp_all <;> omega)), hK _ ?_⟩ | refine ⟨(by clear hK; intros; first | omega | (simp_all; done) | (simp_all <;> omega)), (by clear hK; intros; first | omega | (simp_all; done) | (simp_all <;> omega)), (by clear hK; intros; first | omega | (simp_all; done) | (simp_all <;> omega)), hK _ ?_⟩
      clear hK K; (repeat (first | refine awp_seq ?_ | refine awp_block ?_ | refine awp_scope ?_ | refine awp_skip ?_ | refine awp_exit ?_ | refine awp_ret ?_ | refine sq_n ?_ | refine sq_r ?_ | refine sq_x ?_ | refine bq_n ?_ | refine bq_r ?_ | refine bq_x ?_ | refine bq_y rfl ?_ | refine pq_n ?_ | refine pq_r ?_ | refine pq_x ?_))
      refine awp_region cx [] fun K hK => ?_
      simp [push_cast]
      first | refine hK _ ?_ | refine ⟨(by clear hK; intros; first | omega | (simp_all; done) | (simp_all <;> omega)), hK _ ?_⟩ | refine ⟨(by clear hK; intros; first | omega | (simp_all; done) | (simp_all <;> omega)), (by clear hK; intros; first | omega | (simp_all; done) | (simp_all <;> omega)), hK _ ?_⟩ | refine ⟨(by clear hK; intros; first | omega | (simp_all; done) | (simp_all <;> omega)), (by clear hK; intros; first | omega | (simp_all; done) | (simp_all <;> omega)), (by clear hK; intros; first | omega | (simp_all; done) | (simp_all <;> omega)), hK _ ?_⟩
      clear hK K; (repeat (first | refine awp_seq ?_ | refine awp_block ?_ | refine awp_scope ?_ | refine awp_skip ?_ | refine awp_exit ?_ | refine awp_ret ?_ | refine sq_n ?_ | refine sq_r ?_ | refine sq_x ?_ | refine bq_n ?_ | refine bq_r ?_ | refine bq_x ?_ | refine bq_y rfl ?_ | refine pq_n ?_ | refine pq_r ?_ | refine pq_x ?_))
      by_cases hki : k = i
      · subst hki
        rw [if_pos rfl] at hs
        refine awp_cond (b := false) (by simp [push_cast]) (fun hb => ?_) (fun hb => ?_) <;> ((repeat (first | refine awp_seq ?_ | refine awp_block ?_ | refine awp_scope ?_ | refine awp_skip ?_ | refine awp_exit ?_ | refine awp_ret ?_ | refine sq_n ?_ | refine sq_r ?_ | refine sq_x ?_ | refine bq_n ?_ | refine bq_r ?_ | refine bq_x ?_ | refine bq_y rfl ?_ | refine pq_n ?_ | refine pq_r ?_ | refine pq_x ?_)))
        · simp at hb
        · refine awp_region cx [] fun K hK => ?_
          simp [push_cast, e0]
          first | refine hK _ ?_ | refine ⟨(by clear hK; intros; first | omega | (simp_all; done) | (simp_all <;> omega)), hK _ ?_⟩ | refine ⟨(by clear hK; intros; first | omega | (simp_all; done) | (simp_all <;> omega)), (by clear hK; intros; first | omega | (simp_all; done) | (simp_all <;> omega)), hK _ ?_⟩ | refine ⟨(by clear hK; intros; first | omega | (simp_all; done) | (simp_all <;> omega)), (by clear hK; intros; first | omega | (simp_all; done) | (simp_all <;> omega)), (by clear hK; intros; first | omega | (simp_all; done) | (simp_all <;> omega)), hK _ ?_⟩
          clear hK K; (repeat (first | refine awp_seq ?_ | refine awp_block ?_ | refine awp_scope ?_ | refine awp_skip ?_ | refine awp_exit ?_ | refine awp_ret ?_ | refine sq_n ?_ | refine sq_r ?_ | refine sq_x ?_ | refine bq_n ?_ | refine bq_r ?_ | refine bq_x ?_ | refine bq_y rfl ?_ | refine pq_n ?_ | refine pq_r ?_ | refine pq_x ?_))
          refine ⟨(k + 1, X), ⟨hlt, hs.symm⟩, by simp; omega, ?_⟩
          refine weak_of [(0, some 0)] rfl (by simp [upT, up, upL, push_cast]) (by simp [upH, upR, upL, up, push_cast]) (by simp [namesOk, push_cast]) (by simp [olds])
      · rw [if_neg hki] at hs
        have hki' : ¬ (k : Int) = i := by omega
        refine awp_cond (b := true) (by simp [push_cast, hki, hki']) (fun hb => ?_) (fun hb => ?_) <;> ((repeat (first | refine awp_seq ?_ | refine awp_block ?_ | refine awp_scope ?_ | refine awp_skip ?_ | refine awp_exit ?_ | refine awp_ret ?_ | refine sq_n ?_ | refine sq_r ?_ | refine sq_x ?_ | refine bq_n ?_ | refine bq_r ?_ | refine bq_x ?_ | refine bq_y rfl ?_ | refine pq_n ?_ | refine pq_r ?_ | refine pq_x ?_)))
        · refine awp_region cx [] fun K hK => ?_
          simp [push_cast, hx, e2, Track.row]
          first | refine hK _ ?_ | refine ⟨(by clear hK; intros; first | omega | (simp_all; done) | (simp_all <;> omega)), hK _ ?_⟩ | refine ⟨(by clear hK; intros; first | omega | (simp_all; done) | (simp_all <;> omega)), (by clear hK; intros; first | omega | (simp_all; done) | (simp_all <;> omega)), hK _ ?_⟩ | refine ⟨(by clear hK; intros; first | omega | (simp_all; done) | (simp_all <;> omega)), (by clear hK; intros; first | omega | (simp_all; done) | (simp_all <;> omega)), (by clear hK; intros; first | omega | (simp_all; done) | (simp_all <;> omega)), hK _ ?_⟩
          clear hK K; (repeat (first | refine awp_seq ?_ | refine awp_block ?_ | refine awp_scope ?_ | refine awp_skip ?_ | refine awp_exit ?_ | refine awp_ret ?_ | refine sq_n ?_ | refine sq_r ?_ | refine sq_x ?_ | refine bq_n ?_ | refine bq_r ?_ | refine bq_x ?_ | refine bq_y rfl ?_ | refine pq_n ?_ | refine pq_r ?_ | refine pq_x ?_))
          refine awp_region cx [] fun K hK => ?_
          simp [push_cast, e0]
          first | refine hK _ ?_ | refine ⟨(by clear hK; intros; first | omega | (simp_all; done) | (simp_all <;> omega)), hK _ ?_⟩ | refine ⟨(by clear hK; intros; first | omega | (simp_all; done) | (simp_all <;> omega)), (by clear hK; intros; first | omega | (simp_all; done) | (simp_all <;> omega)), hK _ ?_⟩ | refine ⟨(by clear hK; intros; first | omega | (simp_all; done) | (simp_all <;> omega)), (by clear hK; intros; first | omega | (simp_all; done) | (simp_all <;> omega)), (by clear hK; intros; first | omega | (simp_all; done) | (simp_all <;> omega)), hK _ ?_⟩
          clear hK K; (repeat (first | refine awp_seq ?_ | refine awp_block ?_ | refine awp_scope ?_ | refine awp_skip ?_ | refine awp_exit ?_ | refine awp_ret ?_ | refine sq_n ?_ | refine sq_r ?_ | refine sq_x ?_ | refine bq_n ?_ | refine bq_r ?_ | refine bq_x ?_ | refine bq_y rfl ?_ | refine pq_n ?_ | refine pq_r ?_ | refine pq_x ?_))
          refine ⟨(k + 1, X ++ [x]), ⟨hlt, hs.symm⟩, by simp; omega, ?_⟩
          refine weak_of [(0, some 13)] rfl (by simp [upT, up, upL, push_cast, Track.row]) (by simp [upH, upR, upL, up, push_cast, Track.row]) (by simp [namesOk, push_cast]) (by simp [olds])
        · simp at hb
    · have hge : k = l.length := by simp at hb; omega
      subst hge
      rw [List.take_length] at hX
      subst hX
      refine awp_region cx [] fun K hK => ?_
      simp [push_cast]
      first | refine hK _ ?_ | refine ⟨(by clear hK; intros; first | omega | (simp_all; done) | (simp_all <;> omega)), hK _ ?_⟩ | refine ⟨(by clear hK; intros; first | omega | (simp_all; done) | (simp_all <;> omega)), (by clear hK; intros; first | omega | (simp_all; done) | (simp_all <;> omega)), hK _ ?_⟩ | refine ⟨(by clear hK; intros; first | omega | (simp_all; done) | (simp_all <;> omega)), (by clear hK; intros; first | omega | (simp_all; done) | (simp_all <;> omega)), (by clear hK; intros; first | omega | (simp_all; done) | (simp_all <;> omega)), hK _ ?_⟩
      clear hK K; (repeat (first | refine awp_seq ?_ | refine awp_block ?_ | refine awp_scope ?_ | refine awp_skip ?_ | refine awp_exit ?_ | refine awp_ret ?_ | refine sq_n ?_ | refine sq_r ?_ | refine sq_x ?_ | refine bq_n ?_ | refine bq_r ?_ | refine bq_x ?_ | refine bq_y rfl ?_ | refine pq_n ?_ | refine pq_r ?_ | refine pq_x ?_))
      simp [push_cast]

theorem cheapest_ok : ∀ (n : Nat) (f : Cell) (l : List Track), onG f = true → (∀ t ∈ l, validT t = true) → l.length = n → n ≤ 100 → PC Try.prog 47 [.agg f.row, encTracks l] (.p (.tup [encTracks (chG n f l).1, .int .i64 (chG n f l).2])) := by
  intro n
  induction n with
  | zero =>
    intro f l hf hL hn _
    have hl0 : l = [] := List.eq_nil_of_length_eq_zero hn
    subst hl0
    refine pc_of_awp cx (fn := Try.f47) (c := _) Try.func47 rfl rfl (Nat.le_of_ble_eq_true rfl) ?_
    rw [Try.ntmps47]; (repeat (first | refine awp_seq ?_ | refine awp_block ?_ | refine awp_scope ?_ | refine awp_skip ?_ | refine awp_exit ?_ | refine awp_ret ?_ | refine sq_n ?_ | refine sq_r ?_ | refine sq_x ?_ | refine bq_n ?_ | refine bq_r ?_ | refine bq_x ?_ | refine bq_y rfl ?_ | refine pq_n ?_ | refine pq_r ?_ | refine pq_x ?_))
    refine awp_region cx [] fun K hK => ?_
    simp [push_cast]
    first | refine hK _ ?_ | refine ⟨(by clear hK; intros; first | omega | (simp_all; done) | (simp_all <;> omega)), hK _ ?_⟩ | refine ⟨(by clear hK; intros; first | omega | (simp_all; done) | (simp_all <;> omega)), (by clear hK; intros; first | omega | (simp_all; done) | (simp_all <;> omega)), hK _ ?_⟩ | refine ⟨(by clear hK; intros; first | omega | (simp_all; done) | (simp_all <;> omega)), (by clear hK; intros; first | omega | (simp_all; done) | (simp_all <;> omega)), (by clear hK; intros; first | omega | (simp_all; done) | (simp_all <;> omega)), hK _ ?_⟩
    clear hK K; (repeat (first | refine awp_seq ?_ | refine awp_block ?_ | refine awp_scope ?_ | refine awp_skip ?_ | refine awp_exit ?_ | refine awp_ret ?_ | refine sq_n ?_ | refine sq_r ?_ | refine sq_x ?_ | refine bq_n ?_ | refine bq_r ?_ | refine bq_x ?_ | refine bq_y rfl ?_ | refine pq_n ?_ | refine pq_r ?_ | refine pq_x ?_))
    refine awp_region cx [] fun K hK => ?_
    simp [push_cast]
    first | refine hK _ ?_ | refine ⟨(by clear hK; intros; first | omega | (simp_all; done) | (simp_all <;> omega)), hK _ ?_⟩ | refine ⟨(by clear hK; intros; first | omega | (simp_all; done) | (simp_all <;> omega)), (by clear hK; intros; first | omega | (simp_all; done) | (simp_all <;> omega)), hK _ ?_⟩ | refine ⟨(by clear hK; intros; first | omega | (simp_all; done) | (simp_all <;> omega)), (by clear hK; intros; first | omega | (simp_all; done) | (simp_all <;> omega)), (by clear hK; intros; first | omega | (simp_all; done) | (simp_all <;> omega)), hK _ ?_⟩
    clear hK K; (repeat (first | refine awp_seq ?_ | refine awp_block ?_ | refine awp_scope ?_ | refine awp_skip ?_ | refine awp_exit ?_ | refine awp_ret ?_ | refine sq_n ?_ | refine sq_r ?_ | refine sq_x ?_ | refine bq_n ?_ | refine bq_r ?_ | refine bq_x ?_ | refine bq_y rfl ?_ | refine pq_n ?_ | refine pq_r ?_ | refine pq_x ?_))
    refine awp_region cx [] fun K hK => ?_
    simp [push_cast]
    first | refine hK _ ?_ | refine ⟨(by clear hK; intros; first | omega | (simp_all; done) | (simp_all <;> omega)), hK _ ?_⟩ | refine ⟨(by clear hK; intros; first | omega | (simp_all; done) | (simp_all <;> omega)), (by clear hK; intros; first | omega | (simp_all; done) | (simp_all <;> omega)), hK _ ?_⟩ | refine ⟨(by clear hK; intros; first | omega | (simp_all; done) | (simp_all <;> omega)), (by clear hK; intros; first | omega | (simp_all; done) | (simp_all <;> omega)), (by clear hK; intros; first | omega | (simp_all; done) | (simp_all <;> omega)), hK _ ?_⟩
    clear hK K; (repeat (first | refine awp_seq ?_ | refine awp_block ?_ | refine awp_scope ?_ | refine awp_skip ?_ | refine awp_exit ?_ | refine awp_ret ?_ | refine sq_n ?_ | refine sq_r ?_ | refine sq_x ?_ | refine bq_n ?_ | refine bq_r ?_ | refine bq_x ?_ | refine bq_y rfl ?_ | refine pq_n ?_ | refine pq_r ?_ | refine pq_x ?_))
    refine awp_region cx [] fun K hK => ?_
    simp [push_cast]
    first | refine hK _ ?_ | refine ⟨(by clear hK; intros; first | omega | (simp_all; done) | (simp_all <;> omega)), hK _ ?_⟩ | refine ⟨(by clear hK; intros; first | omega | (simp_all; done) | (simp_all <;> omega)), (by clear hK; intros; first | omega | (simp_all; done) | (simp_all <;> omega)), hK _ ?_⟩ | refine ⟨(by clear hK; intros; first | omega | (simp_all; done) | (simp_all <;> omega)), (by clear hK; intros; first | omega | (simp_all; done) | (simp_all <;> omega)), (by clear hK; intros; first | omega | (simp_all; done) | (simp_all <;> omega)), hK _ ?_⟩
    clear hK K; (repeat (first | refine awp_seq ?_ | refine awp_block ?_ | refine awp_scope ?_ | refine awp_skip ?_ | refine awp_exit ?_ | refine awp_ret ?_ | refine sq_n ?_ | refine sq_r ?_ | refine sq_x ?_ | refine bq_n ?_ | refine bq_r ?_ | refine bq_x ?_ | refine bq_y rfl ?_ | refine pq_n ?_ | refine pq_r ?_ | refine pq_x ?_))
    refine awp_loop (β := Nat) (fun i => ⟨79, [(6, .nl), (7, .d (.int .i64 (-1))), (16, .d (.int .i64 0)), (17, .d (.int .i64 0))], [], 0⟩) (fun i => True) (fun i => 0) 0 ?_ trivial ?_
    · refine weak_of [] rfl (by simp [upT, up, upL, push_cast]) (by simp [upH, upR, upL, up, push_cast]) (by simp [namesOk, push_cast]) (by simp [olds])
    · intro i _
      (repeat (first | refine awp_seq ?_ | refine awp_block ?_ | refine awp_scope ?_ | refine awp_skip ?_ | refine awp_exit ?_ | refine awp_ret ?_ | refine sq_n ?_ | refine sq_r ?_ | refine sq_x ?_ | refine bq_n ?_ | refine bq_r ?_ | refine bq_x ?_ | refine bq_y rfl ?_ | refine pq_n ?_ | refine pq_r ?_ | refine pq_x ?_))
      refine awp_region cx [] fun K hK => ?_
      simp [push_cast]
      first | refine hK _ ?_ | refine ⟨(by clear hK; intros; first | omega | (simp_all; done) | (simp_all <;> omega)), hK _ ?_⟩ | refine ⟨(by clear hK; intros; first | omega | (simp_all; done) | (simp_all <;> omega)), (by clear hK; intros; first | omega | (simp_all; done) | (simp_all <;> omega)), hK _ ?_⟩ | refine ⟨(by clear hK; intros; first | omega | (simp_all; done) | (simp_all <;> omega)), (by clear hK; intros; first | omega | (simp_all; done) | (simp_all <;> omega)), (by clear hK; intros; first | omega | (simp_all; done) | (simp_all <;> omega)), hK _ ?_⟩
      clear hK K; (repeat (first | refine awp_seq ?_ | refine awp_block ?_ | refine awp_scope ?_ | refine awp_skip ?_ | refine awp_exit ?_ | refine awp_ret ?_ | refine sq_n ?_ | refine sq_r ?_ | refine sq_x ?_ | refine bq_n ?_ | refine bq_r ?_ | refine bq_x ?_ | refine bq_y rfl ?_ | refine pq_n ?_ | refine pq_r ?_ | refine pq_x ?_))
      refine awp_cond (b := false) (by simp [push_cast]) (fun hb => ?_) (fun hb => ?_) <;> ((repeat (first | refine awp_seq ?_ | refine awp_block ?_ | refine awp_scope ?_ | refine awp_skip ?_ | refine awp_exit ?_ | refine awp_ret ?_ | refine sq_n ?_ | refine sq_r ?_ | refine sq_x ?_ | refine bq_n ?_ | refine bq_r ?_ | refine bq_x ?_ | refine bq_y rfl ?_ | refine pq_n ?_ | refine pq_r ?_ | refine pq_x ?_)))
      · simp at hb
      · refine awp_region cx [] fun K hK => ?_
        simp [push_cast]
        first | refine hK _ ?_ | refine ⟨(by clear hK; intros; first | omega | (simp_all; done) | (simp_all <;> omega)), hK _ ?_⟩ | refine ⟨(by clear hK; intros; first | omega | (simp_all; done) | (simp_all <;> omega)), (by clear hK; intros; first | omega | (simp_all; done) | (simp_all <;> omega)), hK _ ?_⟩ | refine ⟨(by clear hK; intros; first | omega | (simp_all; done) | (simp_all <;> omega)), (by clear hK; intros; first | omega | (simp_all; done) | (simp_all <;> omega)), (by clear hK; intros; first | omega | (simp_all; done) | (simp_all <;> omega)), hK _ ?_⟩
        clear hK K; (repeat (first | refine awp_seq ?_ | refine awp_block ?_ | refine awp_scope ?_ | refine awp_skip ?_ | refine awp_exit ?_ | refine awp_ret ?_ | refine sq_n ?_ | refine sq_r ?_ | refine sq_x ?_ | refine bq_n ?_ | refine bq_r ?_ | refine bq_x ?_ | refine bq_y rfl ?_ | refine pq_n ?_ | refine pq_r ?_ | refine pq_x ?_))
        simp [push_cast, chG]
        decide
  | succ n ih =>
    intro f l hf hL hn hn1
    have hGbd : ∀ i v, i < l.length → validT v = true → 0 ≤ (chG n (lstC v) (l.eraseIdx i)).2 ∧ (chG n (lstC v) (l.eraseIdx i)).2 + 16384 ≤ 16384 * (n + 1) := fun i v hi hv => by
      have := chG_bd n (lstC v) (l.eraseIdx i) (validT_facts hv).2.2.2.2.2.2 (erase_valid hL) (by rw [List.length_eraseIdx, if_pos hi]; omega)
      omega
    have hGok : ∀ i v, i < l.length → validT v = true → PC Try.prog 47 [.agg (lstC v).row, encTracks (l.eraseIdx i)] (.p (.tup [encTracks (chG n (lstC v) (l.eraseIdx i)).1, .int .i64 (chG n (lstC v) (l.eraseIdx i)).2])) := fun i v hi hv =>
      ih (lstC v) (l.eraseIdx i) (validT_facts hv).2.2.2.2.2.2 (erase_valid hL) (by rw [List.length_eraseIdx, if_pos hi]; omega) (by omega)
    have hcS := fun k hk => cS_bd (G := chG n) (M := 16384 * (n + 1)) hf (by omega) hL hGbd k hk
    have hGlen : ∀ (f : Cell) (l : List Track), (chG n f l).1.length ≤ n := fun f l => chG_len n f l
    have hch : chG (n + 1) f l = ((cS (chG n) f l l.length).1, max (cS (chG n) f l l.length).2 0) := rfl
    rw [hch]
    clear hch ih
    generalize hGG : chG n = G at *
    obtain ⟨E, hE⟩ : ∃ E, E = cS G f l l.length := ⟨_, rfl⟩
    rw [← hE]
    have hE1 := hcS l.length (Nat.le_refl _)
    rw [← hE] at hE1
    refine pc_of_awp cx (fn := Try.f47) (c := _) Try.func47 rfl rfl (Nat.le_of_ble_eq_true rfl) ?_
    rw [Try.ntmps47]; (repeat (first | refine awp_seq ?_ | refine awp_block ?_ | refine awp_scope ?_ | refine awp_skip ?_ | refine awp_exit ?_ | refine awp_ret ?_ | refine sq_n ?_ | refine sq_r ?_ | refine sq_x ?_ | refine bq_n ?_ | refine bq_r ?_ | refine bq_x ?_ | refine bq_y rfl ?_ | refine pq_n ?_ | refine pq_r ?_ | refine pq_x ?_))
    refine awp_region cx [] fun K hK => ?_
    simp [push_cast]
    first | refine hK _ ?_ | refine ⟨(by clear hK; intros; first | omega | (simp_all; done) | (simp_all <;> omega)), hK _ ?_⟩ | refine ⟨(by clear hK; intros; first | omega | (simp_all; done) | (simp_all <;> omega)), (by clear hK; intros; first | omega | (simp_all; done) | (simp_all <;> omega)), hK _ ?_⟩ | refine ⟨(by clear hK; intros; first | omega | (simp_all; done) | (simp_all <;> omega)), (by clear hK; intros; first | omega | (simp_all; done) | (simp_all <;> omega)), (by clear hK; intros; first | omega | (simp_all; done) | (simp_all <;> omega)), hK _ ?_⟩
    clear hK K; (repeat (first | refine awp_seq ?_ | refine awp_block ?_ | refine awp_scope ?_ | refine awp_skip ?_ | refine awp_exit ?_ | refine awp_ret ?_ | refine sq_n ?_ | refine sq_r ?_ | refine sq_x ?_ | refine bq_n ?_ | refine bq_r ?_ | refine bq_x ?_ | refine bq_y rfl ?_ | refine pq_n ?_ | refine pq_r ?_ | refine pq_x ?_))
    refine awp_region cx [] fun K hK => ?_
    simp [push_cast]
    first | refine hK _ ?_ | refine ⟨(by clear hK; intros; first | omega | (simp_all; done) | (simp_all <;> omega)), hK _ ?_⟩ | refine ⟨(by clear hK; intros; first | omega | (simp_all; done) | (simp_all <;> omega)), (by clear hK; intros; first | omega | (simp_all; done) | (simp_all <;> omega)), hK _ ?_⟩ | refine ⟨(by clear hK; intros; first | omega | (simp_all; done) | (simp_all <;> omega)), (by clear hK; intros; first | omega | (simp_all; done) | (simp_all <;> omega)), (by clear hK; intros; first | omega | (simp_all; done) | (simp_all <;> omega)), hK _ ?_⟩
    clear hK K; (repeat (first | refine awp_seq ?_ | refine awp_block ?_ | refine awp_scope ?_ | refine awp_skip ?_ | refine awp_exit ?_ | refine awp_ret ?_ | refine sq_n ?_ | refine sq_r ?_ | refine sq_x ?_ | refine bq_n ?_ | refine bq_r ?_ | refine bq_x ?_ | refine bq_y rfl ?_ | refine pq_n ?_ | refine pq_r ?_ | refine pq_x ?_))
    refine awp_region cx [] fun K hK => ?_
    simp [push_cast]
    first | refine hK _ ?_ | refine ⟨(by clear hK; intros; first | omega | (simp_all; done) | (simp_all <;> omega)), hK _ ?_⟩ | refine ⟨(by clear hK; intros; first | omega | (simp_all; done) | (simp_all <;> omega)), (by clear hK; intros; first | omega | (simp_all; done) | (simp_all <;> omega)), hK _ ?_⟩ | refine ⟨(by clear hK; intros; first | omega | (simp_all; done) | (simp_all <;> omega)), (by clear hK; intros; first | omega | (simp_all; done) | (simp_all <;> omega)), (by clear hK; intros; first | omega | (simp_all; done) | (simp_all <;> omega)), hK _ ?_⟩
    clear hK K; (repeat (first | refine awp_seq ?_ | refine awp_block ?_ | refine awp_scope ?_ | refine awp_skip ?_ | refine awp_exit ?_ | refine awp_ret ?_ | refine sq_n ?_ | refine sq_r ?_ | refine sq_x ?_ | refine bq_n ?_ | refine bq_r ?_ | refine bq_x ?_ | refine bq_y rfl ?_ | refine pq_n ?_ | refine pq_r ?_ | refine pq_x ?_))
    refine awp_region cx [] fun K hK => ?_
    simp [push_cast]
    first | refine hK _ ?_ | refine ⟨(by clear hK; intros; first | omega | (simp_all; done) | (simp_all <;> omega)), hK _ ?_⟩ | refine ⟨(by clear hK; intros; first | omega | (simp_all; done) | (simp_all <;> omega)), (by clear hK; intros; first | omega | (simp_all; done) | (simp_all <;> omega)), hK _ ?_⟩ | refine ⟨(by clear hK; intros; first | omega | (simp_all; done) | (simp_all <;> omega)), (by clear hK; intros; first | omega | (simp_all; done) | (simp_all <;> omega)), (by clear hK; intros; first | omega | (simp_all; done) | (simp_all <;> omega)), hK _ ?_⟩
    clear hK K; (repeat (first | refine awp_seq ?_ | refine awp_block ?_ | refine awp_scope ?_ | refine awp_skip ?_ | refine awp_exit ?_ | refine awp_ret ?_ | refine sq_n ?_ | refine sq_r ?_ | refine sq_x ?_ | refine bq_n ?_ | refine bq_r ?_ | refine bq_x ?_ | refine bq_y rfl ?_ | refine pq_n ?_ | refine pq_r ?_ | refine pq_x ?_))
    refine awp_loop (β := Nat × List Track × Int) (fun b => ⟨79, [(1, .d (encTracks l)), (2, .ptr 0 0 0), (6, .hs 1 0 b.2.1.length), (7, .d (.int .i64 b.2.2)), (15, .d (encTracks l)), (16, .d (.int .i64 l.length)), (17, .d (.int .i64 b.1))], [(0, some ⟨23, 2, [f.row.map .d]⟩), (1, some ⟨36, 3, dr (b.2.1.map Track.row)⟩)], 2⟩) (fun b => b.1 ≤ l.length ∧ cS G f l b.1 = b.2) (fun b => l.length - b.1) (0, [], -1) ?_ ⟨Nat.zero_le _, rfl⟩ ?_
    · refine weak_of [(0, some 0), (1, none)] rfl (by simp [upT, up, upL, push_cast]) (by simp [upH, upR, upL, up, push_cast]) (by simp [namesOk, push_cast]) (by simp [olds])
    · rintro ⟨i, S, s⟩ ⟨hi, hSt⟩
      simp only at hi hSt
      (repeat (first | refine awp_seq ?_ | refine awp_block ?_ | refine awp_scope ?_ | refine awp_skip ?_ | refine awp_exit ?_ | refine awp_ret ?_ | refine sq_n ?_ | refine sq_r ?_ | refine sq_x ?_ | refine bq_n ?_ | refine bq_r ?_ | refine bq_x ?_ | refine bq_y rfl ?_ | refine pq_n ?_ | refine pq_r ?_ | refine pq_x ?_))
      refine awp_region cx [] fun K hK => ?_
      simp [push_cast]
      first | refine hK _ ?_ | refine ⟨(by clear hK; intros; first | omega | (simp_all; done) | (simp_all <;> omega)), hK _ ?_⟩ | refine ⟨(by clear hK; intros; first | omega | (simp_all; done) | (simp_all <;> omega)), (by clear hK; intros; first | omega | (simp_all; done) | (simp_all <;> omega)), hK _ ?_⟩ | refine ⟨(by clear hK; intros; first | omega | (simp_all; done) | (simp_all <;> omega)), (by clear hK; intros; first | omega | (simp_all; done) | (simp_all <;> omega)), (by clear hK; intros; first | omega | (simp_all; done) | (simp_all <;> omega)), hK _ ?_⟩
      clear hK K; (repeat (first | refine awp_seq ?_ | refine awp_block ?_ | refine awp_scope ?_ | refine awp_skip ?_ | refine awp_exit ?_ | refine awp_ret ?_ | refine sq_n ?_ | refine sq_r ?_ | refine sq_x ?_ | refine bq_n ?_ | refine bq_r ?_ | refine bq_x ?_ | refine bq_y rfl ?_ | refine pq_n ?_ | refine pq_r ?_ | refine pq_x ?_))
      refine awp_cond (b := decide ((i : Int) < l.length)) (by simp [push_cast]) (fun hb => ?_) (fun hb => ?_) <;> ((repeat (first | refine awp_seq ?_ | refine awp_block ?_ | refine awp_scope ?_ | refine awp_skip ?_ | refine awp_exit ?_ | refine awp_ret ?_ | refine sq_n ?_ | refine sq_r ?_ | refine sq_x ?_ | refine bq_n ?_ | refine bq_r ?_ | refine bq_x ?_ | refine bq_y rfl ?_ | refine pq_n ?_ | refine pq_r ?_ | refine pq_x ?_)))
      · have hlt : i < l.length := by simpa using hb
        obtain ⟨t, hx⟩ := getq hlt
        have hvt := hL t (List.mem_of_getElem? hx)
        have e0 := wrap_i64 (n := (i : Int) + 1) (by omega) (by omega)
        have hs : cS G f l (i + 1) = (vs t).foldl (stp G f l i) (cS G f l i) := by simp only [cS, hx]
        have c1 := rreverse_ok t (validT_facts hvt).2.1
        have hvs : vs t = if t.closed then [t] else [t, revT t] := rfl
        have hVv : ∀ v ∈ vs t, validT v = true := fun v hv => vs_valid hvt hv
        have hVl := vs_len t
        have hbd := hcS i hi
        have c2 := other_ok l i (by omega) hlt
        have hfold := fun j => fold_bd (l := l) (i := i) (M := 16384 * (n + 1)) hf (fun v hv => hGbd i v hlt hv) ((vs t).take j) (cS G f l i) (fun v hv => hVv v (List.mem_of_mem_take hv)) hbd
        have hGok' := fun v hv => hGok i v hlt hv
        have hGbd' := fun v hv => hGbd i v hlt hv
        rw [hSt] at hs hfold
        have hstp : ∀ st v, stp G f l i st v = if st.2 < 0 ∨ (G (lstC v) (l.eraseIdx i)).2 + dist f (fstC v) < st.2 then (v :: (G (lstC v) (l.eraseIdx i)).1, (G (lstC v) (l.eraseIdx i)).2 + dist f (fstC v)) else st := fun _ _ => rfl
        generalize stp G f l i = stq at *
        generalize vs t = V at *
        generalize revT t = rt at *
        generalize l.eraseIdx i = le at *
        refine awp_region cx [] fun K hK => ?_
        simp [push_cast, hx, Track.row]
        first | refine hK _ ?_ | refine ⟨(by clear hK; intros; first | omega | (simp_all; done) | (simp_all <;> omega)), hK _ ?_⟩ | refine ⟨(by clear hK; intros; first | omega | (simp_all; done) | (simp_all <;> omega)), (by clear hK; intros; first | omega | (simp_all; done) | (simp_all <;> omega)), hK _ ?_⟩ | refine ⟨(by clear hK; intros; first | omega | (simp_all; done) | (simp_all <;> omega)), (by clear hK; intros; first | omega | (simp_all; done) | (simp_all <;> omega)), (by clear hK; intros; first | omega | (simp_all; done) | (simp_all <;> omega)), hK _ ?_⟩
        clear hK K; (repeat (first | refine awp_seq ?_ | refine awp_block ?_ | refine awp_scope ?_ | refine awp_skip ?_ | refine awp_exit ?_ | refine awp_ret ?_ | refine sq_n ?_ | refine sq_r ?_ | refine sq_x ?_ | refine bq_n ?_ | refine bq_r ?_ | refine bq_x ?_ | refine bq_y rfl ?_ | refine pq_n ?_ | refine pq_r ?_ | refine pq_x ?_))
        refine awp_region cx [] fun K hK => ?_
        simp [push_cast, Track.row]
        first | refine hK _ ?_ | refine ⟨(by clear hK; intros; first | omega | (simp_all; done) | (simp_all <;> omega)), hK _ ?_⟩ | refine ⟨(by clear hK; intros; first | omega | (simp_all; done) | (simp_all <;> omega)), (by clear hK; intros; first | omega | (simp_all; done) | (simp_all <;> omega)), hK _ ?_⟩ | refine ⟨(by clear hK; intros; first | omega | (simp_all; done) | (simp_all <;> omega)), (by clear hK; intros; first | omega | (simp_all; done) | (simp_all <;> omega)), (by clear hK; intros; first | omega | (simp_all; done) | (simp_all <;> omega)), hK _ ?_⟩
        clear hK K; (repeat (first | refine awp_seq ?_ | refine awp_block ?_ | refine awp_scope ?_ | refine awp_skip ?_ | refine awp_exit ?_ | refine awp_ret ?_ | refine sq_n ?_ | refine sq_r ?_ | refine sq_x ?_ | refine bq_n ?_ | refine bq_r ?_ | refine bq_x ?_ | refine bq_y rfl ?_ | refine pq_n ?_ | refine pq_r ?_ | refine pq_x ?_))
        refine awp_region cx [] fun K hK => ?_
        simp [push_cast]
        first | refine hK _ ?_ | refine ⟨(by clear hK; intros; first | omega | (simp_all; done) | (simp_all <;> omega)), hK _ ?_⟩ | refine ⟨(by clear hK; intros; first | omega | (simp_all; done) | (simp_all <;> omega)), (by clear hK; intros; first | omega | (simp_all; done) | (simp_all <;> omega)), hK _ ?_⟩ | refine ⟨(by clear hK; intros; first | omega | (simp_all; done) | (simp_all <;> omega)), (by clear hK; intros; first | omega | (simp_all; done) | (simp_all <;> omega)), (by clear hK; intros; first | omega | (simp_all; done) | (simp_all <;> omega)), hK _ ?_⟩
        clear hK K; (repeat (first | refine awp_seq ?_ | refine awp_block ?_ | refine awp_scope ?_ | refine awp_skip ?_ | refine awp_exit ?_ | refine awp_ret ?_ | refine sq_n ?_ | refine sq_r ?_ | refine sq_x ?_ | refine bq_n ?_ | refine bq_r ?_ | refine bq_x ?_ | refine bq_y rfl ?_ | refine pq_n ?_ | refine pq_r ?_ | refine pq_x ?_))
        apply cut_
        · intro key
          refine awp_cond (b := !t.closed) (by simp [push_cast]) (fun hb => ?_) (fun hb => ?_) <;> ((repeat (first | refine awp_seq ?_ | refine awp_block ?_ | refine awp_scope ?_ | refine awp_skip ?_ | refine awp_exit ?_ | refine awp_ret ?_ | refine sq_n ?_ | refine sq_r ?_ | refine sq_x ?_ | refine bq_n ?_ | refine bq_r ?_ | refine bq_x ?_ | refine bq_y rfl ?_ | refine pq_n ?_ | refine pq_r ?_ | refine pq_x ?_)))
          · simp at hb
            rw [if_neg (by simp [hb])] at hvs
            refine awp_region cx [(2, .p (.agg rt.row))] fun K hK => ?_
            simp [push_cast, c1, Track.row]
            first | refine hK _ ?_ | refine ⟨(by clear hK; intros; first | omega | (simp_all; done) | (simp_all <;> omega)), hK _ ?_⟩ | refine ⟨(by clear hK; intros; first | omega | (simp_all; done) | (simp_all <;> omega)), (by clear hK; intros; first | omega | (simp_all; done) | (simp_all <;> omega)), hK _ ?_⟩ | refine ⟨(by clear hK; intros; first | omega | (simp_all; done) | (simp_all <;> omega)), (by clear hK; intros; first | omega | (simp_all; done) | (simp_all <;> omega)), (by clear hK; intros; first | omega | (simp_all; done) | (simp_all <;> omega)), hK _ ?_⟩
            clear hK K; (repeat (first | refine awp_seq ?_ | refine awp_block ?_ | refine awp_scope ?_ | refine awp_skip ?_ | refine awp_exit ?_ | refine awp_ret ?_ | refine sq_n ?_ | refine sq_r ?_ | refine sq_x ?_ | refine bq_n ?_ | refine bq_r ?_ | refine bq_x ?_ | refine bq_y rfl ?_ | refine pq_n ?_ | refine pq_r ?_ | refine pq_x ?_))
            have hrow : List.map Track.row V = [t.row, rt.row] := by rw [hvs]; rfl
            have hVe : V.length = 2 := by rw [hvs]; rfl
            refine awp_freeze 19 (List.map Track.row V) rfl (by simp [push_cast, hrow, Track.row]) fun K hK => ?_
            simp [push_cast, St.fz, fzT, fzH, fzO, fz, fzL, fzR, fzR_dr, fzR_app, fzR_set, fzL_map, hrow, Track.row]
            refine hK _ ?_; clear hK K; (repeat (first | refine awp_seq ?_ | refine awp_block ?_ | refine awp_scope ?_ | refine awp_skip ?_ | refine awp_exit ?_ | refine awp_ret ?_ | refine sq_n ?_ | refine sq_r ?_ | refine sq_x ?_ | refine bq_n ?_ | refine bq_r ?_ | refine bq_x ?_ | refine bq_y rfl ?_ | refine pq_n ?_ | refine pq_r ?_ | refine pq_x ?_))
            refine awp_region cx [] fun K hK => ?_
            simp [push_cast]
            first | refine hK _ ?_ | refine ⟨(by clear hK; intros; first | omega | (simp_all; done) | (simp_all <;> omega)), hK _ ?_⟩ | refine ⟨(by clear hK; intros; first | omega | (simp_all; done) | (simp_all <;> omega)), (by clear hK; intros; first | omega | (simp_all; done) | (simp_all <;> omega)), hK _ ?_⟩ | refine ⟨(by clear hK; intros; first | omega | (simp_all; done) | (simp_all <;> omega)), (by clear hK; intros; first | omega | (simp_all; done) | (simp_all <;> omega)), (by clear hK; intros; first | omega | (simp_all; done) | (simp_all <;> omega)), hK _ ?_⟩
            clear hK K; (repeat (first | refine awp_seq ?_ | refine awp_block ?_ | refine awp_scope ?_ | refine awp_skip ?_ | refine awp_exit ?_ | refine awp_ret ?_ | refine sq_n ?_ | refine sq_r ?_ | refine sq_x ?_ | refine bq_n ?_ | refine bq_r ?_ | refine bq_x ?_ | refine bq_y rfl ?_ | refine pq_n ?_ | refine pq_r ?_ | refine pq_x ?_))
            refine awp_loop (β := Nat × List Track × Int) (fun b => ⟨79, [(1, .d (encTracks l)), (2, .ptr 0 0 0), (6, .hs 1 0 b.2.1.length), (7, .d (.int .i64 b.2.2)), (8, .d (.int .i64 i)), (15, .d (encTracks l)), (16, .d (.int .i64 l.length)), (17, .d (.int .i64 i)), (32, .d (.sl (V.map Track.row))), (33, .d (.int .i64 V.length)), (34, .d (.int .i64 b.1))], [(0, some ⟨23, 2, [f.row.map .d]⟩), (1, some ⟨36, 3, dr (b.2.1.map Track.row)⟩)], 2⟩) (fun b => b.1 ≤ V.length ∧ (V.take b.1).foldl stq (S, s) = b.2) (fun b => V.length - b.1) (0, S, s) ?_ ⟨Nat.zero_le _, rfl⟩ key.h
            refine weak_of [(0, some 0), (1, some 1)] rfl (by simp [upT, up, upL, push_cast, hrow, hVe, Track.row]) (by simp [upH, upR, upL, up, push_cast, hrow, hVe, Track.row]) (by simp [namesOk, push_cast]) (by simp [olds])
          · simp at hb
            rw [if_pos hb] at hvs
            have hrow : List.map Track.row V = [t.row] := by rw [hvs]; rfl
            have hVe : V.length = 1 := by rw [hvs]; rfl
            refine awp_freeze 10 (List.map Track.row V) rfl (by simp [push_cast, hrow, Track.row]) fun K hK => ?_
            simp [push_cast, St.fz, fzT, fzH, fzO, fz, fzL, fzR, fzR_dr, fzR_app, fzR_set, fzL_map, hrow, Track.row]
            refine hK _ ?_; clear hK K; (repeat (first | refine awp_seq ?_ | refine awp_block ?_ | refine awp_scope ?_ | refine awp_skip ?_ | refine awp_exit ?_ | refine awp_ret ?_ | refine sq_n ?_ | refine sq_r ?_ | refine sq_x ?_ | refine bq_n ?_ | refine bq_r ?_ | refine bq_x ?_ | refine bq_y rfl ?_ | refine pq_n ?_ | refine pq_r ?_ | refine pq_x ?_))
            refine awp_region cx [] fun K hK => ?_
            simp [push_cast]
            first | refine hK _ ?_ | refine ⟨(by clear hK; intros; first | omega | (simp_all; done) | (simp_all <;> omega)), hK _ ?_⟩ | refine ⟨(by clear hK; intros; first | omega | (simp_all; done) | (simp_all <;> omega)), (by clear hK; intros; first | omega | (simp_all; done) | (simp_all <;> omega)), hK _ ?_⟩ | refine ⟨(by clear hK; intros; first | omega | (simp_all; done) | (simp_all <;> omega)), (by clear hK; intros; first | omega | (simp_all; done) | (simp_all <;> omega)), (by clear hK; intros; first | omega | (simp_all; done) | (simp_all <;> omega)), hK _ ?_⟩
            clear hK K; (repeat (first | refine awp_seq ?_ | refine awp_block ?_ | refine awp_scope ?_ | refine awp_skip ?_ | refine awp_exit ?_ | refine awp_ret ?_ | refine sq_n ?_ | refine sq_r ?_ | refine sq_x ?_ | refine bq_n ?_ | refine bq_r ?_ | refine bq_x ?_ | refine bq_y rfl ?_ | refine pq_n ?_ | refine pq_r ?_ | refine pq_x ?_))
            refine awp_loop (β := Nat × List Track × Int) (fun b => ⟨79, [(1, .d (encTracks l)), (2, .ptr 0 0 0), (6, .hs 1 0 b.2.1.length), (7, .d (.int .i64 b.2.2)), (8, .d (.int .i64 i)), (15, .d (encTracks l)), (16, .d (.int .i64 l.length)), (17, .d (.int .i64 i)), (32, .d (.sl (V.map Track.row))), (33, .d (.int .i64 V.length)), (34, .d (.int .i64 b.1))], [(0, some ⟨23, 2, [f.row.map .d]⟩), (1, some ⟨36, 3, dr (b.2.1.map Track.row)⟩)], 2⟩) (fun b => b.1 ≤ V.length ∧ (V.take b.1).foldl stq (S, s) = b.2) (fun b => V.length - b.1) (0, S, s) ?_ ⟨Nat.zero_le _, rfl⟩ key.h
            refine weak_of [(0, some 0), (1, some 1)] rfl (by simp [upT, up, upL, push_cast, hrow, hVe, Track.row]) (by simp [upH, upR, upL, up, push_cast, hrow, hVe, Track.row]) (by simp [namesOk, push_cast]) (by simp [olds])
        · rintro ⟨j, B, bb⟩ ⟨hj, hB⟩
          simp only at hj hB
          have hbj := hfold j
          rw [hB] at hbj
          simp only at hbj
          (repeat (first | refine awp_seq ?_ | refine awp_block ?_ | refine awp_scope ?_ | refine awp_skip ?_ | refine awp_exit ?_ | refine awp_ret ?_ | refine sq_n ?_ | refine sq_r ?_ | refine sq_x ?_ | refine bq_n ?_ | refine bq_r ?_ | refine bq_x ?_ | refine bq_y rfl ?_ | refine pq_n ?_ | refine pq_r ?_ | refine pq_x ?_))
          refine awp_region cx [] fun K hK => ?_
          simp [push_cast]
          first | refine hK _ ?_ | refine ⟨(by clear hK; intros; first | omega | (simp_all; done) | (simp_all <;> omega)), hK _ ?_⟩ | refine ⟨(by clear hK; intros; first | omega | (simp_all; done) | (simp_all <;> omega)), (by clear hK; intros; first | omega | (simp_all; done) | (simp_all <;> omega)), hK _ ?_⟩ | refine ⟨(by clear hK; intros; first | omega | (simp_all; done) | (simp_all <;> omega)), (by clear hK; intros; first | omega | (simp_all; done) | (simp_all <;> omega)), (by clear hK; intros; first | omega | (simp_all; done) | (simp_all <;> omega)), hK _ ?_⟩
          clear hK K; (repeat (first | refine awp_seq ?_ | refine awp_block ?_ | refine awp_scope ?_ | refine awp_skip ?_ | refine awp_exit ?_ | refine awp_ret ?_ | refine sq_n ?_ | refine sq_r ?_ | refine sq_x ?_ | refine bq_n ?_ | refine bq_r ?_ | refine bq_x ?_ | refine bq_y rfl ?_ | refine pq_n ?_ | refine pq_r ?_ | refine pq_x ?_))
          refine awp_cond (b := decide ((j : Int) < V.length)) (by simp [push_cast]) (fun hb => ?_) (fun hb => ?_) <;> ((repeat (first | refine awp_seq ?_ | refine awp_block ?_ | refine awp_scope ?_ | refine awp_skip ?_ | refine awp_exit ?_ | refine awp_ret ?_ | refine sq_n ?_ | refine sq_r ?_ | refine sq_x ?_ | refine bq_n ?_ | refine bq_r ?_ | refine bq_x ?_ | refine bq_y rfl ?_ | refine pq_n ?_ | refine pq_r ?_ | refine pq_x ?_)))
          · have hltj : j < V.length := by simpa using hb
            obtain ⟨v, hv⟩ := getq hltj
            have hvv := hVv v (List.mem_of_getElem? hv)
            obtain ⟨v1, v2, v3, v4, v5, v6, v7⟩ := validT_facts hvv
            have c3 := hGok' v hvv
            have c4 := distance_ok hf v6
            have hd := dist_bd hf v6
            have hg := hGbd' v hvv
            have hgl := hGlen (lstC v) le
            have hstv := hstp (B, bb) v
            have hnx : (V.take (j + 1)).foldl stq (S, s) = stq (B, bb) v := by rw [foldl_take _ _ _ hv, hB]
            have e1 := wrap_i64 (n := (j : Int) + 1) (by omega) (by omega)
            have e2 := wrap_i64 (n := (v.cells.length : Int) - 1) (by omega) (by omega)
            have e3 : ((v.cells.length : Int) - 1).toNat = v.cells.length - 1 := by omega
            have hk2 : (0 : Int) ≤ (v.cells.length : Int) - 1 := by omega
            generalize G (lstC v) le = g at *
            obtain ⟨gl, gc⟩ := g
            simp only at c3 hg hgl hstv
            have e5 : (1 + gl.length) * 40 ≤ 140737488355328 := by omega
            have e6 : (gl.length + 1) * 40 ≤ 140737488355328 := by omega
            have htk : List.take gl.length (gl.map Track.row) = gl.map Track.row := List.take_of_length_le (by simp)
            generalize dist f (fstC v) = d at *
            generalize fstC v = a at *
            generalize lstC v = b at *
            have e4 := wrap_i64 (n := gc + d) (by omega) (by omega)
            refine awp_region cx [] fun K hK => ?_
            simp [push_cast, hv, Track.row]
            first | refine hK _ ?_ | refine ⟨(by clear hK; intros; first | omega | (simp_all; done) | (simp_all <;> omega)), hK _ ?_⟩ | refine ⟨(by clear hK; intros; first | omega | (simp_all; done) | (simp_all <;> omega)), (by clear hK; intros; first | omega | (simp_all; done) | (simp_all <;> omega)), hK _ ?_⟩ | refine ⟨(by clear hK; intros; first | omega | (simp_all; done) | (simp_all <;> omega)), (by clear hK; intros; first | omega | (simp_all; done) | (simp_all <;> omega)), (by clear hK; intros; first | omega | (simp_all; done) | (simp_all <;> omega)), hK _ ?_⟩
            clear hK K; (repeat (first | refine awp_seq ?_ | refine awp_block ?_ | refine awp_scope ?_ | refine awp_skip ?_ | refine awp_exit ?_ | refine awp_ret ?_ | refine sq_n ?_ | refine sq_r ?_ | refine sq_x ?_ | refine bq_n ?_ | refine bq_r ?_ | refine bq_x ?_ | refine bq_y rfl ?_ | refine pq_n ?_ | refine pq_r ?_ | refine pq_x ?_))
            refine awp_region_draw cx mixed [(10, .p (encTracks le)), (11, .p (.tup [encTracks gl, .int .i64 gc]))] fun K hK => ?_
            simp [push_cast, c2, c3, e2, e3, v4, hk2]
            first | refine hK _ _ (by kernel_rfl) ?_ | refine ⟨(by clear hK; intros; first | omega | (simp_all; done) | (simp_all <;> omega)), hK _ _ (by kernel_rfl) ?_⟩ | refine ⟨(by clear hK; intros; first | omega | (simp_all; done) | (simp_all <;> omega)), (by clear hK; intros; first | omega | (simp_all; done) | (simp_all <;> omega)), hK _ _ (by kernel_rfl) ?_⟩ | refine ⟨(by clear hK; intros; first | omega | (simp_all; done) | (simp_all <;> omega)), (by clear hK; intros; first | omega | (simp_all; done) | (simp_all <;> omega)), (by clear hK; intros; first | omega | (simp_all; done) | (simp_all <;> omega)), hK _ _ (by kernel_rfl) ?_⟩
            clear hK K; (repeat (first | refine awp_seq ?_ | refine awp_block ?_ | refine awp_scope ?_ | refine awp_skip ?_ | refine awp_exit ?_ | refine awp_ret ?_ | refine sq_n ?_ | refine sq_r ?_ | refine sq_x ?_ | refine bq_n ?_ | refine bq_r ?_ | refine bq_x ?_ | refine bq_y rfl ?_ | refine pq_n ?_ | refine pq_r ?_ | refine pq_x ?_))
            refine awp_region_draw cx mixed [(6, .p (.int .i64 d))] fun K hK => ?_
            simp [push_cast, c4, e4, v3]
            first | refine hK _ _ (by kernel_rfl) ?_ | refine ⟨(by clear hK; intros; first | omega | (simp_all; done) | (simp_all <;> omega)), hK _ _ (by kernel_rfl) ?_⟩ | refine ⟨(by clear hK; intros; first | omega | (simp_all; done) | (simp_all <;> omega)), (by clear hK; intros; first | omega | (simp_all; done) | (simp_all <;> omega)), hK _ _ (by kernel_rfl) ?_⟩ | refine ⟨(by clear hK; intros; first | omega | (simp_all; done) | (simp_all <;> omega)), (by clear hK; intros; first | omega | (simp_all; done) | (simp_all <;> omega)), (by clear hK; intros; first | omega | (simp_all; done) | (simp_all <;> omega)), hK _ _ (by kernel_rfl) ?_⟩
            clear hK K; (repeat (first | refine awp_seq ?_ | refine awp_block ?_ | refine awp_scope ?_ | refine awp_skip ?_ | refine awp_exit ?_ | refine awp_ret ?_ | refine sq_n ?_ | refine sq_r ?_ | refine sq_x ?_ | refine bq_n ?_ | refine bq_r ?_ | refine bq_x ?_ | refine bq_y rfl ?_ | refine pq_n ?_ | refine pq_r ?_ | refine pq_x ?_))
            refine awp_region cx [] fun K hK => ?_
            simp [push_cast]
            first | refine hK _ ?_ | refine ⟨(by clear hK; intros; first | omega | (simp_all; done) | (simp_all <;> omega)), hK _ ?_⟩ | refine ⟨(by clear hK; intros; first | omega | (simp_all; done) | (simp_all <;> omega)), (by clear hK; intros; first | omega | (simp_all; done) | (simp_all <;> omega)), hK _ ?_⟩ | refine ⟨(by clear hK; intros; first | omega | (simp_all; done) | (simp_all <;> omega)), (by clear hK; intros; first | omega | (simp_all; done) | (simp_all <;> omega)), (by clear hK; intros; first | omega | (simp_all; done) | (simp_all <;> omega)), hK _ ?_⟩
            clear hK K; (repeat (first | refine awp_seq ?_ | refine awp_block ?_ | refine awp_scope ?_ | refine awp_skip ?_ | refine awp_exit ?_ | refine awp_ret ?_ | refine sq_n ?_ | refine sq_r ?_ | refine sq_x ?_ | refine bq_n ?_ | refine bq_r ?_ | refine bq_x ?_ | refine bq_y rfl ?_ | refine pq_n ?_ | refine pq_r ?_ | refine pq_x ?_))
            refine awp_cond (by simp [push_cast] <;> exact rfl) (fun hb => ?_) (fun hb => ?_) <;> ((repeat (first | refine awp_seq ?_ | refine awp_block ?_ | refine awp_scope ?_ | refine awp_skip ?_ | refine awp_exit ?_ | refine awp_ret ?_ | refine sq_n ?_ | refine sq_r ?_ | refine sq_x ?_ | refine bq_n ?_ | refine bq_r ?_ | refine bq_x ?_ | refine bq_y rfl ?_ | refine pq_n ?_ | refine pq_r ?_ | refine pq_x ?_)))
            · simp at hb
              rw [if_pos hb] at hstv
              refine awp_region cx [] fun K hK => ?_
              simp [push_cast, Track.row]
              first | refine hK _ ?_ | refine ⟨(by clear hK; intros; first | omega | (simp_all; done) | (simp_all <;> omega)), hK _ ?_⟩ | refine ⟨(by clear hK; intros; first | omega | (simp_all; done) | (simp_all <;> omega)), (by clear hK; intros; first | omega | (simp_all; done) | (simp_all <;> omega)), hK _ ?_⟩ | refine ⟨(by clear hK; intros; first | omega | (simp_all; done) | (simp_all <;> omega)), (by clear hK; intros; first | omega | (simp_all; done) | (simp_all <;> omega)), (by clear hK; intros; first | omega | (simp_all; done) | (simp_all <;> omega)), hK _ ?_⟩
              clear hK K; (repeat (first | refine awp_seq ?_ | refine awp_block ?_ | refine awp_scope ?_ | refine awp_skip ?_ | refine awp_exit ?_ | refine awp_ret ?_ | refine sq_n ?_ | refine sq_r ?_ | refine sq_x ?_ | refine bq_n ?_ | refine bq_r ?_ | refine bq_x ?_ | refine bq_y rfl ?_ | refine pq_n ?_ | refine pq_r ?_ | refine pq_x ?_))
              refine awp_region cx [] fun K hK => ?_
              simp [push_cast, e5, e6, htk]
              first | refine hK _ ?_ | refine ⟨(by clear hK; intros; first | omega | (simp_all; done) | (simp_all <;> omega)), hK _ ?_⟩ | refine ⟨(by clear hK; intros; first | omega | (simp_all; done) | (simp_all <;> omega)), (by clear hK; intros; first | omega | (simp_all; done) | (simp_all <;> omega)), hK _ ?_⟩ | refine ⟨(by clear hK; intros; first | omega | (simp_all; done) | (simp_all <;> omega)), (by clear hK; intros; first | omega | (simp_all; done) | (simp_all <;> omega)), (by clear hK; intros; first | omega | (simp_all; done) | (simp_all <;> omega)), hK _ ?_⟩
              clear hK K; (repeat (first | refine awp_seq ?_ | refine awp_block ?_ | refine awp_scope ?_ | refine awp_skip ?_ | refine awp_exit ?_ | refine awp_ret ?_ | refine sq_n ?_ | refine sq_r ?_ | refine sq_x ?_ | refine bq_n ?_ | refine bq_r ?_ | refine bq_x ?_ | refine bq_y rfl ?_ | refine pq_n ?_ | refine pq_r ?_ | refine pq_x ?_))
              refine awp_region cx [] fun K hK => ?_
              simp [push_cast]
              first | refine hK _ ?_ | refine ⟨(by clear hK; intros; first | omega | (simp_all; done) | (simp_all <;> omega)), hK _ ?_⟩ | refine ⟨(by clear hK; intros; first | omega | (simp_all; done) | (simp_all <;> omega)), (by clear hK; intros; first | omega | (simp_all; done) | (simp_all <;> omega)), hK _ ?_⟩ | refine ⟨(by clear hK; intros; first | omega | (simp_all; done) | (simp_all <;> omega)), (by clear hK; intros; first | omega | (simp_all; done) | (simp_all <;> omega)), (by clear hK; intros; first | omega | (simp_all; done) | (simp_all <;> omega)), hK _ ?_⟩
              clear hK K; (repeat (first | refine awp_seq ?_ | refine awp_block ?_ | refine awp_scope ?_ | refine awp_skip ?_ | refine awp_exit ?_ | refine awp_ret ?_ | refine sq_n ?_ | refine sq_r ?_ | refine sq_x ?_ | refine bq_n ?_ | refine bq_r ?_ | refine bq_x ?_ | refine bq_y rfl ?_ | refine pq_n ?_ | refine pq_r ?_ | refine pq_x ?_))
              refine awp_region cx [] fun K hK => ?_
              simp [push_cast, e1]
              first | refine hK _ ?_ | refine ⟨(by clear hK; intros; first | omega | (simp_all; done) | (simp_all <;> omega)), hK _ ?_⟩ | refine ⟨(by clear hK; intros; first | omega | (simp_all; done) | (simp_all <;> omega)), (by clear hK; intros; first | omega | (simp_all; done) | (simp_all <;> omega)), hK _ ?_⟩ | refine ⟨(by clear hK; intros; first | omega | (simp_all; done) | (simp_all <;> omega)), (by clear hK; intros; first | omega | (simp_all; done) | (simp_all <;> omega)), (by clear hK; intros; first | omega | (simp_all; done) | (simp_all <;> omega)), hK _ ?_⟩
              clear hK K; (repeat (first | refine awp_seq ?_ | refine awp_block ?_ | refine awp_scope ?_ | refine awp_skip ?_ | refine awp_exit ?_ | refine awp_ret ?_ | refine sq_n ?_ | refine sq_r ?_ | refine sq_x ?_ | refine bq_n ?_ | refine bq_r ?_ | refine bq_x ?_ | refine bq_y rfl ?_ | refine pq_n ?_ | refine pq_r ?_ | refine pq_x ?_))
              refine ⟨(j + 1, v :: gl, gc + d), ⟨hltj, by simp only; rw [hnx, hstv]⟩, by simp only; omega, ?_⟩
              have e7 : 1 + gl.length = gl.length + 1 := by omega
              refine weak_of [(0, some 0), (1, some 45)] rfl (by simp [upT, up, upL, push_cast, Track.row, e7]) (by simp [upH, upR, upL, up, push_cast, Track.row, e7]) (by simp [namesOk, push_cast]) (by simp [olds])
            · simp at hb
              rw [if_neg (by omega)] at hstv
              refine awp_region cx [] fun K hK => ?_
              simp [push_cast, e1]
              first | refine hK _ ?_ | refine ⟨(by clear hK; intros; first | omega | (simp_all; done) | (simp_all <;> omega)), hK _ ?_⟩ | refine ⟨(by clear hK; intros; first | omega | (simp_all; done) | (simp_all <;> omega)), (by clear hK; intros; first | omega | (simp_all; done) | (simp_all <;> omega)), hK _ ?_⟩ | refine ⟨(by clear hK; intros; first | omega | (simp_all; done) | (simp_all <;> omega)), (by clear hK; intros; first | omega | (simp_all; done) | (simp_all <;> omega)), (by clear hK; intros; first | omega | (simp_all; done) | (simp_all <;> omega)), hK _ ?_⟩
              clear hK K; (repeat (first | refine awp_seq ?_ | refine awp_block ?_ | refine awp_scope ?_ | refine awp_skip ?_ | refine awp_exit ?_ | refine awp_ret ?_ | refine sq_n ?_ | refine sq_r ?_ | refine sq_x ?_ | refine bq_n ?_ | refine bq_r ?_ | refine bq_x ?_ | refine bq_y rfl ?_ | refine pq_n ?_ | refine pq_r ?_ | refine pq_x ?_))
              refine ⟨(j + 1, B, bb), ⟨hltj, by simp only; rw [hnx, hstv]⟩, by simp only; omega, ?_⟩
              refine weak_of [(0, some 0), (1, some 1)] rfl (by simp [upT, up, upL, push_cast]) (by simp [upH, upR, upL, up, push_cast]) (by simp [namesOk, push_cast]) (by simp [olds])
          · have hge : j = V.length := by simp at hb; omega
            subst hge
            rw [List.take_length] at hB
            rw [hB] at hs
            refine awp_region cx [] fun K hK => ?_
            simp [push_cast, e0]
            first | refine hK _ ?_ | refine ⟨(by clear hK; intros; first | omega | (simp_all; done) | (simp_all <;> omega)), hK _ ?_⟩ | refine ⟨(by clear hK; intros; first | omega | (simp_all; done) | (simp_all <;> omega)), (by clear hK; intros; first | omega | (simp_all; done) | (simp_all <;> omega)), hK _ ?_⟩ | refine ⟨(by clear hK; intros; first | omega | (simp_all; done) | (simp_all <;> omega)), (by clear hK; intros; first | omega | (simp_all; done) | (simp_all <;> omega)), (by clear hK; intros; first | omega | (simp_all; done) | (simp_all <;> omega)), hK _ ?_⟩
            clear hK K; (repeat (first | refine awp_seq ?_ | refine awp_block ?_ | refine awp_scope ?_ | refine awp_skip ?_ | refine awp_exit ?_ | refine awp_ret ?_ | refine sq_n ?_ | refine sq_r ?_ | refine sq_x ?_ | refine bq_n ?_ | refine bq_r ?_ | refine bq_x ?_ | refine bq_y rfl ?_ | refine pq_n ?_ | refine pq_r ?_ | refine pq_x ?_))
            refine ⟨(i + 1, B, bb), ⟨hlt, hs⟩, by simp only; omega, ?_⟩
            refine weak_of [(0, some 0), (1, some 1)] rfl (by simp [upT, up, upL, push_cast]) (by simp [upH, upR, upL, up, push_cast]) (by simp [namesOk, push_cast]) (by simp [olds])
      · have hge : i = l.length := by simp at hb; omega
        subst hge
        rw [← hE] at hSt
        subst hSt
        have hm : max s 0 = max s 0 := rfl
        refine awp_region cx [] fun K hK => ?_
        simp [push_cast]
        first | refine hK _ ?_ | refine ⟨(by clear hK; intros; first | omega | (simp_all; done) | (simp_all <;> omega)), hK _ ?_⟩ | refine ⟨(by clear hK; intros; first | omega | (simp_all; done) | (simp_all <;> omega)), (by clear hK; intros; first | omega | (simp_all; done) | (simp_all <;> omega)), hK _ ?_⟩ | refine ⟨(by clear hK; intros; first | omega | (simp_all; done) | (simp_all <;> omega)), (by clear hK; intros; first | omega | (simp_all; done) | (simp_all <;> omega)), (by clear hK; intros; first | omega | (simp_all; done) | (simp_all <;> omega)), hK _ ?_⟩
        clear hK K; (repeat (first | refine awp_seq ?_ | refine awp_block ?_ | refine awp_scope ?_ | refine awp_skip ?_ | refine awp_exit ?_ | refine awp_ret ?_ | refine sq_n ?_ | refine sq_r ?_ | refine sq_x ?_ | refine bq_n ?_ | refine bq_r ?_ | refine bq_x ?_ | refine bq_y rfl ?_ | refine pq_n ?_ | refine pq_r ?_ | refine pq_x ?_))
        simp [push_cast]
end Go.Proofs.Ytdoedfheagkloaa
