/-
  The walks of this seat's functions and the plain laws behind them: part O3.
-/
import Derived.Test.YtdoedfheagkloaaO2
set_option linter.unusedVariables false
set_option linter.unusedSimpArgs false
namespace Go.Proofs.Ytdoedfheagkloaa
open Go.Abs

theorem take_eq_step {α : Type} {l r : List α} {k : Nat} {x y : α} (h : l.take k = r.take k) (hx : l[k]? = some x) (hy : r[k]? = some y) (e : x = y) : l.take (k + 1) = r.take (k + 1) := by
  rw [List.take_add_one, List.take_add_one, h, hx, hy, e]

theorem getq {α : Type} {l : List α} {k : Nat} (h : k < l.length) : ∃ x, l[k]? = some x := ⟨l[k], List.getElem?_eq_getElem h⟩

theorem drop_get {α : Type} {l : List α} {k : Nat} {x : α} (h : l[k]? = some x) : l.drop k = x :: l.drop (k + 1) := by
  have hlt := (List.getElem?_eq_some_iff.1 h).1
  rw [List.drop_eq_getElem_cons hlt]
  have := List.getElem?_eq_getElem hlt
  rw [h] at this
  cases this; rfl

theorem same_ok (a b : Track) (ha : a.cells.length ≤ 65536) : PC Try.prog 28 [.agg a.row, .agg b.row] (.p (.bool (decide (a = b)))) := by
  refine pc_of_awp cx (fn := Try.f28) (c := _) Try.func28 rfl rfl (Nat.le_of_ble_eq_true rfl) ?_
  rw [Try.ntmps28]; (repeat (first | refine awp_seq ?_ | refine awp_block ?_ | refine awp_scope ?_ | refine awp_skip ?_ | refine awp_exit ?_ | refine awp_ret ?_ | refine sq_n ?_ | refine sq_r ?_ | refine sq_x ?_ | refine bq_n ?_ | refine bq_r ?_ | refine bq_x ?_ | refine bq_y rfl ?_ | refine pq_n ?_ | refine pq_r ?_ | refine pq_x ?_))
  refine awp_region cx [] fun K hK => ?_
  simp [push_cast, Track.row]
  first | refine hK _ ?_ | refine ⟨(by clear hK; intros; first | omega | (simp_all; done) | (simp_all <;> omega)), hK _ ?_⟩ | refine ⟨(by clear hK; intros; first | omega | (simp_all; done) | (simp_all <;> omega)), (by clear hK; intros; first | omega | (simp_all; done) | (simp_all <;> omega)), hK _ ?_⟩ | refine ⟨(by clear hK; intros; first | omega | (simp_all; done) | (simp_all <;> omega)), (by clear hK; intros; first | omega | (simp_all; done) | (simp_all <;> omega)), (by clear hK; intros; first | omega | (simp_all; done) | (simp_all <;> omega)), hK _ ?_⟩
  clear hK K; (repeat (first | refine awp_seq ?_ | refine awp_block ?_ | refine awp_scope ?_ | refine awp_skip ?_ | refine awp_exit ?_ | refine awp_ret ?_ | refine sq_n ?_ | refine sq_r ?_ | refine sq_x ?_ | refine bq_n ?_ | refine bq_r ?_ | refine bq_x ?_ | refine bq_y rfl ?_ | refine pq_n ?_ | refine pq_r ?_ | refine pq_x ?_))
  refine awp_region cx [] fun K hK => ?_
  simp [push_cast, Track.row]
  first | refine hK _ ?_ | refine ⟨(by clear hK; intros; first | omega | (simp_all; done) | (simp_all <;> omega)), hK _ ?_⟩ | refine ⟨(by clear hK; intros; first | omega | (simp_all; done) | (simp_all <;> omega)), (by clear hK; intros; first | omega | (simp_all; done) | (simp_all <;> omega)), hK _ ?_⟩ | refine ⟨(by clear hK; intros; first | omega | (simp_all; done) | (simp_all <;> omega)), (by clear hK; intros; first | omega | (simp_all; done) | (simp_all <;> omega)), (by clear hK; intros; first | omega | (simp_all; done) | (simp_all <;> omega)), hK _ ?_⟩
  clear hK K; (repeat (first | refine awp_seq ?_ | refine awp_block ?_ | refine awp_scope ?_ | refine awp_skip ?_ | refine awp_exit ?_ | refine awp_ret ?_ | refine sq_n ?_ | refine sq_r ?_ | refine sq_x ?_ | refine bq_n ?_ | refine bq_r ?_ | refine bq_x ?_ | refine bq_y rfl ?_ | refine pq_n ?_ | refine pq_r ?_ | refine pq_x ?_))
  refine awp_cond (by simp [push_cast] <;> exact rfl) (fun hb => ?_) (fun hb => ?_) <;> ((repeat (first | refine awp_seq ?_ | refine awp_block ?_ | refine awp_scope ?_ | refine awp_skip ?_ | refine awp_exit ?_ | refine awp_ret ?_ | refine sq_n ?_ | refine sq_r ?_ | refine sq_x ?_ | refine bq_n ?_ | refine bq_r ?_ | refine bq_x ?_ | refine bq_y rfl ?_ | refine pq_n ?_ | refine pq_r ?_ | refine pq_x ?_)))
  · refine awp_region cx [] fun K hK => ?_
    simp [push_cast]
    first | refine hK _ ?_ | refine ⟨(by clear hK; intros; first | omega | (simp_all; done) | (simp_all <;> omega)), hK _ ?_⟩ | refine ⟨(by clear hK; intros; first | omega | (simp_all; done) | (simp_all <;> omega)), (by clear hK; intros; first | omega | (simp_all; done) | (simp_all <;> omega)), hK _ ?_⟩ | refine ⟨(by clear hK; intros; first | omega | (simp_all; done) | (simp_all <;> omega)), (by clear hK; intros; first | omega | (simp_all; done) | (simp_all <;> omega)), (by clear hK; intros; first | omega | (simp_all; done) | (simp_all <;> omega)), hK _ ?_⟩
    clear hK K; (repeat (first | refine awp_seq ?_ | refine awp_block ?_ | refine awp_scope ?_ | refine awp_skip ?_ | refine awp_exit ?_ | refine awp_ret ?_ | refine sq_n ?_ | refine sq_r ?_ | refine sq_x ?_ | refine bq_n ?_ | refine bq_r ?_ | refine bq_x ?_ | refine bq_y rfl ?_ | refine pq_n ?_ | refine pq_r ?_ | refine pq_x ?_))
    simp [push_cast]
    simp at hb
    intro e
    subst e
    simp at hb
  · simp at hb
    obtain ⟨⟨h1, h2⟩, h3⟩ := hb
    have hlen : a.cells.length = b.cells.length := by omega
    refine awp_region cx [] fun K hK => ?_
    simp [push_cast, Track.row]
    first | refine hK _ ?_ | refine ⟨(by clear hK; intros; first | omega | (simp_all; done) | (simp_all <;> omega)), hK _ ?_⟩ | refine ⟨(by clear hK; intros; first | omega | (simp_all; done) | (simp_all <;> omega)), (by clear hK; intros; first | omega | (simp_all; done) | (simp_all <;> omega)), hK _ ?_⟩ | refine ⟨(by clear hK; intros; first | omega | (simp_all; done) | (simp_all <;> omega)), (by clear hK; intros; first | omega | (simp_all; done) | (simp_all <;> omega)), (by clear hK; intros; first | omega | (simp_all; done) | (simp_all <;> omega)), hK _ ?_⟩
    clear hK K; (repeat (first | refine awp_seq ?_ | refine awp_block ?_ | refine awp_scope ?_ | refine awp_skip ?_ | refine awp_exit ?_ | refine awp_ret ?_ | refine sq_n ?_ | refine sq_r ?_ | refine sq_x ?_ | refine bq_n ?_ | refine bq_r ?_ | refine bq_x ?_ | refine bq_y rfl ?_ | refine pq_n ?_ | refine pq_r ?_ | refine pq_x ?_))
    refine awp_loop (β := Nat) (fun k => ⟨45, [(2, .ptr 0 0 0), (3, .ptr 1 0 0), (29, .d (.int .i64 a.cells.length)), (30, .d (.int .i64 k))], [(0, some ⟨36, 3, [a.row.map .d]⟩), (1, some ⟨36, 3, [b.row.map .d]⟩)], 2⟩) (fun k => k ≤ a.cells.length ∧ a.cells.take k = b.cells.take k) (fun k => a.cells.length - k) 0 ?_ ⟨Nat.zero_le _, by simp⟩ ?_
    · refine weak_of [(0, some 0), (1, some 1)] rfl (by simp [upT, up, upL, push_cast, Track.row]) (by simp [upH, upR, upL, up, push_cast, Track.row]) (by simp [namesOk, push_cast]) (by simp [olds])
    · intro k ⟨hk, hpre⟩
      (repeat (first | refine awp_seq ?_ | refine awp_block ?_ | refine awp_scope ?_ | refine awp_skip ?_ | refine awp_exit ?_ | refine awp_ret ?_ | refine sq_n ?_ | refine sq_r ?_ | refine sq_x ?_ | refine bq_n ?_ | refine bq_r ?_ | refine bq_x ?_ | refine bq_y rfl ?_ | refine pq_n ?_ | refine pq_r ?_ | refine pq_x ?_))
      refine awp_region cx [] fun K hK => ?_
      simp [push_cast]
      first | refine hK _ ?_ | refine ⟨(by clear hK; intros; first | omega | (simp_all; done) | (simp_all <;> omega)), hK _ ?_⟩ | refine ⟨(by clear hK; intros; first | omega | (simp_all; done) | (simp_all <;> omega)), (by clear hK; intros; first | omega | (simp_all; done) | (simp_all <;> omega)), hK _ ?_⟩ | refine ⟨(by clear hK; intros; first | omega | (simp_all; done) | (simp_all <;> omega)), (by clear hK; intros; first | omega | (simp_all; done) | (simp_all <;> omega)), (by clear hK; intros; first | omega | (simp_all; done) | (simp_all <;> omega)), hK _ ?_⟩
      clear hK K; (repeat (first | refine awp_seq ?_ | refine awp_block ?_ | refine awp_scope ?_ | refine awp_skip ?_ | refine awp_exit ?_ | refine awp_ret ?_ | refine sq_n ?_ | refine sq_r ?_ | refine sq_x ?_ | refine bq_n ?_ | refine bq_r ?_ | refine bq_x ?_ | refine bq_y rfl ?_ | refine pq_n ?_ | refine pq_r ?_ | refine pq_x ?_))
      refine awp_cond (b := decide ((k : Int) < a.cells.length)) (by simp [push_cast]) (fun hb => ?_) (fun hb => ?_) <;> ((repeat (first | refine awp_seq ?_ | refine awp_block ?_ | refine awp_scope ?_ | refine awp_skip ?_ | refine awp_exit ?_ | refine awp_ret ?_ | refine sq_n ?_ | refine sq_r ?_ | refine sq_x ?_ | refine bq_n ?_ | refine bq_r ?_ | refine bq_x ?_ | refine bq_y rfl ?_ | refine pq_n ?_ | refine pq_r ?_ | refine pq_x ?_)))
      · have hlt : k < a.cells.length := by simpa using hb
        obtain ⟨x, hx⟩ := getq hlt
        obtain ⟨y, hy⟩ : ∃ y, b.cells[k]? = some y := getq (by omega)
        have e0 := wrap_i64 (n := (k : Int) + 1) (by omega) (by omega)
        refine awp_region cx [] fun K hK => ?_
        simp [push_cast]
        first | refine hK _ ?_ | refine ⟨(by clear hK; intros; first | omega | (simp_all; done) | (simp_all <;> omega)), hK _ ?_⟩ | refine ⟨(by clear hK; intros; first | omega | (simp_all; done) | (simp_all <;> omega)), (by clear hK; intros; first | omega | (simp_all; done) | (simp_all <;> omega)), hK _ ?_⟩ | refine ⟨(by clear hK; intros; first | omega | (simp_all; done) | (simp_all <;> omega)), (by clear hK; intros; first | omega | (simp_all; done) | (simp_all <;> omega)), (by clear hK; intros; first | omega | (simp_all; done) | (simp_all <;> omega)), hK _ ?_⟩
        clear hK K; (repeat (first | refine awp_seq ?_ | refine awp_block ?_ | refine awp_scope ?_ | refine awp_skip ?_ | refine awp_exit ?_ | refine awp_ret ?_ | refine sq_n ?_ | refine sq_r ?_ | refine sq_x ?_ | refine bq_n ?_ | refine bq_r ?_ | refine bq_x ?_ | refine bq_y rfl ?_ | refine pq_n ?_ | refine pq_r ?_ | refine pq_x ?_))
        refine awp_region_draw cx mixed [] fun K hK => ?_
        simp [push_cast, hx, hy, Track.row]
        first | refine hK _ _ (by kernel_rfl) ?_ | refine ⟨(by clear hK; intros; first | omega | (simp_all; done) | (simp_all <;> omega)), hK _ _ (by kernel_rfl) ?_⟩ | refine ⟨(by clear hK; intros; first | omega | (simp_all; done) | (simp_all <;> omega)), (by clear hK; intros; first | omega | (simp_all; done) | (simp_all <;> omega)), hK _ _ (by kernel_rfl) ?_⟩ | refine ⟨(by clear hK; intros; first | omega | (simp_all; done) | (simp_all <;> omega)), (by clear hK; intros; first | omega | (simp_all; done) | (simp_all <;> omega)), (by clear hK; intros; first | omega | (simp_all; done) | (simp_all <;> omega)), hK _ _ (by kernel_rfl) ?_⟩
        clear hK K; (repeat (first | refine awp_seq ?_ | refine awp_block ?_ | refine awp_scope ?_ | refine awp_skip ?_ | refine awp_exit ?_ | refine awp_ret ?_ | refine sq_n ?_ | refine sq_r ?_ | refine sq_x ?_ | refine bq_n ?_ | refine bq_r ?_ | refine bq_x ?_ | refine bq_y rfl ?_ | refine pq_n ?_ | refine pq_r ?_ | refine pq_x ?_))
        refine awp_cond (by simp [push_cast] <;> exact rfl) (fun hb => ?_) (fun hb => ?_) <;> ((repeat (first | refine awp_seq ?_ | refine awp_block ?_ | refine awp_scope ?_ | refine awp_skip ?_ | refine awp_exit ?_ | refine awp_ret ?_ | refine sq_n ?_ | refine sq_r ?_ | refine sq_x ?_ | refine bq_n ?_ | refine bq_r ?_ | refine bq_x ?_ | refine bq_y rfl ?_ | refine pq_n ?_ | refine pq_r ?_ | refine pq_x ?_)))
        · simp at hb
          refine awp_region cx [] fun K hK => ?_
          simp [push_cast]
          first | refine hK _ ?_ | refine ⟨(by clear hK; intros; first | omega | (simp_all; done) | (simp_all <;> omega)), hK _ ?_⟩ | refine ⟨(by clear hK; intros; first | omega | (simp_all; done) | (simp_all <;> omega)), (by clear hK; intros; first | omega | (simp_all; done) | (simp_all <;> omega)), hK _ ?_⟩ | refine ⟨(by clear hK; intros; first | omega | (simp_all; done) | (simp_all <;> omega)), (by clear hK; intros; first | omega | (simp_all; done) | (simp_all <;> omega)), (by clear hK; intros; first | omega | (simp_all; done) | (simp_all <;> omega)), hK _ ?_⟩
          clear hK K; (repeat (first | refine awp_seq ?_ | refine awp_block ?_ | refine awp_scope ?_ | refine awp_skip ?_ | refine awp_exit ?_ | refine awp_ret ?_ | refine sq_n ?_ | refine sq_r ?_ | refine sq_x ?_ | refine bq_n ?_ | refine bq_r ?_ | refine bq_x ?_ | refine bq_y rfl ?_ | refine pq_n ?_ | refine pq_r ?_ | refine pq_x ?_))
          simp [push_cast]
          intro e
          subst e
          rw [hx] at hy
          cases hy
          simp at hb
        · simp at hb
          refine awp_region cx [] fun K hK => ?_
          simp [push_cast, e0]
          first | refine hK _ ?_ | refine ⟨(by clear hK; intros; first | omega | (simp_all; done) | (simp_all <;> omega)), hK _ ?_⟩ | refine ⟨(by clear hK; intros; first | omega | (simp_all; done) | (simp_all <;> omega)), (by clear hK; intros; first | omega | (simp_all; done) | (simp_all <;> omega)), hK _ ?_⟩ | refine ⟨(by clear hK; intros; first | omega | (simp_all; done) | (simp_all <;> omega)), (by clear hK; intros; first | omega | (simp_all; done) | (simp_all <;> omega)), (by clear hK; intros; first | omega | (simp_all; done) | (simp_all <;> omega)), hK _ ?_⟩
          clear hK K; (repeat (first | refine awp_seq ?_ | refine awp_block ?_ | refine awp_scope ?_ | refine awp_skip ?_ | refine awp_exit ?_ | refine awp_ret ?_ | refine sq_n ?_ | refine sq_r ?_ | refine sq_x ?_ | refine bq_n ?_ | refine bq_r ?_ | refine bq_x ?_ | refine bq_y rfl ?_ | refine pq_n ?_ | refine pq_r ?_ | refine pq_x ?_))
          refine ⟨k + 1, ⟨hlt, take_eq_step hpre hx hy ?_⟩, by omega, ?_⟩
          · cases x; cases y; simp at hb; simp [hb]
          · refine weak_of [(0, some 0), (1, some 1)] rfl (by simp [upT, up, upL, push_cast, Track.row]) (by simp [upH, upR, upL, up, push_cast, Track.row]) (by simp [namesOk, push_cast]) (by simp [olds])
      · have hge : k = a.cells.length := by simp at hb; omega
        subst hge
        refine awp_region cx [] fun K hK => ?_
        simp [push_cast]
        first | refine hK _ ?_ | refine ⟨(by clear hK; intros; first | omega | (simp_all; done) | (simp_all <;> omega)), hK _ ?_⟩ | refine ⟨(by clear hK; intros; first | omega | (simp_all; done) | (simp_all <;> omega)), (by clear hK; intros; first | omega | (simp_all; done) | (simp_all <;> omega)), hK _ ?_⟩ | refine ⟨(by clear hK; intros; first | omega | (simp_all; done) | (simp_all <;> omega)), (by clear hK; intros; first | omega | (simp_all; done) | (simp_all <;> omega)), (by clear hK; intros; first | omega | (simp_all; done) | (simp_all <;> omega)), hK _ ?_⟩
        clear hK K; (repeat (first | refine awp_seq ?_ | refine awp_block ?_ | refine awp_scope ?_ | refine awp_skip ?_ | refine awp_exit ?_ | refine awp_ret ?_ | refine sq_n ?_ | refine sq_r ?_ | refine sq_x ?_ | refine bq_n ?_ | refine bq_r ?_ | refine bq_x ?_ | refine bq_y rfl ?_ | refine pq_n ?_ | refine pq_r ?_ | refine pq_x ?_))
        simp [push_cast]
        rw [List.take_length, hlen, List.take_length] at hpre
        cases a; cases b
        simp at h1 h2 hpre
        simp [h1, h2, hpre]

theorem sameAll_ok (a b : List Track) (ha : ∀ t ∈ a, t.cells.length ≤ 65536) (hl : a.length ≤ 1000) : PC Try.prog 16 [encTracks a, encTracks b] (.p (.bool (decide (a = b)))) := by
  refine pc_of_awp cx (fn := Try.f16) (c := _) Try.func16 rfl rfl (Nat.le_of_ble_eq_true rfl) ?_
  rw [Try.ntmps16]; (repeat (first | refine awp_seq ?_ | refine awp_block ?_ | refine awp_scope ?_ | refine awp_skip ?_ | refine awp_exit ?_ | refine awp_ret ?_ | refine sq_n ?_ | refine sq_r ?_ | refine sq_x ?_ | refine bq_n ?_ | refine bq_r ?_ | refine bq_x ?_ | refine bq_y rfl ?_ | refine pq_n ?_ | refine pq_r ?_ | refine pq_x ?_))
  refine awp_region cx [] fun K hK => ?_
  simp [push_cast]
  first | refine hK _ ?_ | refine ⟨(by clear hK; intros; first | omega | (simp_all; done) | (simp_all <;> omega)), hK _ ?_⟩ | refine ⟨(by clear hK; intros; first | omega | (simp_all; done) | (simp_all <;> omega)), (by clear hK; intros; first | omega | (simp_all; done) | (simp_all <;> omega)), hK _ ?_⟩ | refine ⟨(by clear hK; intros; first | omega | (simp_all; done) | (simp_all <;> omega)), (by clear hK; intros; first | omega | (simp_all; done) | (simp_all <;> omega)), (by clear hK; intros; first | omega | (simp_all; done) | (simp_all <;> omega)), hK _ ?_⟩
  clear hK K; (repeat (first | refine awp_seq ?_ | refine awp_block ?_ | refine awp_scope ?_ | refine awp_skip ?_ | refine awp_exit ?_ | refine awp_ret ?_ | refine sq_n ?_ | refine sq_r ?_ | refine sq_x ?_ | refine bq_n ?_ | refine bq_r ?_ | refine bq_x ?_ | refine bq_y rfl ?_ | refine pq_n ?_ | refine pq_r ?_ | refine pq_x ?_))
  refine awp_region cx [] fun K hK => ?_
  simp [push_cast]
  first | refine hK _ ?_ | refine ⟨(by clear hK; intros; first | omega | (simp_all; done) | (simp_all <;> omega)), hK _ ?_⟩ | refine ⟨(by clear hK; intros; first | omega | (simp_all; done) | (simp_all <;> omega)), (by clear hK; intros; first | omega | (simp_all; done) | (simp_all <;> omega)), hK _ ?_⟩ | refine ⟨(by clear hK; intros; first | omega | (simp_all; done) | (simp_all <;> omega)), (by clear hK; intros; first | omega | (simp_all; done) | (simp_all <;> omega)), (by clear hK; intros; first | omega | (simp_all; done) | (simp_all <;> omega)), hK _ ?_⟩
  clear hK K; (repeat (first | refine awp_seq ?_ | refine awp_block ?_ | refine awp_scope ?_ | refine awp_skip ?_ | refine awp_exit ?_ | refine awp_ret ?_ | refine sq_n ?_ | refine sq_r ?_ | refine sq_x ?_ | refine bq_n ?_ | refine bq_r ?_ | refine bq_x ?_ | refine bq_y rfl ?_ | refine pq_n ?_ | refine pq_r ?_ | refine pq_x ?_))
  refine awp_cond (by simp [push_cast] <;> exact rfl) (fun hb => ?_) (fun hb => ?_) <;> ((repeat (first | refine awp_seq ?_ | refine awp_block ?_ | refine awp_scope ?_ | refine awp_skip ?_ | refine awp_exit ?_ | refine awp_ret ?_ | refine sq_n ?_ | refine sq_r ?_ | refine sq_x ?_ | refine bq_n ?_ | refine bq_r ?_ | refine bq_x ?_ | refine bq_y rfl ?_ | refine pq_n ?_ | refine pq_r ?_ | refine pq_x ?_)))
  · refine awp_region cx [] fun K hK => ?_
    simp [push_cast]
    first | refine hK _ ?_ | refine ⟨(by clear hK; intros; first | omega | (simp_all; done) | (simp_all <;> omega)), hK _ ?_⟩ | refine ⟨(by clear hK; intros; first | omega | (simp_all; done) | (simp_all <;> omega)), (by clear hK; intros; first | omega | (simp_all; done) | (simp_all <;> omega)), hK _ ?_⟩ | refine ⟨(by clear hK; intros; first | omega | (simp_all; done) | (simp_all <;> omega)), (by clear hK; intros; first | omega | (simp_all; done) | (simp_all <;> omega)), (by clear hK; intros; first | omega | (simp_all; done) | (simp_all <;> omega)), hK _ ?_⟩
    clear hK K; (repeat (first | refine awp_seq ?_ | refine awp_block ?_ | refine awp_scope ?_ | refine awp_skip ?_ | refine awp_exit ?_ | refine awp_ret ?_ | refine sq_n ?_ | refine sq_r ?_ | refine sq_x ?_ | refine bq_n ?_ | refine bq_r ?_ | refine bq_x ?_ | refine bq_y rfl ?_ | refine pq_n ?_ | refine pq_r ?_ | refine pq_x ?_))
    simp [push_cast]
    simp at hb
    intro e
    subst e
    simp at hb
  · simp at hb
    have hlen : a.length = b.length := by omega
    refine awp_region cx [] fun K hK => ?_
    simp [push_cast]
    first | refine hK _ ?_ | refine ⟨(by clear hK; intros; first | omega | (simp_all; done) | (simp_all <;> omega)), hK _ ?_⟩ | refine ⟨(by clear hK; intros; first | omega | (simp_all; done) | (simp_all <;> omega)), (by clear hK; intros; first | omega | (simp_all; done) | (simp_all <;> omega)), hK _ ?_⟩ | refine ⟨(by clear hK; intros; first | omega | (simp_all; done) | (simp_all <;> omega)), (by clear hK; intros; first | omega | (simp_all; done) | (simp_all <;> omega)), (by clear hK; intros; first | omega | (simp_all; done) | (simp_all <;> omega)), hK _ ?_⟩
    clear hK K; (repeat (first | refine awp_seq ?_ | refine awp_block ?_ | refine awp_scope ?_ | refine awp_skip ?_ | refine awp_exit ?_ | refine awp_ret ?_ | refine sq_n ?_ | refine sq_r ?_ | refine sq_x ?_ | refine bq_n ?_ | refine bq_r ?_ | refine bq_x ?_ | refine bq_y rfl ?_ | refine pq_n ?_ | refine pq_r ?_ | refine pq_x ?_))
    refine awp_loop (β := Nat) (fun k => ⟨27, [(0, .d (encTracks a)), (1, .d (encTracks b)), (12, .d (.int .i64 a.length)), (13, .d (.int .i64 k))], [], 0⟩) (fun k => k ≤ a.length ∧ a.take k = b.take k) (fun k => a.length - k) 0 ?_ ⟨Nat.zero_le _, by simp⟩ ?_
    · refine weak_of [] rfl (by simp [upT, up, upL, push_cast]) (by simp [upH, upR, upL, up, push_cast]) (by simp [namesOk, push_cast]) (by simp [olds])
    · intro k ⟨hk, hpre⟩
      (repeat (first | refine awp_seq ?_ | refine awp_block ?_ | refine awp_scope ?_ | refine awp_skip ?_ | refine awp_exit ?_ | refine awp_ret ?_ | refine sq_n ?_ | refine sq_r ?_ | refine sq_x ?_ | refine bq_n ?_ | refine bq_r ?_ | refine bq_x ?_ | refine bq_y rfl ?_ | refine pq_n ?_ | refine pq_r ?_ | refine pq_x ?_))
      refine awp_region cx [] fun K hK => ?_
      simp [push_cast]
      first | refine hK _ ?_ | refine ⟨(by clear hK; intros; first | omega | (simp_all; done) | (simp_all <;> omega)), hK _ ?_⟩ | refine ⟨(by clear hK; intros; first | omega | (simp_all; done) | (simp_all <;> omega)), (by clear hK; intros; first | omega | (simp_all; done) | (simp_all <;> omega)), hK _ ?_⟩ | refine ⟨(by clear hK; intros; first | omega | (simp_all; done) | (simp_all <;> omega)), (by clear hK; intros; first | omega | (simp_all; done) | (simp_all <;> omega)), (by clear hK; intros; first | omega | (simp_all; done) | (simp_all <;> omega)), hK _ ?_⟩
      clear hK K; (repeat (first | refine awp_seq ?_ | refine awp_block ?_ | refine awp_scope ?_ | refine awp_skip ?_ | refine awp_exit ?_ | refine awp_ret ?_ | refine sq_n ?_ | refine sq_r ?_ | refine sq_x ?_ | refine bq_n ?_ | refine bq_r ?_ | refine bq_x ?_ | refine bq_y rfl ?_ | refine pq_n ?_ | refine pq_r ?_ | refine pq_x ?_))
      refine awp_cond (b := decide ((k : Int) < a.length)) (by simp [push_cast]) (fun hb => ?_) (fun hb => ?_) <;> ((repeat (first | refine awp_seq ?_ | refine awp_block ?_ | refine awp_scope ?_ | refine awp_skip ?_ | refine awp_exit ?_ | refine awp_ret ?_ | refine sq_n ?_ | refine sq_r ?_ | refine sq_x ?_ | refine bq_n ?_ | refine bq_r ?_ | refine bq_x ?_ | refine bq_y rfl ?_ | refine pq_n ?_ | refine pq_r ?_ | refine pq_x ?_)))
      · have hlt : k < a.length := by simpa using hb
        obtain ⟨x, hx⟩ := getq hlt
        obtain ⟨y, hy⟩ : ∃ y, b[k]? = some y := getq (by omega)
        have e0 := wrap_i64 (n := (k : Int) + 1) (by omega) (by omega)
        have c1 := same_ok x y (ha x (List.mem_of_getElem? hx))
        refine awp_region cx [] fun K hK => ?_
        simp [push_cast]
        first | refine hK _ ?_ | refine ⟨(by clear hK; intros; first | omega | (simp_all; done) | (simp_all <;> omega)), hK _ ?_⟩ | refine ⟨(by clear hK; intros; first | omega | (simp_all; done) | (simp_all <;> omega)), (by clear hK; intros; first | omega | (simp_all; done) | (simp_all <;> omega)), hK _ ?_⟩ | refine ⟨(by clear hK; intros; first | omega | (simp_all; done) | (simp_all <;> omega)), (by clear hK; intros; first | omega | (simp_all; done) | (simp_all <;> omega)), (by clear hK; intros; first | omega | (simp_all; done) | (simp_all <;> omega)), hK _ ?_⟩
        clear hK K; (repeat (first | refine awp_seq ?_ | refine awp_block ?_ | refine awp_scope ?_ | refine awp_skip ?_ | refine awp_exit ?_ | refine awp_ret ?_ | refine sq_n ?_ | refine sq_r ?_ | refine sq_x ?_ | refine bq_n ?_ | refine bq_r ?_ | refine bq_x ?_ | refine bq_y rfl ?_ | refine pq_n ?_ | refine pq_r ?_ | refine pq_x ?_))
        generalize he : decide (x = y) = e at c1
        refine awp_region_draw cx mixed [(8, .p (.bool e))] fun K hK => ?_
        simp [push_cast, hx, hy, c1]
        first | refine hK _ _ (by kernel_rfl) ?_ | refine ⟨(by clear hK; intros; first | omega | (simp_all; done) | (simp_all <;> omega)), hK _ _ (by kernel_rfl) ?_⟩ | refine ⟨(by clear hK; intros; first | omega | (simp_all; done) | (simp_all <;> omega)), (by clear hK; intros; first | omega | (simp_all; done) | (simp_all <;> omega)), hK _ _ (by kernel_rfl) ?_⟩ | refine ⟨(by clear hK; intros; first | omega | (simp_all; done) | (simp_all <;> omega)), (by clear hK; intros; first | omega | (simp_all; done) | (simp_all <;> omega)), (by clear hK; intros; first | omega | (simp_all; done) | (simp_all <;> omega)), hK _ _ (by kernel_rfl) ?_⟩
        clear hK K; (repeat (first | refine awp_seq ?_ | refine awp_block ?_ | refine awp_scope ?_ | refine awp_skip ?_ | refine awp_exit ?_ | refine awp_ret ?_ | refine sq_n ?_ | refine sq_r ?_ | refine sq_x ?_ | refine bq_n ?_ | refine bq_r ?_ | refine bq_x ?_ | refine bq_y rfl ?_ | refine pq_n ?_ | refine pq_r ?_ | refine pq_x ?_))
        refine awp_cond (b := !e) (by simp [push_cast]) (fun hb => ?_) (fun hb => ?_) <;> ((repeat (first | refine awp_seq ?_ | refine awp_block ?_ | refine awp_scope ?_ | refine awp_skip ?_ | refine awp_exit ?_ | refine awp_ret ?_ | refine sq_n ?_ | refine sq_r ?_ | refine sq_x ?_ | refine bq_n ?_ | refine bq_r ?_ | refine bq_x ?_ | refine bq_y rfl ?_ | refine pq_n ?_ | refine pq_r ?_ | refine pq_x ?_)))
        · simp at hb
          rw [hb] at he
          refine awp_region cx [] fun K hK => ?_
          simp [push_cast]
          first | refine hK _ ?_ | refine ⟨(by clear hK; intros; first | omega | (simp_all; done) | (simp_all <;> omega)), hK _ ?_⟩ | refine ⟨(by clear hK; intros; first | omega | (simp_all; done) | (simp_all <;> omega)), (by clear hK; intros; first | omega | (simp_all; done) | (simp_all <;> omega)), hK _ ?_⟩ | refine ⟨(by clear hK; intros; first | omega | (simp_all; done) | (simp_all <;> omega)), (by clear hK; intros; first | omega | (simp_all; done) | (simp_all <;> omega)), (by clear hK; intros; first | omega | (simp_all; done) | (simp_all <;> omega)), hK _ ?_⟩
          clear hK K; (repeat (first | refine awp_seq ?_ | refine awp_block ?_ | refine awp_scope ?_ | refine awp_skip ?_ | refine awp_exit ?_ | refine awp_ret ?_ | refine sq_n ?_ | refine sq_r ?_ | refine sq_x ?_ | refine bq_n ?_ | refine bq_r ?_ | refine bq_x ?_ | refine bq_y rfl ?_ | refine pq_n ?_ | refine pq_r ?_ | refine pq_x ?_))
          simp [push_cast]
          intro e
          subst e
          rw [hx] at hy
          cases hy
          simp at he
        · simp at hb
          rw [hb] at he
          refine awp_region cx [] fun K hK => ?_
          simp [push_cast, e0]
          first | refine hK _ ?_ | refine ⟨(by clear hK; intros; first | omega | (simp_all; done) | (simp_all <;> omega)), hK _ ?_⟩ | refine ⟨(by clear hK; intros; first | omega | (simp_all; done) | (simp_all <;> omega)), (by clear hK; intros; first | omega | (simp_all; done) | (simp_all <;> omega)), hK _ ?_⟩ | refine ⟨(by clear hK; intros; first | omega | (simp_all; done) | (simp_all <;> omega)), (by clear hK; intros; first | omega | (simp_all; done) | (simp_all <;> omega)), (by clear hK; intros; first | omega | (simp_all; done) | (simp_all <;> omega)), hK _ ?_⟩
          clear hK K; (repeat (first | refine awp_seq ?_ | refine awp_block ?_ | refine awp_scope ?_ | refine awp_skip ?_ | refine awp_exit ?_ | refine awp_ret ?_ | refine sq_n ?_ | refine sq_r ?_ | refine sq_x ?_ | refine bq_n ?_ | refine bq_r ?_ | refine bq_x ?_ | refine bq_y rfl ?_ | refine pq_n ?_ | refine pq_r ?_ | refine pq_x ?_))
          refine ⟨k + 1, ⟨hlt, take_eq_step hpre hx hy (by simpa using he)⟩, by omega, ?_⟩
          refine weak_of [] rfl (by simp [upT, up, upL, push_cast]) (by simp [upH, upR, upL, up, push_cast]) (by simp [namesOk, push_cast]) (by simp [olds])
      · have hge : k = a.length := by simp at hb; omega
        subst hge
        refine awp_region cx [] fun K hK => ?_
        simp [push_cast]
        first | refine hK _ ?_ | refine ⟨(by clear hK; intros; first | omega | (simp_all; done) | (simp_all <;> omega)), hK _ ?_⟩ | refine ⟨(by clear hK; intros; first | omega | (simp_all; done) | (simp_all <;> omega)), (by clear hK; intros; first | omega | (simp_all; done) | (simp_all <;> omega)), hK _ ?_⟩ | refine ⟨(by clear hK; intros; first | omega | (simp_all; done) | (simp_all <;> omega)), (by clear hK; intros; first | omega | (simp_all; done) | (simp_all <;> omega)), (by clear hK; intros; first | omega | (simp_all; done) | (simp_all <;> omega)), hK _ ?_⟩
        clear hK K; (repeat (first | refine awp_seq ?_ | refine awp_block ?_ | refine awp_scope ?_ | refine awp_skip ?_ | refine awp_exit ?_ | refine awp_ret ?_ | refine sq_n ?_ | refine sq_r ?_ | refine sq_x ?_ | refine bq_n ?_ | refine bq_r ?_ | refine bq_x ?_ | refine bq_y rfl ?_ | refine pq_n ?_ | refine pq_r ?_ | refine pq_x ?_))
        simp [push_cast]
        rw [List.take_length, hlen, List.take_length] at hpre
        exact hpre

def okT (t : Track) : Bool := decide (t.cells.length ≤ 60)
def few (l : List Track) : List Track := (l.take 14).filter okT

theorem few_ok (l : List Track) : PC Try.prog 12 [encTracks l] (.p (encTracks (few l))) := by
  refine pc_of_awp cx (fn := Try.f12) (c := _) Try.func12 rfl rfl (Nat.le_of_ble_eq_true rfl) ?_
  rw [Try.ntmps12]; (repeat (first | refine awp_seq ?_ | refine awp_block ?_ | refine awp_scope ?_ | refine awp_skip ?_ | refine awp_exit ?_ | refine awp_ret ?_ | refine sq_n ?_ | refine sq_r ?_ | refine sq_x ?_ | refine bq_n ?_ | refine bq_r ?_ | refine bq_x ?_ | refine bq_y rfl ?_ | refine pq_n ?_ | refine pq_r ?_ | refine pq_x ?_))
  refine awp_region cx [] fun K hK => ?_
  simp [push_cast]
  first | refine hK _ ?_ | refine ⟨(by clear hK; intros; first | omega | (simp_all; done) | (simp_all <;> omega)), hK _ ?_⟩ | refine ⟨(by clear hK; intros; first | omega | (simp_all; done) | (simp_all <;> omega)), (by clear hK; intros; first | omega | (simp_all; done) | (simp_all <;> omega)), hK _ ?_⟩ | refine ⟨(by clear hK; intros; first | omega | (simp_all; done) | (simp_all <;> omega)), (by clear hK; intros; first | omega | (simp_all; done) | (simp_all <;> omega)), (by clear hK; intros; first | omega | (simp_all; done) | (simp_all <;> omega)), hK _ ?_⟩
  clear hK K; (repeat (first | refine awp_seq ?_ | refine awp_block ?_ | refine awp_scope ?_ | refine awp_skip ?_ | refine awp_exit ?_ | refine awp_ret ?_ | refine sq_n ?_ | refine sq_r ?_ | refine sq_x ?_ | refine bq_n ?_ | refine bq_r ?_ | refine bq_x ?_ | refine bq_y rfl ?_ | refine pq_n ?_ | refine pq_r ?_ | refine pq_x ?_))
  refine awp_region cx [] fun K hK => ?_
  simp [push_cast]
  first | refine hK _ ?_ | refine ⟨(by clear hK; intros; first | omega | (simp_all; done) | (simp_all <;> omega)), hK _ ?_⟩ | refine ⟨(by clear hK; intros; first | omega | (simp_all; done) | (simp_all <;> omega)), (by clear hK; intros; first | omega | (simp_all; done) | (simp_all <;> omega)), hK _ ?_⟩ | refine ⟨(by clear hK; intros; first | omega | (simp_all; done) | (simp_all <;> omega)), (by clear hK; intros; first | omega | (simp_all; done) | (simp_all <;> omega)), (by clear hK; intros; first | omega | (simp_all; done) | (simp_all <;> omega)), hK _ ?_⟩
  clear hK K; (repeat (first | refine awp_seq ?_ | refine awp_block ?_ | refine awp_scope ?_ | refine awp_skip ?_ | refine awp_exit ?_ | refine awp_ret ?_ | refine sq_n ?_ | refine sq_r ?_ | refine sq_x ?_ | refine bq_n ?_ | refine bq_r ?_ | refine bq_x ?_ | refine bq_y rfl ?_ | refine pq_n ?_ | refine pq_r ?_ | refine pq_x ?_))
  refine awp_region cx [] fun K hK => ?_
  simp [push_cast]
  first | refine hK _ ?_ | refine ⟨(by clear hK; intros; first | omega | (simp_all; done) | (simp_all <;> omega)), hK _ ?_⟩ | refine ⟨(by clear hK; intros; first | omega | (simp_all; done) | (simp_all <;> omega)), (by clear hK; intros; first | omega | (simp_all; done) | (simp_all <;> omega)), hK _ ?_⟩ | refine ⟨(by clear hK; intros; first | omega | (simp_all; done) | (simp_all <;> omega)), (by clear hK; intros; first | omega | (simp_all; done) | (simp_all <;> omega)), (by clear hK; intros; first | omega | (simp_all; done) | (simp_all <;> omega)), hK _ ?_⟩
  clear hK K; (repeat (first | refine awp_seq ?_ | refine awp_block ?_ | refine awp_scope ?_ | refine awp_skip ?_ | refine awp_exit ?_ | refine awp_ret ?_ | refine sq_n ?_ | refine sq_r ?_ | refine sq_x ?_ | refine bq_n ?_ | refine bq_r ?_ | refine bq_x ?_ | refine bq_y rfl ?_ | refine pq_n ?_ | refine pq_r ?_ | refine pq_x ?_))
  refine awp_loop (β := Nat × List Track) (fun b => ⟨30, [(0, .d (encTracks l)), (3, .hs 0 0 b.2.length), (4, .d (.int .i64 b.1))], [(0, some ⟨36, 3, dr (b.2.map Track.row)⟩)], 1⟩) (fun b => b.1 ≤ l.length ∧ b.1 ≤ 14 ∧ b.2 = (l.take b.1).filter okT) (fun b => l.length - b.1) (0, []) ?_ ⟨Nat.zero_le _, by simp, rfl⟩ ?_
  · refine weak_of [(0, none)] rfl (by simp [upT, up, upL, push_cast]) (by simp [upH, upR, upL, up, push_cast]) (by simp [namesOk, push_cast]) (by simp [olds])
  · rintro ⟨k, X⟩ ⟨hk, hk4, hX⟩
    simp only at hk hk4 hX
    have hXl : X.length ≤ k := by rw [hX]; exact Nat.le_trans (List.length_filter_le _ _) (by simp; omega)
    (repeat (first | refine awp_seq ?_ | refine awp_block ?_ | refine awp_scope ?_ | refine awp_skip ?_ | refine awp_exit ?_ | refine awp_ret ?_ | refine sq_n ?_ | refine sq_r ?_ | refine sq_x ?_ | refine bq_n ?_ | refine bq_r ?_ | refine bq_x ?_ | refine bq_y rfl ?_ | refine pq_n ?_ | refine pq_r ?_ | refine pq_x ?_))
    refine awp_region cx [] fun K hK => ?_
    simp [push_cast]
    first | refine hK _ ?_ | refine ⟨(by clear hK; intros; first | omega | (simp_all; done) | (simp_all <;> omega)), hK _ ?_⟩ | refine ⟨(by clear hK; intros; first | omega | (simp_all; done) | (simp_all <;> omega)), (by clear hK; intros; first | omega | (simp_all; done) | (simp_all <;> omega)), hK _ ?_⟩ | refine ⟨(by clear hK; intros; first | omega | (simp_all; done) | (simp_all <;> omega)), (by clear hK; intros; first | omega | (simp_all; done) | (simp_all <;> omega)), (by clear hK; intros; first | omega | (simp_all; done) | (simp_all <;> omega)), hK _ ?_⟩
    clear hK K; (repeat (first | refine awp_seq ?_ | refine awp_block ?_ | refine awp_scope ?_ | refine awp_skip ?_ | refine awp_exit ?_ | refine awp_ret ?_ | refine sq_n ?_ | refine sq_r ?_ | refine sq_x ?_ | refine bq_n ?_ | refine bq_r ?_ | refine bq_x ?_ | refine bq_y rfl ?_ | refine pq_n ?_ | refine pq_r ?_ | refine pq_x ?_))
    refine awp_cond (by simp [push_cast] <;> exact rfl) (fun hb => ?_) (fun hb => ?_) <;> ((repeat (first | refine awp_seq ?_ | refine awp_block ?_ | refine awp_scope ?_ | refine awp_skip ?_ | refine awp_exit ?_ | refine awp_ret ?_ | refine sq_n ?_ | refine sq_r ?_ | refine sq_x ?_ | refine bq_n ?_ | refine bq_r ?_ | refine bq_x ?_ | refine bq_y rfl ?_ | refine pq_n ?_ | refine pq_r ?_ | refine pq_x ?_)))
    · simp at hb
      have hlt : k < l.length := by omega
      obtain ⟨o, hx⟩ := getq hlt
      have e0 := wrap_i64 (n := (k : Int) + 1) (by omega) (by omega)
      have e2 : (X.length + 1) * 40 ≤ 140737488355328 := by omega
      refine awp_region cx [] fun K hK => ?_
      simp [push_cast, hx, Track.row]
      first | refine hK _ ?_ | refine ⟨(by clear hK; intros; first | omega | (simp_all; done) | (simp_all <;> omega)), hK _ ?_⟩ | refine ⟨(by clear hK; intros; first | omega | (simp_all; done) | (simp_all <;> omega)), (by clear hK; intros; first | omega | (simp_all; done) | (simp_all <;> omega)), hK _ ?_⟩ | refine ⟨(by clear hK; intros; first | omega | (simp_all; done) | (simp_all <;> omega)), (by clear hK; intros; first | omega | (simp_all; done) | (simp_all <;> omega)), (by clear hK; intros; first | omega | (simp_all; done) | (simp_all <;> omega)), hK _ ?_⟩
      clear hK K; (repeat (first | refine awp_seq ?_ | refine awp_block ?_ | refine awp_scope ?_ | refine awp_skip ?_ | refine awp_exit ?_ | refine awp_ret ?_ | refine sq_n ?_ | refine sq_r ?_ | refine sq_x ?_ | refine bq_n ?_ | refine bq_r ?_ | refine bq_x ?_ | refine bq_y rfl ?_ | refine pq_n ?_ | refine pq_r ?_ | refine pq_x ?_))
      refine awp_cond (by simp [push_cast] <;> exact rfl) (fun hb => ?_) (fun hb => ?_) <;> ((repeat (first | refine awp_seq ?_ | refine awp_block ?_ | refine awp_scope ?_ | refine awp_skip ?_ | refine awp_exit ?_ | refine awp_ret ?_ | refine sq_n ?_ | refine sq_r ?_ | refine sq_x ?_ | refine bq_n ?_ | refine bq_r ?_ | refine bq_x ?_ | refine bq_y rfl ?_ | refine pq_n ?_ | refine pq_r ?_ | refine pq_x ?_)))
      · simp at hb
        have hX' : X ++ [o] = (l.take (k + 1)).filter okT := by
          have hf : okT o = true := by simp [okT]; omega
          rw [hX, List.take_add_one, hx, List.filter_append]; simp [hf]
        refine awp_region cx [] fun K hK => ?_
        simp [push_cast, hx, Track.row, e2]
        first | refine hK _ ?_ | refine ⟨(by clear hK; intros; first | omega | (simp_all; done) | (simp_all <;> omega)), hK _ ?_⟩ | refine ⟨(by clear hK; intros; first | omega | (simp_all; done) | (simp_all <;> omega)), (by clear hK; intros; first | omega | (simp_all; done) | (simp_all <;> omega)), hK _ ?_⟩ | refine ⟨(by clear hK; intros; first | omega | (simp_all; done) | (simp_all <;> omega)), (by clear hK; intros; first | omega | (simp_all; done) | (simp_all <;> omega)), (by clear hK; intros; first | omega | (simp_all; done) | (simp_all <;> omega)), hK _ ?_⟩
        clear hK K; (repeat (first | refine awp_seq ?_ | refine awp_block ?_ | refine awp_scope ?_ | refine awp_skip ?_ | refine awp_exit ?_ | refine awp_ret ?_ | refine sq_n ?_ | refine sq_r ?_ | refine sq_x ?_ | refine bq_n ?_ | refine bq_r ?_ | refine bq_x ?_ | refine bq_y rfl ?_ | refine pq_n ?_ | refine pq_r ?_ | refine pq_x ?_))
        refine awp_region cx [] fun K hK => ?_
        simp [push_cast]
        first | refine hK _ ?_ | refine ⟨(by clear hK; intros; first | omega | (simp_all; done) | (simp_all <;> omega)), hK _ ?_⟩ | refine ⟨(by clear hK; intros; first | omega | (simp_all; done) | (simp_all <;> omega)), (by clear hK; intros; first | omega | (simp_all; done) | (simp_all <;> omega)), hK _ ?_⟩ | refine ⟨(by clear hK; intros; first | omega | (simp_all; done) | (simp_all <;> omega)), (by clear hK; intros; first | omega | (simp_all; done) | (simp_all <;> omega)), (by clear hK; intros; first | omega | (simp_all; done) | (simp_all <;> omega)), hK _ ?_⟩
        clear hK K; (repeat (first | refine awp_seq ?_ | refine awp_block ?_ | refine awp_scope ?_ | refine awp_skip ?_ | refine awp_exit ?_ | refine awp_ret ?_ | refine sq_n ?_ | refine sq_r ?_ | refine sq_x ?_ | refine bq_n ?_ | refine bq_r ?_ | refine bq_x ?_ | refine bq_y rfl ?_ | refine pq_n ?_ | refine pq_r ?_ | refine pq_x ?_))
        refine ⟨(k + 1, X ++ [o]), ⟨hlt, by simp; omega, hX'⟩, by simp; omega, ?_⟩
        refine weak_of [(0, some 22)] rfl (by simp [upT, up, upL, push_cast, e0, Track.row]) (by simp [upH, upR, upL, up, push_cast, e0, Track.row]) (by simp [namesOk, push_cast]) (by simp [olds])
      · simp at hb
        have hX' : X = (l.take (k + 1)).filter okT := by
          have hf : okT o = false := by simp [okT]; omega
          rw [hX, List.take_add_one, hx, List.filter_append]; simp [hf]
        refine awp_region cx [] fun K hK => ?_
        simp [push_cast]
        first | refine hK _ ?_ | refine ⟨(by clear hK; intros; first | omega | (simp_all; done) | (simp_all <;> omega)), hK _ ?_⟩ | refine ⟨(by clear hK; intros; first | omega | (simp_all; done) | (simp_all <;> omega)), (by clear hK; intros; first | omega | (simp_all; done) | (simp_all <;> omega)), hK _ ?_⟩ | refine ⟨(by clear hK; intros; first | omega | (simp_all; done) | (simp_all <;> omega)), (by clear hK; intros; first | omega | (simp_all; done) | (simp_all <;> omega)), (by clear hK; intros; first | omega | (simp_all; done) | (simp_all <;> omega)), hK _ ?_⟩
        clear hK K; (repeat (first | refine awp_seq ?_ | refine awp_block ?_ | refine awp_scope ?_ | refine awp_skip ?_ | refine awp_exit ?_ | refine awp_ret ?_ | refine sq_n ?_ | refine sq_r ?_ | refine sq_x ?_ | refine bq_n ?_ | refine bq_r ?_ | refine bq_x ?_ | refine bq_y rfl ?_ | refine pq_n ?_ | refine pq_r ?_ | refine pq_x ?_))
        refine ⟨(k + 1, X), ⟨hlt, by simp; omega, hX'⟩, by simp; omega, ?_⟩
        refine weak_of [(0, some 0)] rfl (by simp [upT, up, upL, push_cast, e0]) (by simp [upH, upR, upL, up, push_cast, e0]) (by simp [namesOk, push_cast]) (by simp [olds])
    · simp at hb
      have hX' : X = few l := by
        rw [hX, few]
        rcases Nat.lt_or_ge k 14 with h4 | h4
        · rw [List.take_of_length_le (by omega), List.take_of_length_le (by omega)]
        · rw [show k = 14 by omega]
      refine awp_region cx [] fun K hK => ?_
      simp [push_cast]
      first | refine hK _ ?_ | refine ⟨(by clear hK; intros; first | omega | (simp_all; done) | (simp_all <;> omega)), hK _ ?_⟩ | refine ⟨(by clear hK; intros; first | omega | (simp_all; done) | (simp_all <;> omega)), (by clear hK; intros; first | omega | (simp_all; done) | (simp_all <;> omega)), hK _ ?_⟩ | refine ⟨(by clear hK; intros; first | omega | (simp_all; done) | (simp_all <;> omega)), (by clear hK; intros; first | omega | (simp_all; done) | (simp_all <;> omega)), (by clear hK; intros; first | omega | (simp_all; done) | (simp_all <;> omega)), hK _ ?_⟩
      clear hK K; (repeat (first | refine awp_seq ?_ | refine awp_block ?_ | refine awp_scope ?_ | refine awp_skip ?_ | refine awp_exit ?_ | refine awp_ret ?_ | refine sq_n ?_ | refine sq_r ?_ | refine sq_x ?_ | refine bq_n ?_ | refine bq_r ?_ | refine bq_x ?_ | refine bq_y rfl ?_ | refine pq_n ?_ | refine pq_r ?_ | refine pq_x ?_))
      simp [push_cast]
      rw [hX']

theorem few_len (l : List Track) : (few l).length ≤ 14 := Nat.le_trans (List.length_filter_le _ _) (by simp; omega)
theorem few_cells (l : List Track) : ∀ o ∈ few l, o.cells.length ≤ 60 := by
  intro o ho
  have := (List.mem_filter.1 ho).2
  simpa [okT] using this

theorem path_ok (l : List Cell) : PC Try.prog 35 [encCells l] (.p (.agg (Track.row ⟨4, false, l⟩))) := by
  refine pc_of_awp cx (fn := Try.f35) (c := _) Try.func35 rfl rfl (Nat.le_of_ble_eq_true rfl) ?_
  rw [Try.ntmps35]; (repeat (first | refine awp_seq ?_ | refine awp_block ?_ | refine awp_scope ?_ | refine awp_skip ?_ | refine awp_exit ?_ | refine awp_ret ?_ | refine sq_n ?_ | refine sq_r ?_ | refine sq_x ?_ | refine bq_n ?_ | refine bq_r ?_ | refine bq_x ?_ | refine bq_y rfl ?_ | refine pq_n ?_ | refine pq_r ?_ | refine pq_x ?_))
  refine awp_region cx [] fun K hK => ?_
  simp [push_cast]
  first | refine hK _ ?_ | refine ⟨(by clear hK; intros; first | omega | (simp_all; done) | (simp_all <;> omega)), hK _ ?_⟩ | refine ⟨(by clear hK; intros; first | omega | (simp_all; done) | (simp_all <;> omega)), (by clear hK; intros; first | omega | (simp_all; done) | (simp_all <;> omega)), hK _ ?_⟩ | refine ⟨(by clear hK; intros; first | omega | (simp_all; done) | (simp_all <;> omega)), (by clear hK; intros; first | omega | (simp_all; done) | (simp_all <;> omega)), (by clear hK; intros; first | omega | (simp_all; done) | (simp_all <;> omega)), hK _ ?_⟩
  clear hK K; (repeat (first | refine awp_seq ?_ | refine awp_block ?_ | refine awp_scope ?_ | refine awp_skip ?_ | refine awp_exit ?_ | refine awp_ret ?_ | refine sq_n ?_ | refine sq_r ?_ | refine sq_x ?_ | refine bq_n ?_ | refine bq_r ?_ | refine bq_x ?_ | refine bq_y rfl ?_ | refine pq_n ?_ | refine pq_r ?_ | refine pq_x ?_))
  refine awp_region cx [] fun K hK => ?_
  simp [push_cast]
  first | refine hK _ ?_ | refine ⟨(by clear hK; intros; first | omega | (simp_all; done) | (simp_all <;> omega)), hK _ ?_⟩ | refine ⟨(by clear hK; intros; first | omega | (simp_all; done) | (simp_all <;> omega)), (by clear hK; intros; first | omega | (simp_all; done) | (simp_all <;> omega)), hK _ ?_⟩ | refine ⟨(by clear hK; intros; first | omega | (simp_all; done) | (simp_all <;> omega)), (by clear hK; intros; first | omega | (simp_all; done) | (simp_all <;> omega)), (by clear hK; intros; first | omega | (simp_all; done) | (simp_all <;> omega)), hK _ ?_⟩
  clear hK K; (repeat (first | refine awp_seq ?_ | refine awp_block ?_ | refine awp_scope ?_ | refine awp_skip ?_ | refine awp_exit ?_ | refine awp_ret ?_ | refine sq_n ?_ | refine sq_r ?_ | refine sq_x ?_ | refine bq_n ?_ | refine bq_r ?_ | refine bq_x ?_ | refine bq_y rfl ?_ | refine pq_n ?_ | refine pq_r ?_ | refine pq_x ?_))
  simp [push_cast]

theorem copied_ok (t : Track) (hl : t.cells.length ≤ 65536) : PC Try.prog 51 [.agg t.row] (.p (.agg t.row)) := by
  have hl' : t.cells.length * 16 ≤ 140737488355328 := by omega
  refine pc_of_awp cx (fn := Try.f51) (c := _) Try.func51 rfl rfl (Nat.le_of_ble_eq_true rfl) ?_
  rw [Try.ntmps51]; (repeat (first | refine awp_seq ?_ | refine awp_block ?_ | refine awp_scope ?_ | refine awp_skip ?_ | refine awp_exit ?_ | refine awp_ret ?_ | refine sq_n ?_ | refine sq_r ?_ | refine sq_x ?_ | refine bq_n ?_ | refine bq_r ?_ | refine bq_x ?_ | refine bq_y rfl ?_ | refine pq_n ?_ | refine pq_r ?_ | refine pq_x ?_))
  refine awp_region cx [] fun K hK => ?_
  simp [push_cast, Track.row]
  first | refine hK _ ?_ | refine ⟨(by clear hK; intros; first | omega | (simp_all; done) | (simp_all <;> omega)), hK _ ?_⟩ | refine ⟨(by clear hK; intros; first | omega | (simp_all; done) | (simp_all <;> omega)), (by clear hK; intros; first | omega | (simp_all; done) | (simp_all <;> omega)), hK _ ?_⟩ | refine ⟨(by clear hK; intros; first | omega | (simp_all; done) | (simp_all <;> omega)), (by clear hK; intros; first | omega | (simp_all; done) | (simp_all <;> omega)), (by clear hK; intros; first | omega | (simp_all; done) | (simp_all <;> omega)), hK _ ?_⟩
  clear hK K; (repeat (first | refine awp_seq ?_ | refine awp_block ?_ | refine awp_scope ?_ | refine awp_skip ?_ | refine awp_exit ?_ | refine awp_ret ?_ | refine sq_n ?_ | refine sq_r ?_ | refine sq_x ?_ | refine bq_n ?_ | refine bq_r ?_ | refine bq_x ?_ | refine bq_y rfl ?_ | refine pq_n ?_ | refine pq_r ?_ | refine pq_x ?_))
  refine awp_region_draw cx mixed [] fun K hK => ?_
  simp [push_cast, Track.row, Cell.row_len, hl']
  first | refine hK _ _ (by kernel_rfl) ?_ | refine ⟨(by clear hK; intros; first | omega | (simp_all; done) | (simp_all <;> omega)), hK _ _ (by kernel_rfl) ?_⟩ | refine ⟨(by clear hK; intros; first | omega | (simp_all; done) | (simp_all <;> omega)), (by clear hK; intros; first | omega | (simp_all; done) | (simp_all <;> omega)), hK _ _ (by kernel_rfl) ?_⟩ | refine ⟨(by clear hK; intros; first | omega | (simp_all; done) | (simp_all <;> omega)), (by clear hK; intros; first | omega | (simp_all; done) | (simp_all <;> omega)), (by clear hK; intros; first | omega | (simp_all; done) | (simp_all <;> omega)), hK _ _ (by kernel_rfl) ?_⟩
  clear hK K; (repeat (first | refine awp_seq ?_ | refine awp_block ?_ | refine awp_scope ?_ | refine awp_skip ?_ | refine awp_exit ?_ | refine awp_ret ?_ | refine sq_n ?_ | refine sq_r ?_ | refine sq_x ?_ | refine bq_n ?_ | refine bq_r ?_ | refine bq_x ?_ | refine bq_y rfl ?_ | refine pq_n ?_ | refine pq_r ?_ | refine pq_x ?_))
  simp [push_cast, Track.row]

abbrev ends2 (a b : Cell) : List D := [.int .i64 a.x, .int .i64 a.y, .int .i64 b.x, .int .i64 b.y]

theorem ends_ok (t : Track) {a b : Cell} (hl : t.cells.length ≤ 65536) (ha : t.cells[0]? = some a) (hb : t.cells[t.cells.length - 1]? = some b) : PC Try.prog 32 [.agg t.row] (.p (.agg (ends2 a b))) := by
  have hne := (List.getElem?_eq_some_iff.1 ha).1
  have e1 := wrap_i64 (n := (t.cells.length : Int) - 1) (by omega) (by omega)
  have e2 : ((t.cells.length : Int) - 1).toNat = t.cells.length - 1 := by omega
  have hk2 : (0 : Int) ≤ (t.cells.length : Int) - 1 := by omega
  refine pc_of_awp cx (fn := Try.f32) (c := _) Try.func32 rfl rfl (Nat.le_of_ble_eq_true rfl) ?_
  rw [Try.ntmps32]; (repeat (first | refine awp_seq ?_ | refine awp_block ?_ | refine awp_scope ?_ | refine awp_skip ?_ | refine awp_exit ?_ | refine awp_ret ?_ | refine sq_n ?_ | refine sq_r ?_ | refine sq_x ?_ | refine bq_n ?_ | refine bq_r ?_ | refine bq_x ?_ | refine bq_y rfl ?_ | refine pq_n ?_ | refine pq_r ?_ | refine pq_x ?_))
  refine awp_region cx [] fun K hK => ?_
  simp [push_cast, Track.row]
  first | refine hK _ ?_ | refine ⟨(by clear hK; intros; first | omega | (simp_all; done) | (simp_all <;> omega)), hK _ ?_⟩ | refine ⟨(by clear hK; intros; first | omega | (simp_all; done) | (simp_all <;> omega)), (by clear hK; intros; first | omega | (simp_all; done) | (simp_all <;> omega)), hK _ ?_⟩ | refine ⟨(by clear hK; intros; first | omega | (simp_all; done) | (simp_all <;> omega)), (by clear hK; intros; first | omega | (simp_all; done) | (simp_all <;> omega)), (by clear hK; intros; first | omega | (simp_all; done) | (simp_all <;> omega)), hK _ ?_⟩
  clear hK K; (repeat (first | refine awp_seq ?_ | refine awp_block ?_ | refine awp_scope ?_ | refine awp_skip ?_ | refine awp_exit ?_ | refine awp_ret ?_ | refine sq_n ?_ | refine sq_r ?_ | refine sq_x ?_ | refine bq_n ?_ | refine bq_r ?_ | refine bq_x ?_ | refine bq_y rfl ?_ | refine pq_n ?_ | refine pq_r ?_ | refine pq_x ?_))
  refine awp_region_draw cx mixed [] fun K hK => ?_
  simp [push_cast, Track.row, ha, hb, e1, e2, hk2]
  first | refine hK _ _ (by kernel_rfl) ?_ | refine ⟨(by clear hK; intros; first | omega | (simp_all; done) | (simp_all <;> omega)), hK _ _ (by kernel_rfl) ?_⟩ | refine ⟨(by clear hK; intros; first | omega | (simp_all; done) | (simp_all <;> omega)), (by clear hK; intros; first | omega | (simp_all; done) | (simp_all <;> omega)), hK _ _ (by kernel_rfl) ?_⟩ | refine ⟨(by clear hK; intros; first | omega | (simp_all; done) | (simp_all <;> omega)), (by clear hK; intros; first | omega | (simp_all; done) | (simp_all <;> omega)), (by clear hK; intros; first | omega | (simp_all; done) | (simp_all <;> omega)), hK _ _ (by kernel_rfl) ?_⟩
  clear hK K; (repeat (first | refine awp_seq ?_ | refine awp_block ?_ | refine awp_scope ?_ | refine awp_skip ?_ | refine awp_exit ?_ | refine awp_ret ?_ | refine sq_n ?_ | refine sq_r ?_ | refine sq_x ?_ | refine bq_n ?_ | refine bq_r ?_ | refine bq_x ?_ | refine bq_y rfl ?_ | refine pq_n ?_ | refine pq_r ?_ | refine pq_x ?_))
  simp [push_cast]

theorem vlist_ok (l : List Track) (hc : ∀ t ∈ l, t.cells.length ≤ 65536) (hl : l.length ≤ 1000) : PC Try.prog 34 [encTracks l] (.o 36 3 ((l.filter validT).map Track.row)) := by
  refine pc_of_awp cx (fn := Try.f34) (c := _) Try.func34 rfl rfl (Nat.le_of_ble_eq_true rfl) ?_
  rw [Try.ntmps34]; (repeat (first | refine awp_seq ?_ | refine awp_block ?_ | refine awp_scope ?_ | refine awp_skip ?_ | refine awp_exit ?_ | refine awp_ret ?_ | refine sq_n ?_ | refine sq_r ?_ | refine sq_x ?_ | refine bq_n ?_ | refine bq_r ?_ | refine bq_x ?_ | refine bq_y rfl ?_ | refine pq_n ?_ | refine pq_r ?_ | refine pq_x ?_))
  refine awp_region cx [] fun K hK => ?_
  simp [push_cast]
  first | refine hK _ ?_ | refine ⟨(by clear hK; intros; first | omega | (simp_all; done) | (simp_all <;> omega)), hK _ ?_⟩ | refine ⟨(by clear hK; intros; first | omega | (simp_all; done) | (simp_all <;> omega)), (by clear hK; intros; first | omega | (simp_all; done) | (simp_all <;> omega)), hK _ ?_⟩ | refine ⟨(by clear hK; intros; first | omega | (simp_all; done) | (simp_all <;> omega)), (by clear hK; intros; first | omega | (simp_all; done) | (simp_all <;> omega)), (by clear hK; intros; first | omega | (simp_all; done) | (simp_all <;> omega)), hK _ ?_⟩
  clear hK K; (repeat (first | refine awp_seq ?_ | refine awp_block ?_ | refine awp_scope ?_ | refine awp_skip ?_ | refine awp_exit ?_ | refine awp_ret ?_ | refine sq_n ?_ | refine sq_r ?_ | refine sq_x ?_ | refine bq_n ?_ | refine bq_r ?_ | refine bq_x ?_ | refine bq_y rfl ?_ | refine pq_n ?_ | refine pq_r ?_ | refine pq_x ?_))
  refine awp_region cx [] fun K hK => ?_
  simp [push_cast]
  first | refine hK _ ?_ | refine ⟨(by clear hK; intros; first | omega | (simp_all; done) | (simp_all <;> omega)), hK _ ?_⟩ | refine ⟨(by clear hK; intros; first | omega | (simp_all; done) | (simp_all <;> omega)), (by clear hK; intros; first | omega | (simp_all; done) | (simp_all <;> omega)), hK _ ?_⟩ | refine ⟨(by clear hK; intros; first | omega | (simp_all; done) | (simp_all <;> omega)), (by clear hK; intros; first | omega | (simp_all; done) | (simp_all <;> omega)), (by clear hK; intros; first | omega | (simp_all; done) | (simp_all <;> omega)), hK _ ?_⟩
  clear hK K; (repeat (first | refine awp_seq ?_ | refine awp_block ?_ | refine awp_scope ?_ | refine awp_skip ?_ | refine awp_exit ?_ | refine awp_ret ?_ | refine sq_n ?_ | refine sq_r ?_ | refine sq_x ?_ | refine bq_n ?_ | refine bq_r ?_ | refine bq_x ?_ | refine bq_y rfl ?_ | refine pq_n ?_ | refine pq_r ?_ | refine pq_x ?_))
  refine awp_region cx [] fun K hK => ?_
  simp [push_cast]
  first | refine hK _ ?_ | refine ⟨(by clear hK; intros; first | omega | (simp_all; done) | (simp_all <;> omega)), hK _ ?_⟩ | refine ⟨(by clear hK; intros; first | omega | (simp_all; done) | (simp_all <;> omega)), (by clear hK; intros; first | omega | (simp_all; done) | (simp_all <;> omega)), hK _ ?_⟩ | refine ⟨(by clear hK; intros; first | omega | (simp_all; done) | (simp_all <;> omega)), (by clear hK; intros; first | omega | (simp_all; done) | (simp_all <;> omega)), (by clear hK; intros; first | omega | (simp_all; done) | (simp_all <;> omega)), hK _ ?_⟩
  clear hK K; (repeat (first | refine awp_seq ?_ | refine awp_block ?_ | refine awp_scope ?_ | refine awp_skip ?_ | refine awp_exit ?_ | refine awp_ret ?_ | refine sq_n ?_ | refine sq_r ?_ | refine sq_x ?_ | refine bq_n ?_ | refine bq_r ?_ | refine bq_x ?_ | refine bq_y rfl ?_ | refine pq_n ?_ | refine pq_r ?_ | refine pq_x ?_))
  refine awp_loop (β := Nat × List Track) (fun b => ⟨20, [(3, .hs 0 0 b.2.length), (6, .d (encTracks l)), (7, .d (.int .i64 l.length)), (8, .d (.int .i64 b.1))], [(0, some ⟨36, 3, dr (b.2.map Track.row)⟩)], 1⟩) (fun b => b.1 ≤ l.length ∧ b.2 = (l.take b.1).filter validT) (fun b => l.length - b.1) (0, []) ?_ ⟨Nat.zero_le _, rfl⟩ ?_
  · refine weak_of [(0, none)] rfl (by simp [upT, up, upL, push_cast]) (by simp [upH, upR, upL, up, push_cast]) (by simp [namesOk, push_cast]) (by simp [olds])
  · rintro ⟨k, X⟩ ⟨hk, hX⟩
    simp only at hk hX
    have hXl : X.length ≤ k := by rw [hX]; exact Nat.le_trans (List.length_filter_le _ _) (by simp; omega)
    (repeat (first | refine awp_seq ?_ | refine awp_block ?_ | refine awp_scope ?_ | refine awp_skip ?_ | refine awp_exit ?_ | refine awp_ret ?_ | refine sq_n ?_ | refine sq_r ?_ | refine sq_x ?_ | refine bq_n ?_ | refine bq_r ?_ | refine bq_x ?_ | refine bq_y rfl ?_ | refine pq_n ?_ | refine pq_r ?_ | refine pq_x ?_))
    refine awp_region cx [] fun K hK => ?_
    simp [push_cast]
    first | refine hK _ ?_ | refine ⟨(by clear hK; intros; first | omega | (simp_all; done) | (simp_all <;> omega)), hK _ ?_⟩ | refine ⟨(by clear hK; intros; first | omega | (simp_all; done) | (simp_all <;> omega)), (by clear hK; intros; first | omega | (simp_all; done) | (simp_all <;> omega)), hK _ ?_⟩ | refine ⟨(by clear hK; intros; first | omega | (simp_all; done) | (simp_all <;> omega)), (by clear hK; intros; first | omega | (simp_all; done) | (simp_all <;> omega)), (by clear hK; intros; first | omega | (simp_all; done) | (simp_all <;> omega)), hK _ ?_⟩
    clear hK K; (repeat (first | refine awp_seq ?_ | refine awp_block ?_ | refine awp_scope ?_ | refine awp_skip ?_ | refine awp_exit ?_ | refine awp_ret ?_ | refine sq_n ?_ | refine sq_r ?_ | refine sq_x ?_ | refine bq_n ?_ | refine bq_r ?_ | refine bq_x ?_ | refine bq_y rfl ?_ | refine pq_n ?_ | refine pq_r ?_ | refine pq_x ?_))
    refine awp_cond (b := decide ((k : Int) < l.length)) (by simp [push_cast]) (fun hb => ?_) (fun hb => ?_) <;> ((repeat (first | refine awp_seq ?_ | refine awp_block ?_ | refine awp_scope ?_ | refine awp_skip ?_ | refine awp_exit ?_ | refine awp_ret ?_ | refine sq_n ?_ | refine sq_r ?_ | refine sq_x ?_ | refine bq_n ?_ | refine bq_r ?_ | refine bq_x ?_ | refine bq_y rfl ?_ | refine pq_n ?_ | refine pq_r ?_ | refine pq_x ?_)))
    · have hlt : k < l.length := by simpa using hb
      obtain ⟨o, hx⟩ := getq hlt
      have c1 := validR_ok o (hc o (List.mem_of_getElem? hx))
      have e0 := wrap_i64 (n := (k : Int) + 1) (by omega) (by omega)
      have e2 : (X.length + 1) * 40 ≤ 140737488355328 := by omega
      refine awp_region cx [] fun K hK => ?_
      simp [push_cast, hx, Track.row]
      first | refine hK _ ?_ | refine ⟨(by clear hK; intros; first | omega | (simp_all; done) | (simp_all <;> omega)), hK _ ?_⟩ | refine ⟨(by clear hK; intros; first | omega | (simp_all; done) | (simp_all <;> omega)), (by clear hK; intros; first | omega | (simp_all; done) | (simp_all <;> omega)), hK _ ?_⟩ | refine ⟨(by clear hK; intros; first | omega | (simp_all; done) | (simp_all <;> omega)), (by clear hK; intros; first | omega | (simp_all; done) | (simp_all <;> omega)), (by clear hK; intros; first | omega | (simp_all; done) | (simp_all <;> omega)), hK _ ?_⟩
      clear hK K; (repeat (first | refine awp_seq ?_ | refine awp_block ?_ | refine awp_scope ?_ | refine awp_skip ?_ | refine awp_exit ?_ | refine awp_ret ?_ | refine sq_n ?_ | refine sq_r ?_ | refine sq_x ?_ | refine bq_n ?_ | refine bq_r ?_ | refine bq_x ?_ | refine bq_y rfl ?_ | refine pq_n ?_ | refine pq_r ?_ | refine pq_x ?_))
      generalize hv : validT o = v at c1
      refine awp_region cx [(1, .p (.bool v))] fun K hK => ?_
      simp [push_cast, c1, Track.row]
      first | refine hK _ ?_ | refine ⟨(by clear hK; intros; first | omega | (simp_all; done) | (simp_all <;> omega)), hK _ ?_⟩ | refine ⟨(by clear hK; intros; first | omega | (simp_all; done) | (simp_all <;> omega)), (by clear hK; intros; first | omega | (simp_all; done) | (simp_all <;> omega)), hK _ ?_⟩ | refine ⟨(by clear hK; intros; first | omega | (simp_all; done) | (simp_all <;> omega)), (by clear hK; intros; first | omega | (simp_all; done) | (simp_all <;> omega)), (by clear hK; intros; first | omega | (simp_all; done) | (simp_all <;> omega)), hK _ ?_⟩
      clear hK K; (repeat (first | refine awp_seq ?_ | refine awp_block ?_ | refine awp_scope ?_ | refine awp_skip ?_ | refine awp_exit ?_ | refine awp_ret ?_ | refine sq_n ?_ | refine sq_r ?_ | refine sq_x ?_ | refine bq_n ?_ | refine bq_r ?_ | refine bq_x ?_ | refine bq_y rfl ?_ | refine pq_n ?_ | refine pq_r ?_ | refine pq_x ?_))
      refine awp_cond (b := v) (by simp [push_cast]) (fun hb => ?_) (fun hb => ?_) <;> ((repeat (first | refine awp_seq ?_ | refine awp_block ?_ | refine awp_scope ?_ | refine awp_skip ?_ | refine awp_exit ?_ | refine awp_ret ?_ | refine sq_n ?_ | refine sq_r ?_ | refine sq_x ?_ | refine bq_n ?_ | refine bq_r ?_ | refine bq_x ?_ | refine bq_y rfl ?_ | refine pq_n ?_ | refine pq_r ?_ | refine pq_x ?_)))
      · have hX' : X ++ [o] = (l.take (k + 1)).filter validT := by
          rw [hX, List.take_add_one, hx, List.filter_append]; simp [hv, hb]
        refine awp_region cx [] fun K hK => ?_
        simp [push_cast, Track.row, e2]
        first | refine hK _ ?_ | refine ⟨(by clear hK; intros; first | omega | (simp_all; done) | (simp_all <;> omega)), hK _ ?_⟩ | refine ⟨(by clear hK; intros; first | omega | (simp_all; done) | (simp_all <;> omega)), (by clear hK; intros; first | omega | (simp_all; done) | (simp_all <;> omega)), hK _ ?_⟩ | refine ⟨(by clear hK; intros; first | omega | (simp_all; done) | (simp_all <;> omega)), (by clear hK; intros; first | omega | (simp_all; done) | (simp_all <;> omega)), (by clear hK; intros; first | omega | (simp_all; done) | (simp_all <;> omega)), hK _ ?_⟩
        clear hK K; (repeat (first | refine awp_seq ?_ | refine awp_block ?_ | refine awp_scope ?_ | refine awp_skip ?_ | refine awp_exit ?_ | refine awp_ret ?_ | refine sq_n ?_ | refine sq_r ?_ | refine sq_x ?_ | refine bq_n ?_ | refine bq_r ?_ | refine bq_x ?_ | refine bq_y rfl ?_ | refine pq_n ?_ | refine pq_r ?_ | refine pq_x ?_))
        refine awp_region cx [] fun K hK => ?_
        simp [push_cast]
        first | refine hK _ ?_ | refine ⟨(by clear hK; intros; first | omega | (simp_all; done) | (simp_all <;> omega)), hK _ ?_⟩ | refine ⟨(by clear hK; intros; first | omega | (simp_all; done) | (simp_all <;> omega)), (by clear hK; intros; first | omega | (simp_all; done) | (simp_all <;> omega)), hK _ ?_⟩ | refine ⟨(by clear hK; intros; first | omega | (simp_all; done) | (simp_all <;> omega)), (by clear hK; intros; first | omega | (simp_all; done) | (simp_all <;> omega)), (by clear hK; intros; first | omega | (simp_all; done) | (simp_all <;> omega)), hK _ ?_⟩
        clear hK K; (repeat (first | refine awp_seq ?_ | refine awp_block ?_ | refine awp_scope ?_ | refine awp_skip ?_ | refine awp_exit ?_ | refine awp_ret ?_ | refine sq_n ?_ | refine sq_r ?_ | refine sq_x ?_ | refine bq_n ?_ | refine bq_r ?_ | refine bq_x ?_ | refine bq_y rfl ?_ | refine pq_n ?_ | refine pq_r ?_ | refine pq_x ?_))
        refine ⟨(k + 1, X ++ [o]), ⟨hlt, hX'⟩, by simp; omega, ?_⟩
        refine weak_of [(0, some 11)] rfl (by simp [upT, up, upL, push_cast, e0, Track.row]) (by simp [upH, upR, upL, up, push_cast, e0, Track.row]) (by simp [namesOk, push_cast]) (by simp [olds])
      · have hX' : X = (l.take (k + 1)).filter validT := by
          rw [hX, List.take_add_one, hx, List.filter_append]; simp [hv, hb]
        refine awp_region cx [] fun K hK => ?_
        simp [push_cast]
        first | refine hK _ ?_ | refine ⟨(by clear hK; intros; first | omega | (simp_all; done) | (simp_all <;> omega)), hK _ ?_⟩ | refine ⟨(by clear hK; intros; first | omega | (simp_all; done) | (simp_all <;> omega)), (by clear hK; intros; first | omega | (simp_all; done) | (simp_all <;> omega)), hK _ ?_⟩ | refine ⟨(by clear hK; intros; first | omega | (simp_all; done) | (simp_all <;> omega)), (by clear hK; intros; first | omega | (simp_all; done) | (simp_all <;> omega)), (by clear hK; intros; first | omega | (simp_all; done) | (simp_all <;> omega)), hK _ ?_⟩
        clear hK K; (repeat (first | refine awp_seq ?_ | refine awp_block ?_ | refine awp_scope ?_ | refine awp_skip ?_ | refine awp_exit ?_ | refine awp_ret ?_ | refine sq_n ?_ | refine sq_r ?_ | refine sq_x ?_ | refine bq_n ?_ | refine bq_r ?_ | refine bq_x ?_ | refine bq_y rfl ?_ | refine pq_n ?_ | refine pq_r ?_ | refine pq_x ?_))
        refine ⟨(k + 1, X), ⟨hlt, hX'⟩, by simp; omega, ?_⟩
        refine weak_of [(0, some 0)] rfl (by simp [upT, up, upL, push_cast, e0]) (by simp [upH, upR, upL, up, push_cast, e0]) (by simp [namesOk, push_cast]) (by simp [olds])
    · have hge : k = l.length := by simp at hb; omega
      subst hge
      rw [List.take_length] at hX
      subst hX
      refine awp_region cx [] fun K hK => ?_
      simp [push_cast]
      first | refine hK _ ?_ | refine ⟨(by clear hK; intros; first | omega | (simp_all; done) | (simp_all <;> omega)), hK _ ?_⟩ | refine ⟨(by clear hK; intros; first | omega | (simp_all; done) | (simp_all <;> omega)), (by clear hK; intros; first | omega | (simp_all; done) | (simp_all <;> omega)), hK _ ?_⟩ | refine ⟨(by clear hK; intros; first | omega | (simp_all; done) | (simp_all <;> omega)), (by clear hK; intros; first | omega | (simp_all; done) | (simp_all <;> omega)), (by clear hK; intros; first | omega | (simp_all; done) | (simp_all <;> omega)), hK _ ?_⟩
      clear hK K; (repeat (first | refine awp_seq ?_ | refine awp_block ?_ | refine awp_scope ?_ | refine awp_skip ?_ | refine awp_exit ?_ | refine awp_ret ?_ | refine sq_n ?_ | refine sq_r ?_ | refine sq_x ?_ | refine bq_n ?_ | refine bq_r ?_ | refine bq_x ?_ | refine bq_y rfl ?_ | refine pq_n ?_ | refine pq_r ?_ | refine pq_x ?_))
      simp [push_cast]

theorem vlistP_ok (l : List Track) (hc : ∀ t ∈ l, t.cells.length ≤ 65536) (hl : l.length ≤ 1000) : PC Try.prog 36 [encTracks l] (.o 36 3 ((l.filter validT).map Track.row)) := by
  refine pc_of_awp cx (fn := Try.f36) (c := _) Try.func36 rfl rfl (Nat.le_of_ble_eq_true rfl) ?_
  rw [Try.ntmps36]; (repeat (first | refine awp_seq ?_ | refine awp_block ?_ | refine awp_scope ?_ | refine awp_skip ?_ | refine awp_exit ?_ | refine awp_ret ?_ | refine sq_n ?_ | refine sq_r ?_ | refine sq_x ?_ | refine bq_n ?_ | refine bq_r ?_ | refine bq_x ?_ | refine bq_y rfl ?_ | refine pq_n ?_ | refine pq_r ?_ | refine pq_x ?_))
  refine awp_region cx [] fun K hK => ?_
  simp [push_cast]
  first | refine hK _ ?_ | refine ⟨(by clear hK; intros; first | omega | (simp_all; done) | (simp_all <;> omega)), hK _ ?_⟩ | refine ⟨(by clear hK; intros; first | omega | (simp_all; done) | (simp_all <;> omega)), (by clear hK; intros; first | omega | (simp_all; done) | (simp_all <;> omega)), hK _ ?_⟩ | refine ⟨(by clear hK; intros; first | omega | (simp_all; done) | (simp_all <;> omega)), (by clear hK; intros; first | omega | (simp_all; done) | (simp_all <;> omega)), (by clear hK; intros; first | omega | (simp_all; done) | (simp_all <;> omega)), hK _ ?_⟩
  clear hK K; (repeat (first | refine awp_seq ?_ | refine awp_block ?_ | refine awp_scope ?_ | refine awp_skip ?_ | refine awp_exit ?_ | refine awp_ret ?_ | refine sq_n ?_ | refine sq_r ?_ | refine sq_x ?_ | refine bq_n ?_ | refine bq_r ?_ | refine bq_x ?_ | refine bq_y rfl ?_ | refine pq_n ?_ | refine pq_r ?_ | refine pq_x ?_))
  refine awp_region cx [] fun K hK => ?_
  simp [push_cast]
  first | refine hK _ ?_ | refine ⟨(by clear hK; intros; first | omega | (simp_all; done) | (simp_all <;> omega)), hK _ ?_⟩ | refine ⟨(by clear hK; intros; first | omega | (simp_all; done) | (simp_all <;> omega)), (by clear hK; intros; first | omega | (simp_all; done) | (simp_all <;> omega)), hK _ ?_⟩ | refine ⟨(by clear hK; intros; first | omega | (simp_all; done) | (simp_all <;> omega)), (by clear hK; intros; first | omega | (simp_all; done) | (simp_all <;> omega)), (by clear hK; intros; first | omega | (simp_all; done) | (simp_all <;> omega)), hK _ ?_⟩
  clear hK K; (repeat (first | refine awp_seq ?_ | refine awp_block ?_ | refine awp_scope ?_ | refine awp_skip ?_ | refine awp_exit ?_ | refine awp_ret ?_ | refine sq_n ?_ | refine sq_r ?_ | refine sq_x ?_ | refine bq_n ?_ | refine bq_r ?_ | refine bq_x ?_ | refine bq_y rfl ?_ | refine pq_n ?_ | refine pq_r ?_ | refine pq_x ?_))
  refine awp_region cx [] fun K hK => ?_
  simp [push_cast]
  first | refine hK _ ?_ | refine ⟨(by clear hK; intros; first | omega | (simp_all; done) | (simp_all <;> omega)), hK _ ?_⟩ | refine ⟨(by clear hK; intros; first | omega | (simp_all; done) | (simp_all <;> omega)), (by clear hK; intros; first | omega | (simp_all; done) | (simp_all <;> omega)), hK _ ?_⟩ | refine ⟨(by clear hK; intros; first | omega | (simp_all; done) | (simp_all <;> omega)), (by clear hK; intros; first | omega | (simp_all; done) | (simp_all <;> omega)), (by clear hK; intros; first | omega | (simp_all; done) | (simp_all <;> omega)), hK _ ?_⟩
  clear hK K; (repeat (first | refine awp_seq ?_ | refine awp_block ?_ | refine awp_scope ?_ | refine awp_skip ?_ | refine awp_exit ?_ | refine awp_ret ?_ | refine sq_n ?_ | refine sq_r ?_ | refine sq_x ?_ | refine bq_n ?_ | refine bq_r ?_ | refine bq_x ?_ | refine bq_y rfl ?_ | refine pq_n ?_ | refine pq_r ?_ | refine pq_x ?_))
  refine awp_loop (β := Nat × List Track) (fun b => ⟨21, [(3, .hs 0 0 b.2.length), (6, .d (encTracks l)), (7, .d (.int .i64 l.length)), (8, .d (.int .i64 b.1))], [(0, some ⟨36, 3, dr (b.2.map Track.row)⟩)], 1⟩) (fun b => b.1 ≤ l.length ∧ b.2 = (l.take b.1).filter validT) (fun b => l.length - b.1) (0, []) ?_ ⟨Nat.zero_le _, rfl⟩ ?_
  · refine weak_of [(0, none)] rfl (by simp [upT, up, upL, push_cast]) (by simp [upH, upR, upL, up, push_cast]) (by simp [namesOk, push_cast]) (by simp [olds])
  · rintro ⟨k, X⟩ ⟨hk, hX⟩
    simp only at hk hX
    have hXl : X.length ≤ k := by rw [hX]; exact Nat.le_trans (List.length_filter_le _ _) (by simp; omega)
    (repeat (first | refine awp_seq ?_ | refine awp_block ?_ | refine awp_scope ?_ | refine awp_skip ?_ | refine awp_exit ?_ | refine awp_ret ?_ | refine sq_n ?_ | refine sq_r ?_ | refine sq_x ?_ | refine bq_n ?_ | refine bq_r ?_ | refine bq_x ?_ | refine bq_y rfl ?_ | refine pq_n ?_ | refine pq_r ?_ | refine pq_x ?_))
    refine awp_region cx [] fun K hK => ?_
    simp [push_cast]
    first | refine hK _ ?_ | refine ⟨(by clear hK; intros; first | omega | (simp_all; done) | (simp_all <;> omega)), hK _ ?_⟩ | refine ⟨(by clear hK; intros; first | omega | (simp_all; done) | (simp_all <;> omega)), (by clear hK; intros; first | omega | (simp_all; done) | (simp_all <;> omega)), hK _ ?_⟩ | refine ⟨(by clear hK; intros; first | omega | (simp_all; done) | (simp_all <;> omega)), (by clear hK; intros; first | omega | (simp_all; done) | (simp_all <;> omega)), (by clear hK; intros; first | omega | (simp_all; done) | (simp_all <;> omega)), hK _ ?_⟩
    clear hK K; (repeat (first | refine awp_seq ?_ | refine awp_block ?_ | refine awp_scope ?_ | refine awp_skip ?_ | refine awp_exit ?_ | refine awp_ret ?_ | refine sq_n ?_ | refine sq_r ?_ | refine sq_x ?_ | refine bq_n ?_ | refine bq_r ?_ | refine bq_x ?_ | refine bq_y rfl ?_ | refine pq_n ?_ | refine pq_r ?_ | refine pq_x ?_))
    refine awp_cond (b := decide ((k : Int) < l.length)) (by simp [push_cast]) (fun hb => ?_) (fun hb => ?_) <;> ((repeat (first | refine awp_seq ?_ | refine awp_block ?_ | refine awp_scope ?_ | refine awp_skip ?_ | refine awp_exit ?_ | refine awp_ret ?_ | refine sq_n ?_ | refine sq_r ?_ | refine sq_x ?_ | refine bq_n ?_ | refine bq_r ?_ | refine bq_x ?_ | refine bq_y rfl ?_ | refine pq_n ?_ | refine pq_r ?_ | refine pq_x ?_)))
    · have hlt : k < l.length := by simpa using hb
      obtain ⟨o, hx⟩ := getq hlt
      have c1 := valid_ok o (hc o (List.mem_of_getElem? hx))
      have c2 := copied_ok o (hc o (List.mem_of_getElem? hx))
      have e0 := wrap_i64 (n := (k : Int) + 1) (by omega) (by omega)
      have e2 : (X.length + 1) * 40 ≤ 140737488355328 := by omega
      refine awp_region cx [] fun K hK => ?_
      simp [push_cast, hx, Track.row]
      first | refine hK _ ?_ | refine ⟨(by clear hK; intros; first | omega | (simp_all; done) | (simp_all <;> omega)), hK _ ?_⟩ | refine ⟨(by clear hK; intros; first | omega | (simp_all; done) | (simp_all <;> omega)), (by clear hK; intros; first | omega | (simp_all; done) | (simp_all <;> omega)), hK _ ?_⟩ | refine ⟨(by clear hK; intros; first | omega | (simp_all; done) | (simp_all <;> omega)), (by clear hK; intros; first | omega | (simp_all; done) | (simp_all <;> omega)), (by clear hK; intros; first | omega | (simp_all; done) | (simp_all <;> omega)), hK _ ?_⟩
      clear hK K; (repeat (first | refine awp_seq ?_ | refine awp_block ?_ | refine awp_scope ?_ | refine awp_skip ?_ | refine awp_exit ?_ | refine awp_ret ?_ | refine sq_n ?_ | refine sq_r ?_ | refine sq_x ?_ | refine bq_n ?_ | refine bq_r ?_ | refine bq_x ?_ | refine bq_y rfl ?_ | refine pq_n ?_ | refine pq_r ?_ | refine pq_x ?_))
      generalize hv : validT o = v at c1
      refine awp_region cx [(1, .p (.bool v))] fun K hK => ?_
      simp [push_cast, c1, Track.row]
      first | refine hK _ ?_ | refine ⟨(by clear hK; intros; first | omega | (simp_all; done) | (simp_all <;> omega)), hK _ ?_⟩ | refine ⟨(by clear hK; intros; first | omega | (simp_all; done) | (simp_all <;> omega)), (by clear hK; intros; first | omega | (simp_all; done) | (simp_all <;> omega)), hK _ ?_⟩ | refine ⟨(by clear hK; intros; first | omega | (simp_all; done) | (simp_all <;> omega)), (by clear hK; intros; first | omega | (simp_all; done) | (simp_all <;> omega)), (by clear hK; intros; first | omega | (simp_all; done) | (simp_all <;> omega)), hK _ ?_⟩
      clear hK K; (repeat (first | refine awp_seq ?_ | refine awp_block ?_ | refine awp_scope ?_ | refine awp_skip ?_ | refine awp_exit ?_ | refine awp_ret ?_ | refine sq_n ?_ | refine sq_r ?_ | refine sq_x ?_ | refine bq_n ?_ | refine bq_r ?_ | refine bq_x ?_ | refine bq_y rfl ?_ | refine pq_n ?_ | refine pq_r ?_ | refine pq_x ?_))
      refine awp_cond (b := v) (by simp [push_cast]) (fun hb => ?_) (fun hb => ?_) <;> ((repeat (first | refine awp_seq ?_ | refine awp_block ?_ | refine awp_scope ?_ | refine awp_skip ?_ | refine awp_exit ?_ | refine awp_ret ?_ | refine sq_n ?_ | refine sq_r ?_ | refine sq_x ?_ | refine bq_n ?_ | refine bq_r ?_ | refine bq_x ?_ | refine bq_y rfl ?_ | refine pq_n ?_ | refine pq_r ?_ | refine pq_x ?_)))
      · have hX' : X ++ [o] = (l.take (k + 1)).filter validT := by
          rw [hX, List.take_add_one, hx, List.filter_append]; simp [hv, hb]
        simp only [Track.row] at c2
        refine awp_region cx [(2, .p (.agg o.row))] fun K hK => ?_
        simp [push_cast, Track.row, e2, c2]
        first | refine hK _ ?_ | refine ⟨(by clear hK; intros; first | omega | (simp_all; done) | (simp_all <;> omega)), hK _ ?_⟩ | refine ⟨(by clear hK; intros; first | omega | (simp_all; done) | (simp_all <;> omega)), (by clear hK; intros; first | omega | (simp_all; done) | (simp_all <;> omega)), hK _ ?_⟩ | refine ⟨(by clear hK; intros; first | omega | (simp_all; done) | (simp_all <;> omega)), (by clear hK; intros; first | omega | (simp_all; done) | (simp_all <;> omega)), (by clear hK; intros; first | omega | (simp_all; done) | (simp_all <;> omega)), hK _ ?_⟩
        clear hK K; (repeat (first | refine awp_seq ?_ | refine awp_block ?_ | refine awp_scope ?_ | refine awp_skip ?_ | refine awp_exit ?_ | refine awp_ret ?_ | refine sq_n ?_ | refine sq_r ?_ | refine sq_x ?_ | refine bq_n ?_ | refine bq_r ?_ | refine bq_x ?_ | refine bq_y rfl ?_ | refine pq_n ?_ | refine pq_r ?_ | refine pq_x ?_))
        refine awp_region cx [] fun K hK => ?_
        simp [push_cast]
        first | refine hK _ ?_ | refine ⟨(by clear hK; intros; first | omega | (simp_all; done) | (simp_all <;> omega)), hK _ ?_⟩ | refine ⟨(by clear hK; intros; first | omega | (simp_all; done) | (simp_all <;> omega)), (by clear hK; intros; first | omega | (simp_all; done) | (simp_all <;> omega)), hK _ ?_⟩ | refine ⟨(by clear hK; intros; first | omega | (simp_all; done) | (simp_all <;> omega)), (by clear hK; intros; first | omega | (simp_all; done) | (simp_all <;> omega)), (by clear hK; intros; first | omega | (simp_all; done) | (simp_all <;> omega)), hK _ ?_⟩
        clear hK K; (repeat (first | refine awp_seq ?_ | refine awp_block ?_ | refine awp_scope ?_ | refine awp_skip ?_ | refine awp_exit ?_ | refine awp_ret ?_ | refine sq_n ?_ | refine sq_r ?_ | refine sq_x ?_ | refine bq_n ?_ | refine bq_r ?_ | refine bq_x ?_ | refine bq_y rfl ?_ | refine pq_n ?_ | refine pq_r ?_ | refine pq_x ?_))
        refine ⟨(k + 1, X ++ [o]), ⟨hlt, hX'⟩, by simp; omega, ?_⟩
        refine weak_of [(0, some 12)] rfl (by simp [upT, up, upL, push_cast, e0, Track.row]) (by simp [upH, upR, upL, up, push_cast, e0, Track.row]) (by simp [namesOk, push_cast]) (by simp [olds])
      · have hX' : X = (l.take (k + 1)).filter validT := by
          rw [hX, List.take_add_one, hx, List.filter_append]; simp [hv, hb]
        refine awp_region cx [] fun K hK => ?_
        simp [push_cast]
        first | refine hK _ ?_ | refine ⟨(by clear hK; intros; first | omega | (simp_all; done) | (simp_all <;> omega)), hK _ ?_⟩ | refine ⟨(by clear hK; intros; first | omega | (simp_all; done) | (simp_all <;> omega)), (by clear hK; intros; first | omega | (simp_all; done) | (simp_all <;> omega)), hK _ ?_⟩ | refine ⟨(by clear hK; intros; first | omega | (simp_all; done) | (simp_all <;> omega)), (by clear hK; intros; first | omega | (simp_all; done) | (simp_all <;> omega)), (by clear hK; intros; first | omega | (simp_all; done) | (simp_all <;> omega)), hK _ ?_⟩
        clear hK K; (repeat (first | refine awp_seq ?_ | refine awp_block ?_ | refine awp_scope ?_ | refine awp_skip ?_ | refine awp_exit ?_ | refine awp_ret ?_ | refine sq_n ?_ | refine sq_r ?_ | refine sq_x ?_ | refine bq_n ?_ | refine bq_r ?_ | refine bq_x ?_ | refine bq_y rfl ?_ | refine pq_n ?_ | refine pq_r ?_ | refine pq_x ?_))
        refine ⟨(k + 1, X), ⟨hlt, hX'⟩, by simp; omega, ?_⟩
        refine weak_of [(0, some 0)] rfl (by simp [upT, up, upL, push_cast, e0]) (by simp [upH, upR, upL, up, push_cast, e0]) (by simp [namesOk, push_cast]) (by simp [olds])
    · have hge : k = l.length := by simp at hb; omega
      subst hge
      rw [List.take_length] at hX
      subst hX
      refine awp_region cx [] fun K hK => ?_
      simp [push_cast]
      first | refine hK _ ?_ | refine ⟨(by clear hK; intros; first | omega | (simp_all; done) | (simp_all <;> omega)), hK _ ?_⟩ | refine ⟨(by clear hK; intros; first | omega | (simp_all; done) | (simp_all <;> omega)), (by clear hK; intros; first | omega | (simp_all; done) | (simp_all <;> omega)), hK _ ?_⟩ | refine ⟨(by clear hK; intros; first | omega | (simp_all; done) | (simp_all <;> omega)), (by clear hK; intros; first | omega | (simp_all; done) | (simp_all <;> omega)), (by clear hK; intros; first | omega | (simp_all; done) | (simp_all <;> omega)), hK _ ?_⟩
      clear hK K; (repeat (first | refine awp_seq ?_ | refine awp_block ?_ | refine awp_scope ?_ | refine awp_skip ?_ | refine awp_exit ?_ | refine awp_ret ?_ | refine sq_n ?_ | refine sq_r ?_ | refine sq_x ?_ | refine bq_n ?_ | refine bq_r ?_ | refine bq_x ?_ | refine bq_y rfl ?_ | refine pq_n ?_ | refine pq_r ?_ | refine pq_x ?_))
      simp [push_cast]
end Go.Proofs.Ytdoedfheagkloaa
