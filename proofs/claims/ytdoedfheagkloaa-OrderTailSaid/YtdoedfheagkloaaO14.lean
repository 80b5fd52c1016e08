/-
  The walks of this seat's functions and the plain laws behind them: part O14.
-/
import Derived.Test.YtdoedfheagkloaaO13
set_option linter.unusedVariables false
set_option linter.unusedSimpArgs false
namespace Go.Proofs.Ytdoedfheagkloaa
open Go.Abs

def bestS (f : Cell) (l : List Track) : List Track × Int :=
  if onG f = false ∨ (l.filter validT).length ≠ l.length then ([], 1) else if 6 < l.length then ([], 2) else ((chG l.length f l).1, 0)

theorem bool_rows (n : Nat) : dr ((List.replicate n false).map brow) = List.replicate n [AV.d (.bool false)] := by
  simp [dr, brow]

set_option maxHeartbeats 1000000 in
theorem pbest_ok (f : Cell) (l : List Track) (hc : ∀ t ∈ l, t.cells.length ≤ 65536) (hl : l.length ≤ 1000) : PC Try.prog 26 [.agg f.row, encTracks l] (.p (.tup [encTracks (bestS f l).1, .int .i64 (bestS f l).2])) := by
  have c0 := onGrid_ok f
  have c1 := vlistP_ok l hc hl
  have hLl : (l.filter validT).length ≤ 1000 := Nat.le_trans (List.length_filter_le _ _) hl
  have hS : bestS f l = if onG f = false ∨ (l.filter validT).length ≠ l.length then ([], 1) else if 6 < l.length then ([], 2) else ((chG l.length f l).1, 0) := rfl
  have hfe : (l.filter validT).length = l.length → l.filter validT = l := fun h => List.length_filter_eq_length_iff.1 h |> fun h => List.filter_eq_self.2 h
  have hLv := filter_valid l
  generalize l.filter validT = L at *
  generalize hv : onG f = v at c0
  rw [hv] at hS
  refine pc_of_awp cx (fn := Try.f26) (c := _) Try.func26 rfl rfl (Nat.le_of_ble_eq_true rfl) ?_
  rw [Try.ntmps26]; (repeat (first | refine awp_seq ?_ | refine awp_block ?_ | refine awp_scope ?_ | refine awp_skip ?_ | refine awp_exit ?_ | refine awp_ret ?_ | refine sq_n ?_ | refine sq_r ?_ | refine sq_x ?_ | refine bq_n ?_ | refine bq_r ?_ | refine bq_x ?_ | refine bq_y rfl ?_ | refine pq_n ?_ | refine pq_r ?_ | refine pq_x ?_))
  refine awp_region cx [] fun K hK => ?_
  simp [push_cast]
  first | refine hK _ ?_ | refine ⟨(by clear hK; intros; first | omega | (simp_all; done) | (simp_all <;> omega)), hK _ ?_⟩ | refine ⟨(by clear hK; intros; first | omega | (simp_all; done) | (simp_all <;> omega)), (by clear hK; intros; first | omega | (simp_all; done) | (simp_all <;> omega)), hK _ ?_⟩ | refine ⟨(by clear hK; intros; first | omega | (simp_all; done) | (simp_all <;> omega)), (by clear hK; intros; first | omega | (simp_all; done) | (simp_all <;> omega)), (by clear hK; intros; first | omega | (simp_all; done) | (simp_all <;> omega)), hK _ ?_⟩
  clear hK K; (repeat (first | refine awp_seq ?_ | refine awp_block ?_ | refine awp_scope ?_ | refine awp_skip ?_ | refine awp_exit ?_ | refine awp_ret ?_ | refine sq_n ?_ | refine sq_r ?_ | refine sq_x ?_ | refine bq_n ?_ | refine bq_r ?_ | refine bq_x ?_ | refine bq_y rfl ?_ | refine pq_n ?_ | refine pq_r ?_ | refine pq_x ?_))
  refine awp_region cx [(1, .o 36 3 (L.map Track.row))] fun K hK => ?_
  simp [push_cast, c1]
  first | refine hK _ ?_ | refine ⟨(by clear hK; intros; first | omega | (simp_all; done) | (simp_all <;> omega)), hK _ ?_⟩ | refine ⟨(by clear hK; intros; first | omega | (simp_all; done) | (simp_all <;> omega)), (by clear hK; intros; first | omega | (simp_all; done) | (simp_all <;> omega)), hK _ ?_⟩ | refine ⟨(by clear hK; intros; first | omega | (simp_all; done) | (simp_all <;> omega)), (by clear hK; intros; first | omega | (simp_all; done) | (simp_all <;> omega)), (by clear hK; intros; first | omega | (simp_all; done) | (simp_all <;> omega)), hK _ ?_⟩
  clear hK K; (repeat (first | refine awp_seq ?_ | refine awp_block ?_ | refine awp_scope ?_ | refine awp_skip ?_ | refine awp_exit ?_ | refine awp_ret ?_ | refine sq_n ?_ | refine sq_r ?_ | refine sq_x ?_ | refine bq_n ?_ | refine bq_r ?_ | refine bq_x ?_ | refine bq_y rfl ?_ | refine pq_n ?_ | refine pq_r ?_ | refine pq_x ?_))
  refine awp_region cx [(1, .p (.bool v))] fun K hK => ?_
  simp [push_cast, c0]
  first | refine hK _ ?_ | refine ⟨(by clear hK; intros; first | omega | (simp_all; done) | (simp_all <;> omega)), hK _ ?_⟩ | refine ⟨(by clear hK; intros; first | omega | (simp_all; done) | (simp_all <;> omega)), (by clear hK; intros; first | omega | (simp_all; done) | (simp_all <;> omega)), hK _ ?_⟩ | refine ⟨(by clear hK; intros; first | omega | (simp_all; done) | (simp_all <;> omega)), (by clear hK; intros; first | omega | (simp_all; done) | (simp_all <;> omega)), (by clear hK; intros; first | omega | (simp_all; done) | (simp_all <;> omega)), hK _ ?_⟩
  clear hK K; (repeat (first | refine awp_seq ?_ | refine awp_block ?_ | refine awp_scope ?_ | refine awp_skip ?_ | refine awp_exit ?_ | refine awp_ret ?_ | refine sq_n ?_ | refine sq_r ?_ | refine sq_x ?_ | refine bq_n ?_ | refine bq_r ?_ | refine bq_x ?_ | refine bq_y rfl ?_ | refine pq_n ?_ | refine pq_r ?_ | refine pq_x ?_))
  refine awp_cond (by simp [push_cast] <;> exact rfl) (fun hb => ?_) (fun hb => ?_) <;> ((repeat (first | refine awp_seq ?_ | refine awp_block ?_ | refine awp_scope ?_ | refine awp_skip ?_ | refine awp_exit ?_ | refine awp_ret ?_ | refine sq_n ?_ | refine sq_r ?_ | refine sq_x ?_ | refine bq_n ?_ | refine bq_r ?_ | refine bq_x ?_ | refine bq_y rfl ?_ | refine pq_n ?_ | refine pq_r ?_ | refine pq_x ?_)))
  · have hcd : v = false ∨ L.length ≠ l.length := by
      simp at hb
      rcases v with _ | _
      · exact .inl rfl
      · refine .inr ?_
        rcases hb with h | h
        · cases h
        · omega
    rw [hS, if_pos hcd]
    refine awp_region cx [] fun K hK => ?_
    simp [push_cast]
    first | refine hK _ ?_ | refine ⟨(by clear hK; intros; first | omega | (simp_all; done) | (simp_all <;> omega)), hK _ ?_⟩ | refine ⟨(by clear hK; intros; first | omega | (simp_all; done) | (simp_all <;> omega)), (by clear hK; intros; first | omega | (simp_all; done) | (simp_all <;> omega)), hK _ ?_⟩ | refine ⟨(by clear hK; intros; first | omega | (simp_all; done) | (simp_all <;> omega)), (by clear hK; intros; first | omega | (simp_all; done) | (simp_all <;> omega)), (by clear hK; intros; first | omega | (simp_all; done) | (simp_all <;> omega)), hK _ ?_⟩
    clear hK K; (repeat (first | refine awp_seq ?_ | refine awp_block ?_ | refine awp_scope ?_ | refine awp_skip ?_ | refine awp_exit ?_ | refine awp_ret ?_ | refine sq_n ?_ | refine sq_r ?_ | refine sq_x ?_ | refine bq_n ?_ | refine bq_r ?_ | refine bq_x ?_ | refine bq_y rfl ?_ | refine pq_n ?_ | refine pq_r ?_ | refine pq_x ?_))
    simp [push_cast]
  · simp at hb
    have hLe : L.length = l.length := by omega
    rw [hb.1] at hv
    rw [if_neg (by simp [hb.1, hLe])] at hS
    have := hfe hLe
    subst this
    refine awp_region cx [] fun K hK => ?_
    simp [push_cast]
    first | refine hK _ ?_ | refine ⟨(by clear hK; intros; first | omega | (simp_all; done) | (simp_all <;> omega)), hK _ ?_⟩ | refine ⟨(by clear hK; intros; first | omega | (simp_all; done) | (simp_all <;> omega)), (by clear hK; intros; first | omega | (simp_all; done) | (simp_all <;> omega)), hK _ ?_⟩ | refine ⟨(by clear hK; intros; first | omega | (simp_all; done) | (simp_all <;> omega)), (by clear hK; intros; first | omega | (simp_all; done) | (simp_all <;> omega)), (by clear hK; intros; first | omega | (simp_all; done) | (simp_all <;> omega)), hK _ ?_⟩
    clear hK K; (repeat (first | refine awp_seq ?_ | refine awp_block ?_ | refine awp_scope ?_ | refine awp_skip ?_ | refine awp_exit ?_ | refine awp_ret ?_ | refine sq_n ?_ | refine sq_r ?_ | refine sq_x ?_ | refine bq_n ?_ | refine bq_r ?_ | refine bq_x ?_ | refine bq_y rfl ?_ | refine pq_n ?_ | refine pq_r ?_ | refine pq_x ?_))
    refine awp_cond (b := decide (6 < (L.length : Int))) (by simp [push_cast]) (fun hb => ?_) (fun hb => ?_) <;> ((repeat (first | refine awp_seq ?_ | refine awp_block ?_ | refine awp_scope ?_ | refine awp_skip ?_ | refine awp_exit ?_ | refine awp_ret ?_ | refine sq_n ?_ | refine sq_r ?_ | refine sq_x ?_ | refine bq_n ?_ | refine bq_r ?_ | refine bq_x ?_ | refine bq_y rfl ?_ | refine pq_n ?_ | refine pq_r ?_ | refine pq_x ?_)))
    · rw [hS, if_pos (by simp at hb; omega)]
      refine awp_region cx [] fun K hK => ?_
      simp [push_cast]
      first | refine hK _ ?_ | refine ⟨(by clear hK; intros; first | omega | (simp_all; done) | (simp_all <;> omega)), hK _ ?_⟩ | refine ⟨(by clear hK; intros; first | omega | (simp_all; done) | (simp_all <;> omega)), (by clear hK; intros; first | omega | (simp_all; done) | (simp_all <;> omega)), hK _ ?_⟩ | refine ⟨(by clear hK; intros; first | omega | (simp_all; done) | (simp_all <;> omega)), (by clear hK; intros; first | omega | (simp_all; done) | (simp_all <;> omega)), (by clear hK; intros; first | omega | (simp_all; done) | (simp_all <;> omega)), hK _ ?_⟩
      clear hK K; (repeat (first | refine awp_seq ?_ | refine awp_block ?_ | refine awp_scope ?_ | refine awp_skip ?_ | refine awp_exit ?_ | refine awp_ret ?_ | refine sq_n ?_ | refine sq_r ?_ | refine sq_x ?_ | refine bq_n ?_ | refine bq_r ?_ | refine bq_x ?_ | refine bq_y rfl ?_ | refine pq_n ?_ | refine pq_r ?_ | refine pq_x ?_))
      simp [push_cast]
    · have h6 : L.length ≤ 6 := by simp at hb; omega
      rw [hS, if_neg (by omega)]
      clear hS hfe
      have hch := chG_bd L.length f L hv hLv rfl
      have c2 := add_ok L.length L (List.replicate L.length false) f [] none 0 0 hLv hv (by simp) (by rw [un_none]) (by simp) h6 (by simp) (fun x h => by cases h)
      rw [un_none, mrg_new _ _ hch.1 (.inl rfl)] at c2
      simp only [bool_rows, srch, List.nil_append, Int.zero_add, fv_none, fv_some, List.length_nil, List.map_nil] at c2
      generalize chG L.length f L = B at *
      obtain ⟨B, b⟩ := B
      simp only at c2 hch
      have hdr : dr ([] : List (List D)) = [] := rfl
      rw [hdr] at c2
      refine awp_freeze 4 (L.map Track.row) rfl (by simp [push_cast, Track.row]) fun K hK => ?_
      simp [push_cast, St.fz, fzT, fzH, fzO, fz, fzL, fzR, fzR_dr, fzR_app, fzR_set, fzL_map, Track.row]
      refine hK _ ?_; clear hK K; (repeat (first | refine awp_seq ?_ | refine awp_block ?_ | refine awp_scope ?_ | refine awp_skip ?_ | refine awp_exit ?_ | refine awp_ret ?_ | refine sq_n ?_ | refine sq_r ?_ | refine sq_x ?_ | refine bq_n ?_ | refine bq_r ?_ | refine bq_x ?_ | refine bq_y rfl ?_ | refine pq_n ?_ | refine pq_r ?_ | refine pq_x ?_))
      refine awp_region cx [] fun K hK => ?_
      simp [push_cast]
      first | refine hK _ ?_ | refine ⟨(by clear hK; intros; first | omega | (simp_all; done) | (simp_all <;> omega)), hK _ ?_⟩ | refine ⟨(by clear hK; intros; first | omega | (simp_all; done) | (simp_all <;> omega)), (by clear hK; intros; first | omega | (simp_all; done) | (simp_all <;> omega)), hK _ ?_⟩ | refine ⟨(by clear hK; intros; first | omega | (simp_all; done) | (simp_all <;> omega)), (by clear hK; intros; first | omega | (simp_all; done) | (simp_all <;> omega)), (by clear hK; intros; first | omega | (simp_all; done) | (simp_all <;> omega)), hK _ ?_⟩
      clear hK K; (repeat (first | refine awp_seq ?_ | refine awp_block ?_ | refine awp_scope ?_ | refine awp_skip ?_ | refine awp_exit ?_ | refine awp_ret ?_ | refine sq_n ?_ | refine sq_r ?_ | refine sq_x ?_ | refine bq_n ?_ | refine bq_r ?_ | refine bq_x ?_ | refine bq_y rfl ?_ | refine pq_n ?_ | refine pq_r ?_ | refine pq_x ?_))
      refine awp_weak (s' := ⟨38, [(2, .ptr 0 0 0), (7, .ptr 1 0 0)], [(0, some ⟨23, 2, [f.row.map .d]⟩), (1, some ⟨66, 5, [[.d (encTracks L), .hs 2 0 L.length, .hs 3 0 0, .nl, .d (.int .i64 0)]]⟩), (2, some ⟨4, 1, List.replicate L.length [.d (.bool false)]⟩), (3, some ⟨36, 3, []⟩)], 4⟩) ?_ ?_
      · refine weak_of [(0, some 0), (1, some 26), (2, some 24), (3, none)] rfl (by simp [upT, up, upL, push_cast, upR_rep]) (by simp [upH, upR, upL, up, push_cast, upR_rep]) (by simp [namesOk, push_cast]) (by simp [olds])
      · refine awp_region cx [(2, .x ⟨[(0, 1), (1, 2), (2, 3)], [.ptr 0 0 0, .d (.agg f.row), .d (.int .i64 0)], [(0, ⟨66, 5, [[.d (encTracks L), .hs 1 0 L.length, .hs 2 0 0, .nl, .d (.int .i64 0)]]⟩), (1, ⟨4, 1, List.replicate L.length [.d (.bool false)]⟩), (2, ⟨36, 3, []⟩)], [(0, 0), (1, 1)], some 2, [(0, ⟨66, 5, [[.d (encTracks L), .hs 1 0 L.length, .hs 2 0 0, .d (encTracks B), .d (.int .i64 b)]]⟩), (1, ⟨4, 1, List.replicate L.length [.d (.bool false)]⟩), (2, ⟨36, 3, []⟩)], .tup []⟩)] fun K hK => ?_
        simp [push_cast, c2, nbf, rnR_rep, dnR_rep]
        first | refine hK _ ?_ | refine ⟨(by clear hK; intros; first | omega | (simp_all; done) | (simp_all <;> omega)), hK _ ?_⟩ | refine ⟨(by clear hK; intros; first | omega | (simp_all; done) | (simp_all <;> omega)), (by clear hK; intros; first | omega | (simp_all; done) | (simp_all <;> omega)), hK _ ?_⟩ | refine ⟨(by clear hK; intros; first | omega | (simp_all; done) | (simp_all <;> omega)), (by clear hK; intros; first | omega | (simp_all; done) | (simp_all <;> omega)), (by clear hK; intros; first | omega | (simp_all; done) | (simp_all <;> omega)), hK _ ?_⟩
        clear hK K; (repeat (first | refine awp_seq ?_ | refine awp_block ?_ | refine awp_scope ?_ | refine awp_skip ?_ | refine awp_exit ?_ | refine awp_ret ?_ | refine sq_n ?_ | refine sq_r ?_ | refine sq_x ?_ | refine bq_n ?_ | refine bq_r ?_ | refine bq_x ?_ | refine bq_y rfl ?_ | refine pq_n ?_ | refine pq_r ?_ | refine pq_x ?_))
        refine awp_region cx [] fun K hK => ?_
        simp [push_cast]
        first | refine hK _ ?_ | refine ⟨(by clear hK; intros; first | omega | (simp_all; done) | (simp_all <;> omega)), hK _ ?_⟩ | refine ⟨(by clear hK; intros; first | omega | (simp_all; done) | (simp_all <;> omega)), (by clear hK; intros; first | omega | (simp_all; done) | (simp_all <;> omega)), hK _ ?_⟩ | refine ⟨(by clear hK; intros; first | omega | (simp_all; done) | (simp_all <;> omega)), (by clear hK; intros; first | omega | (simp_all; done) | (simp_all <;> omega)), (by clear hK; intros; first | omega | (simp_all; done) | (simp_all <;> omega)), hK _ ?_⟩
        clear hK K; (repeat (first | refine awp_seq ?_ | refine awp_block ?_ | refine awp_scope ?_ | refine awp_skip ?_ | refine awp_exit ?_ | refine awp_ret ?_ | refine sq_n ?_ | refine sq_r ?_ | refine sq_x ?_ | refine bq_n ?_ | refine bq_r ?_ | refine bq_x ?_ | refine bq_y rfl ?_ | refine pq_n ?_ | refine pq_r ?_ | refine pq_x ?_))
        simp [push_cast]
end Go.Proofs.Ytdoedfheagkloaa
