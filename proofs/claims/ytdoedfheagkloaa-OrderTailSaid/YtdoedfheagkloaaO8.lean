/-
  The walks of this seat's functions and the plain laws behind them: part O8.
-/
import Derived.Test.YtdoedfheagkloaaO7
set_option linter.unusedVariables false
set_option linter.unusedSimpArgs false
namespace Go.Proofs.Ytdoedfheagkloaa
open Go.Abs

/-- What the reference knows behind i tracks, and behind j variants of the next one. -/
def rs (f : Cell) (L : List Track) (i : Nat) : Track × Int × Int :=
  if (pk f L i).2.2 < 0 then (zeroT, -1, 0) else ((L[(pk f L i).1]?).elim zeroT fun t => variant t (pk f L i).2.1, (pk f L i).1, (pk f L i).2.2)
def rsj (f : Cell) (L : List Track) (i : Nat) (t : Track) (j : Nat) : Track × Int × Int :=
  if j = 0 then rs f L i else if (pk f L i).2.2 < 0 ∨ (bst f (cands t) j).2 < (pk f L i).2.2 then (variant t (bst f (cands t) j).1, (i : Int), (bst f (cands t) j).2) else rs f L i

theorem rsj_end {f : Cell} {L : List Track} {i : Nat} {t : Track} (hf : onG f = true) (hL : ∀ t ∈ L, validT t = true) (hx : L[i]? = some t) : rsj f L i t (cands t).length = rs f L (i + 1) := by
  have hv := hL t (List.mem_of_getElem? hx)
  obtain ⟨n1, _⟩ := cands_facts hv
  obtain ⟨b1, b2, b3, b4⟩ := best_facts (f := f) hv
  have hd := dist_bd hf (validT_facts b4).2.2.2.2.2.1
  unfold rsj
  rw [if_neg (by omega)]
  have hp : pk f L (i + 1) = if (pk f L i).2.2 < 0 ∨ (best f t).2 < (pk f L i).2.2 then (i, (best f t).1, (best f t).2) else pk f L i := by simp only [pk, hx]
  change (if (pk f L i).2.2 < 0 ∨ (best f t).2 < (pk f L i).2.2 then (variant t (best f t).1, (i : Int), (best f t).2) else rs f L i) = _
  unfold rs
  rw [hp]
  split
  · rename_i hc
    simp only
    rw [if_neg (by omega), hx]
    rfl
  · rfl

theorem rsj_step {f : Cell} {L : List Track} {i j : Nat} {t : Track} {c : Cell} (hL : ∀ t ∈ L, validT t = true) (hi : i < L.length) (hf : onG f = true) (hc : (cands t)[j]? = some c) :
    rsj f L i t (j + 1) = if (rsj f L i t j).2.1 < 0 ∨ dist f c < (rsj f L i t j).2.2 then (variant t j, (i : Int), dist f c) else rsj f L i t j := by
  have hbd := pk_bd f L hf hL i (by omega)
  have hrs : (rs f L i).2.1 < 0 ↔ (pk f L i).2.2 < 0 := by
    unfold rs
    split
    · rename_i h; simp [h]
    · rename_i h; simp only; omega
  have hrs2 : ¬ (pk f L i).2.2 < 0 → (rs f L i).2.2 = (pk f L i).2.2 := fun h => by unfold rs; rw [if_neg h]
  unfold rsj
  rw [if_neg (by omega)]
  have hb : bst f (cands t) (j + 1) = if dist f c < (bst f (cands t) j).2 then (j, dist f c) else bst f (cands t) j := by simp only [bst, hc]
  by_cases hj : j = 0
  · subst hj
    have h0 : bst f (cands t) (0 + 1) = (0, dist f c) := by
      rw [hb]
      have : (bst f (cands t) 0) = (0, dist f c) := by simp [bst, hc]
      rw [this]; simp
    rw [h0, if_pos rfl]
    by_cases hn : (pk f L i).2.2 < 0
    · rw [if_pos (.inl hn), if_pos (.inl (hrs.2 hn))]
    · rw [hrs2 hn]
      by_cases h2 : dist f c < (pk f L i).2.2
      · rw [if_pos (.inr h2), if_pos (.inr h2)]
      · rw [if_neg (fun h => h.elim hn h2), if_neg (fun h => h.elim (fun h => hn (hrs.1 h)) h2)]
  · rw [if_neg hj, hb]
    by_cases h1 : (pk f L i).2.2 < 0 ∨ (bst f (cands t) j).2 < (pk f L i).2.2
    · rw [if_pos h1]
      simp only
      by_cases h2 : dist f c < (bst f (cands t) j).2
      · rw [if_pos h2, if_pos (by simp only; omega), if_pos (.inr h2)]
      · rw [if_neg h2, if_pos h1, if_neg (by omega)]
    · rw [if_neg h1]
      have hn : ¬ (pk f L i).2.2 < 0 := fun h => h1 (.inl h)
      rw [hrs2 hn]
      by_cases h2 : dist f c < (pk f L i).2.2
      · have h3 : dist f c < (bst f (cands t) j).2 := by omega
        rw [if_pos h3, if_pos (.inr h2), if_pos (.inr h2)]
      · have h4 : ¬ ((rs f L i).2.1 < 0 ∨ dist f c < (pk f L i).2.2) := fun h => h.elim (fun h => hn (hrs.1 h)) h2
        rw [if_neg h4]
        by_cases h3 : dist f c < (bst f (cands t) j).2
        · rw [if_pos h3, if_neg (fun h => h.elim hn h2)]
        · rw [if_neg h3, if_neg h1]

theorem row3 {l : List Track} {r : List D} (h : r ∈ l.map Track.row) : r.length = 3 := by
  obtain ⟨c, _, rfl⟩ := List.mem_map.1 h; rfl

theorem rgreedy_ok (f : Cell) (l : List Track) (hc : ∀ t ∈ l, t.cells.length ≤ 65536) (hl : l.length ≤ 1000) : PC Try.prog 18 [.agg f.row, encTracks l] (.p (encTracks (greedy f l))) := by
  have c0 := onGridR_ok f
  have c1 := (vlist_ok l hc hl).data
  have hLv := filter_valid l
  have hLl : (l.filter validT).length ≤ 1000 := Nat.le_trans (List.length_filter_le _ _) hl
  have hg : greedy f l = if onG f then gr (l.filter validT).length f (l.filter validT) else [] := rfl
  generalize l.filter validT = L0 at *
  refine pc_of_awp cx (fn := Try.f18) (c := _) Try.func18 rfl rfl (Nat.le_of_ble_eq_true rfl) ?_
  rw [Try.ntmps18]; (repeat (first | refine awp_seq ?_ | refine awp_block ?_ | refine awp_scope ?_ | refine awp_skip ?_ | refine awp_exit ?_ | refine awp_ret ?_ | refine sq_n ?_ | refine sq_r ?_ | refine sq_x ?_ | refine bq_n ?_ | refine bq_r ?_ | refine bq_x ?_ | refine bq_y rfl ?_ | refine pq_n ?_ | refine pq_r ?_ | refine pq_x ?_))
  refine awp_region cx [] fun K hK => ?_
  simp [push_cast]
  first | refine hK _ ?_ | refine ⟨(by clear hK; intros; first | omega | (simp_all; done) | (simp_all <;> omega)), hK _ ?_⟩ | refine ⟨(by clear hK; intros; first | omega | (simp_all; done) | (simp_all <;> omega)), (by clear hK; intros; first | omega | (simp_all; done) | (simp_all <;> omega)), hK _ ?_⟩ | refine ⟨(by clear hK; intros; first | omega | (simp_all; done) | (simp_all <;> omega)), (by clear hK; intros; first | omega | (simp_all; done) | (simp_all <;> omega)), (by clear hK; intros; first | omega | (simp_all; done) | (simp_all <;> omega)), hK _ ?_⟩
  clear hK K; (repeat (first | refine awp_seq ?_ | refine awp_block ?_ | refine awp_scope ?_ | refine awp_skip ?_ | refine awp_exit ?_ | refine awp_ret ?_ | refine sq_n ?_ | refine sq_r ?_ | refine sq_x ?_ | refine bq_n ?_ | refine bq_r ?_ | refine bq_x ?_ | refine bq_y rfl ?_ | refine pq_n ?_ | refine pq_r ?_ | refine pq_x ?_))
  generalize hv : onG f = v at c0
  rw [hv] at hg
  refine awp_region cx [(1, .p (.bool v))] fun K hK => ?_
  simp [push_cast, c0]
  first | refine hK _ ?_ | refine ⟨(by clear hK; intros; first | omega | (simp_all; done) | (simp_all <;> omega)), hK _ ?_⟩ | refine ⟨(by clear hK; intros; first | omega | (simp_all; done) | (simp_all <;> omega)), (by clear hK; intros; first | omega | (simp_all; done) | (simp_all <;> omega)), hK _ ?_⟩ | refine ⟨(by clear hK; intros; first | omega | (simp_all; done) | (simp_all <;> omega)), (by clear hK; intros; first | omega | (simp_all; done) | (simp_all <;> omega)), (by clear hK; intros; first | omega | (simp_all; done) | (simp_all <;> omega)), hK _ ?_⟩
  clear hK K; (repeat (first | refine awp_seq ?_ | refine awp_block ?_ | refine awp_scope ?_ | refine awp_skip ?_ | refine awp_exit ?_ | refine awp_ret ?_ | refine sq_n ?_ | refine sq_r ?_ | refine sq_x ?_ | refine bq_n ?_ | refine bq_r ?_ | refine bq_x ?_ | refine bq_y rfl ?_ | refine pq_n ?_ | refine pq_r ?_ | refine pq_x ?_))
  refine awp_cond (b := !v) (by simp [push_cast]) (fun hb => ?_) (fun hb => ?_) <;> ((repeat (first | refine awp_seq ?_ | refine awp_block ?_ | refine awp_scope ?_ | refine awp_skip ?_ | refine awp_exit ?_ | refine awp_ret ?_ | refine sq_n ?_ | refine sq_r ?_ | refine sq_x ?_ | refine bq_n ?_ | refine bq_r ?_ | refine bq_x ?_ | refine bq_y rfl ?_ | refine pq_n ?_ | refine pq_r ?_ | refine pq_x ?_)))
  · simp at hb
    rw [hb] at hg
    rw [hg]
    refine awp_region cx [] fun K hK => ?_
    simp [push_cast]
    first | refine hK _ ?_ | refine ⟨(by clear hK; intros; first | omega | (simp_all; done) | (simp_all <;> omega)), hK _ ?_⟩ | refine ⟨(by clear hK; intros; first | omega | (simp_all; done) | (simp_all <;> omega)), (by clear hK; intros; first | omega | (simp_all; done) | (simp_all <;> omega)), hK _ ?_⟩ | refine ⟨(by clear hK; intros; first | omega | (simp_all; done) | (simp_all <;> omega)), (by clear hK; intros; first | omega | (simp_all; done) | (simp_all <;> omega)), (by clear hK; intros; first | omega | (simp_all; done) | (simp_all <;> omega)), hK _ ?_⟩
    clear hK K; (repeat (first | refine awp_seq ?_ | refine awp_block ?_ | refine awp_scope ?_ | refine awp_skip ?_ | refine awp_exit ?_ | refine awp_ret ?_ | refine sq_n ?_ | refine sq_r ?_ | refine sq_x ?_ | refine bq_n ?_ | refine bq_r ?_ | refine bq_x ?_ | refine bq_y rfl ?_ | refine pq_n ?_ | refine pq_r ?_ | refine pq_x ?_))
    simp [push_cast]
  · simp at hb
    rw [hb] at hg hv
    rw [hg, if_pos rfl]
    clear hg
    generalize hG : gr L0.length f L0 = G
    refine awp_region cx [(1, .p (encTracks L0))] fun K hK => ?_
    simp [push_cast, c1]
    first | refine hK _ ?_ | refine ⟨(by clear hK; intros; first | omega | (simp_all; done) | (simp_all <;> omega)), hK _ ?_⟩ | refine ⟨(by clear hK; intros; first | omega | (simp_all; done) | (simp_all <;> omega)), (by clear hK; intros; first | omega | (simp_all; done) | (simp_all <;> omega)), hK _ ?_⟩ | refine ⟨(by clear hK; intros; first | omega | (simp_all; done) | (simp_all <;> omega)), (by clear hK; intros; first | omega | (simp_all; done) | (simp_all <;> omega)), (by clear hK; intros; first | omega | (simp_all; done) | (simp_all <;> omega)), hK _ ?_⟩
    clear hK K; (repeat (first | refine awp_seq ?_ | refine awp_block ?_ | refine awp_scope ?_ | refine awp_skip ?_ | refine awp_exit ?_ | refine awp_ret ?_ | refine sq_n ?_ | refine sq_r ?_ | refine sq_x ?_ | refine bq_n ?_ | refine bq_r ?_ | refine bq_x ?_ | refine bq_y rfl ?_ | refine pq_n ?_ | refine pq_r ?_ | refine pq_x ?_))
    refine awp_region cx [] fun K hK => ?_
    simp [push_cast]
    first | refine hK _ ?_ | refine ⟨(by clear hK; intros; first | omega | (simp_all; done) | (simp_all <;> omega)), hK _ ?_⟩ | refine ⟨(by clear hK; intros; first | omega | (simp_all; done) | (simp_all <;> omega)), (by clear hK; intros; first | omega | (simp_all; done) | (simp_all <;> omega)), hK _ ?_⟩ | refine ⟨(by clear hK; intros; first | omega | (simp_all; done) | (simp_all <;> omega)), (by clear hK; intros; first | omega | (simp_all; done) | (simp_all <;> omega)), (by clear hK; intros; first | omega | (simp_all; done) | (simp_all <;> omega)), hK _ ?_⟩
    clear hK K; (repeat (first | refine awp_seq ?_ | refine awp_block ?_ | refine awp_scope ?_ | refine awp_skip ?_ | refine awp_exit ?_ | refine awp_ret ?_ | refine sq_n ?_ | refine sq_r ?_ | refine sq_x ?_ | refine bq_n ?_ | refine bq_r ?_ | refine bq_x ?_ | refine bq_y rfl ?_ | refine pq_n ?_ | refine pq_r ?_ | refine pq_x ?_))
    refine awp_loop (β := Cell × List Track × List Track) (fun b => ⟨79, [(2, .ptr 0 0 0), (5, .d (encTracks b.2.1)), (6, .hs 1 0 b.2.2.length)], [(0, some ⟨23, 2, [b.1.row.map .d]⟩), (1, some ⟨36, 3, dr (b.2.2.map Track.row)⟩)], 2⟩)
      (fun b => onG b.1 = true ∧ (∀ t ∈ b.2.1, validT t = true) ∧ b.2.1.length + b.2.2.length ≤ 1000 ∧ b.2.2 ++ gr b.2.1.length b.1 b.2.1 = G) (fun b => b.2.1.length) (f, L0, []) ?_ ⟨hv, hLv, by simpa using hLl, by simpa using hG⟩ ?_
    · refine weak_of [(0, some 0), (1, none)] rfl (by simp [upT, up, upL, push_cast]) (by simp [upH, upR, upL, up, push_cast]) (by simp [namesOk, push_cast]) (by simp [olds])
    · rintro ⟨f', L, X⟩ ⟨hf', hL, hlen, hinv⟩
      simp only at hf' hL hlen hinv
      (repeat (first | refine awp_seq ?_ | refine awp_block ?_ | refine awp_scope ?_ | refine awp_skip ?_ | refine awp_exit ?_ | refine awp_ret ?_ | refine sq_n ?_ | refine sq_r ?_ | refine sq_x ?_ | refine bq_n ?_ | refine bq_r ?_ | refine bq_x ?_ | refine bq_y rfl ?_ | refine pq_n ?_ | refine pq_r ?_ | refine pq_x ?_))
      refine awp_region cx [] fun K hK => ?_
      simp [push_cast]
      first | refine hK _ ?_ | refine ⟨(by clear hK; intros; first | omega | (simp_all; done) | (simp_all <;> omega)), hK _ ?_⟩ | refine ⟨(by clear hK; intros; first | omega | (simp_all; done) | (simp_all <;> omega)), (by clear hK; intros; first | omega | (simp_all; done) | (simp_all <;> omega)), hK _ ?_⟩ | refine ⟨(by clear hK; intros; first | omega | (simp_all; done) | (simp_all <;> omega)), (by clear hK; intros; first | omega | (simp_all; done) | (simp_all <;> omega)), (by clear hK; intros; first | omega | (simp_all; done) | (simp_all <;> omega)), hK _ ?_⟩
      clear hK K; (repeat (first | refine awp_seq ?_ | refine awp_block ?_ | refine awp_scope ?_ | refine awp_skip ?_ | refine awp_exit ?_ | refine awp_ret ?_ | refine sq_n ?_ | refine sq_r ?_ | refine sq_x ?_ | refine bq_n ?_ | refine bq_r ?_ | refine bq_x ?_ | refine bq_y rfl ?_ | refine pq_n ?_ | refine pq_r ?_ | refine pq_x ?_))
      refine awp_cond (b := decide ((0 : Int) < L.length)) (by simp [push_cast]) (fun hb => ?_) (fun hb => ?_) <;> ((repeat (first | refine awp_seq ?_ | refine awp_block ?_ | refine awp_scope ?_ | refine awp_skip ?_ | refine awp_exit ?_ | refine awp_ret ?_ | refine sq_n ?_ | refine sq_r ?_ | refine sq_x ?_ | refine bq_n ?_ | refine bq_r ?_ | refine bq_x ?_ | refine bq_y rfl ?_ | refine pq_n ?_ | refine pq_r ?_ | refine pq_x ?_)))
      · have hpos : 0 < L.length := by simpa using hb
        refine awp_region cx [] fun K hK => ?_
        simp [push_cast]
        first | refine hK _ ?_ | refine ⟨(by clear hK; intros; first | omega | (simp_all; done) | (simp_all <;> omega)), hK _ ?_⟩ | refine ⟨(by clear hK; intros; first | omega | (simp_all; done) | (simp_all <;> omega)), (by clear hK; intros; first | omega | (simp_all; done) | (simp_all <;> omega)), hK _ ?_⟩ | refine ⟨(by clear hK; intros; first | omega | (simp_all; done) | (simp_all <;> omega)), (by clear hK; intros; first | omega | (simp_all; done) | (simp_all <;> omega)), (by clear hK; intros; first | omega | (simp_all; done) | (simp_all <;> omega)), hK _ ?_⟩
        clear hK K; (repeat (first | refine awp_seq ?_ | refine awp_block ?_ | refine awp_scope ?_ | refine awp_skip ?_ | refine awp_exit ?_ | refine awp_ret ?_ | refine sq_n ?_ | refine sq_r ?_ | refine sq_x ?_ | refine bq_n ?_ | refine bq_r ?_ | refine bq_x ?_ | refine bq_y rfl ?_ | refine pq_n ?_ | refine pq_r ?_ | refine pq_x ?_))
        refine awp_den 6 rfl fun K hK => ?_
        simp [push_cast, den]
        refine hK _ ?_; clear hK K; (repeat (first | refine awp_seq ?_ | refine awp_block ?_ | refine awp_scope ?_ | refine awp_skip ?_ | refine awp_exit ?_ | refine awp_ret ?_ | refine sq_n ?_ | refine sq_r ?_ | refine sq_x ?_ | refine bq_n ?_ | refine bq_r ?_ | refine bq_x ?_ | refine bq_y rfl ?_ | refine pq_n ?_ | refine pq_r ?_ | refine pq_x ?_))
        refine awp_region cx [] fun K hK => ?_
        simp [push_cast]
        first | refine hK _ ?_ | refine ⟨(by clear hK; intros; first | omega | (simp_all; done) | (simp_all <;> omega)), hK _ ?_⟩ | refine ⟨(by clear hK; intros; first | omega | (simp_all; done) | (simp_all <;> omega)), (by clear hK; intros; first | omega | (simp_all; done) | (simp_all <;> omega)), hK _ ?_⟩ | refine ⟨(by clear hK; intros; first | omega | (simp_all; done) | (simp_all <;> omega)), (by clear hK; intros; first | omega | (simp_all; done) | (simp_all <;> omega)), (by clear hK; intros; first | omega | (simp_all; done) | (simp_all <;> omega)), hK _ ?_⟩
        clear hK K; (repeat (first | refine awp_seq ?_ | refine awp_block ?_ | refine awp_scope ?_ | refine awp_skip ?_ | refine awp_exit ?_ | refine awp_ret ?_ | refine sq_n ?_ | refine sq_r ?_ | refine sq_x ?_ | refine bq_n ?_ | refine bq_r ?_ | refine bq_x ?_ | refine bq_y rfl ?_ | refine pq_n ?_ | refine pq_r ?_ | refine pq_x ?_))
        refine awp_loop (β := Nat) (fun i => ⟨79, [(2, .ptr 0 0 0), (5, .d (encTracks L)), (6, .hs 1 0 X.length), (7, .ptr 2 0 0), (8, .d (.int .i64 (rs f' L i).2.1)), (9, .d (.int .i64 (rs f' L i).2.2)), (24, .d (encTracks L)), (25, .d (.int .i64 L.length)), (26, .d (.int .i64 i))], [(0, some ⟨23, 2, [f'.row.map .d]⟩), (1, some ⟨36, 3, dr (X.map Track.row)⟩), (2, some ⟨36, 3, [(rs f' L i).1.row.map .d]⟩)], 3⟩) (fun i => i ≤ L.length) (fun i => L.length - i) 0 ?_ (Nat.zero_le _) ?_
        · refine weak_of [(0, some 0), (1, some 1), (2, some 6)] rfl (by simp [upT, up, upL, push_cast, rs, pk, zeroT]) (by simp [upH, upR, upL, up, push_cast, rs, pk, zeroT]) (by simp [namesOk, push_cast]) (by simp [olds])
        · intro i hi
          (repeat (first | refine awp_seq ?_ | refine awp_block ?_ | refine awp_scope ?_ | refine awp_skip ?_ | refine awp_exit ?_ | refine awp_ret ?_ | refine sq_n ?_ | refine sq_r ?_ | refine sq_x ?_ | refine bq_n ?_ | refine bq_r ?_ | refine bq_x ?_ | refine bq_y rfl ?_ | refine pq_n ?_ | refine pq_r ?_ | refine pq_x ?_))
          refine awp_region cx [] fun K hK => ?_
          simp [push_cast]
          first | refine hK _ ?_ | refine ⟨(by clear hK; intros; first | omega | (simp_all; done) | (simp_all <;> omega)), hK _ ?_⟩ | refine ⟨(by clear hK; intros; first | omega | (simp_all; done) | (simp_all <;> omega)), (by clear hK; intros; first | omega | (simp_all; done) | (simp_all <;> omega)), hK _ ?_⟩ | refine ⟨(by clear hK; intros; first | omega | (simp_all; done) | (simp_all <;> omega)), (by clear hK; intros; first | omega | (simp_all; done) | (simp_all <;> omega)), (by clear hK; intros; first | omega | (simp_all; done) | (simp_all <;> omega)), hK _ ?_⟩
          clear hK K; (repeat (first | refine awp_seq ?_ | refine awp_block ?_ | refine awp_scope ?_ | refine awp_skip ?_ | refine awp_exit ?_ | refine awp_ret ?_ | refine sq_n ?_ | refine sq_r ?_ | refine sq_x ?_ | refine bq_n ?_ | refine bq_r ?_ | refine bq_x ?_ | refine bq_y rfl ?_ | refine pq_n ?_ | refine pq_r ?_ | refine pq_x ?_))
          refine awp_cond (b := decide ((i : Int) < L.length)) (by simp [push_cast]) (fun hb => ?_) (fun hb => ?_) <;> ((repeat (first | refine awp_seq ?_ | refine awp_block ?_ | refine awp_scope ?_ | refine awp_skip ?_ | refine awp_exit ?_ | refine awp_ret ?_ | refine sq_n ?_ | refine sq_r ?_ | refine sq_x ?_ | refine bq_n ?_ | refine bq_r ?_ | refine bq_x ?_ | refine bq_y rfl ?_ | refine pq_n ?_ | refine pq_r ?_ | refine pq_x ?_)))
          · have hlt : i < L.length := by simpa using hb
            obtain ⟨t, hx⟩ := getq hlt
            have hvt := hL t (List.mem_of_getElem? hx)
            have c2 := variants_ok t (validT_facts hvt).2.1
            have e0 := wrap_i64 (n := (i : Int) + 1) (by omega) (by omega)
            have hvl := variants_length (t := t)
            obtain ⟨n1, n2, n3⟩ := cands_facts hvt
            have hend := rsj_end hf' hL hx
            have hbeg : rsj f' L i t 0 = rs f' L i := by simp [rsj]
            have hva := fun k hk => variants_at (t := t) (k := k) hk hvt
            generalize variants t = V at *
            refine awp_region cx [] fun K hK => ?_
            simp [push_cast, hx, Track.row]
            first | refine hK _ ?_ | refine ⟨(by clear hK; intros; first | omega | (simp_all; done) | (simp_all <;> omega)), hK _ ?_⟩ | refine ⟨(by clear hK; intros; first | omega | (simp_all; done) | (simp_all <;> omega)), (by clear hK; intros; first | omega | (simp_all; done) | (simp_all <;> omega)), hK _ ?_⟩ | refine ⟨(by clear hK; intros; first | omega | (simp_all; done) | (simp_all <;> omega)), (by clear hK; intros; first | omega | (simp_all; done) | (simp_all <;> omega)), (by clear hK; intros; first | omega | (simp_all; done) | (simp_all <;> omega)), hK _ ?_⟩
            clear hK K; (repeat (first | refine awp_seq ?_ | refine awp_block ?_ | refine awp_scope ?_ | refine awp_skip ?_ | refine awp_exit ?_ | refine awp_ret ?_ | refine sq_n ?_ | refine sq_r ?_ | refine sq_x ?_ | refine bq_n ?_ | refine bq_r ?_ | refine bq_x ?_ | refine bq_y rfl ?_ | refine pq_n ?_ | refine pq_r ?_ | refine pq_x ?_))
            refine awp_region cx [(1, .p (encTracks V))] fun K hK => ?_
            simp [push_cast, c2, Track.row]
            first | refine hK _ ?_ | refine ⟨(by clear hK; intros; first | omega | (simp_all; done) | (simp_all <;> omega)), hK _ ?_⟩ | refine ⟨(by clear hK; intros; first | omega | (simp_all; done) | (simp_all <;> omega)), (by clear hK; intros; first | omega | (simp_all; done) | (simp_all <;> omega)), hK _ ?_⟩ | refine ⟨(by clear hK; intros; first | omega | (simp_all; done) | (simp_all <;> omega)), (by clear hK; intros; first | omega | (simp_all; done) | (simp_all <;> omega)), (by clear hK; intros; first | omega | (simp_all; done) | (simp_all <;> omega)), hK _ ?_⟩
            clear hK K; (repeat (first | refine awp_seq ?_ | refine awp_block ?_ | refine awp_scope ?_ | refine awp_skip ?_ | refine awp_exit ?_ | refine awp_ret ?_ | refine sq_n ?_ | refine sq_r ?_ | refine sq_x ?_ | refine bq_n ?_ | refine bq_r ?_ | refine bq_x ?_ | refine bq_y rfl ?_ | refine pq_n ?_ | refine pq_r ?_ | refine pq_x ?_))
            refine awp_loop (β := Nat) (fun j => ⟨79, [(2, .ptr 0 0 0), (5, .d (encTracks L)), (6, .hs 1 0 X.length), (7, .ptr 2 0 0), (8, .d (.int .i64 (rsj f' L i t j).2.1)), (9, .d (.int .i64 (rsj f' L i t j).2.2)), (10, .d (.int .i64 i)), (24, .d (encTracks L)), (25, .d (.int .i64 L.length)), (26, .d (.int .i64 i)), (32, .d (encTracks V)), (33, .d (.int .i64 V.length)), (34, .d (.int .i64 j))], [(0, some ⟨23, 2, [f'.row.map .d]⟩), (1, some ⟨36, 3, dr (X.map Track.row)⟩), (2, some ⟨36, 3, [(rsj f' L i t j).1.row.map .d]⟩)], 3⟩) (fun j => j ≤ V.length) (fun j => V.length - j) 0 ?_ (Nat.zero_le _) ?_
            · refine weak_of [(0, some 0), (1, some 1), (2, some 2)] rfl (by simp [upT, up, upL, push_cast, hbeg]) (by simp [upH, upR, upL, up, push_cast, hbeg]) (by simp [namesOk, push_cast]) (by simp [olds])
            · intro j hj
              (repeat (first | refine awp_seq ?_ | refine awp_block ?_ | refine awp_scope ?_ | refine awp_skip ?_ | refine awp_exit ?_ | refine awp_ret ?_ | refine sq_n ?_ | refine sq_r ?_ | refine sq_x ?_ | refine bq_n ?_ | refine bq_r ?_ | refine bq_x ?_ | refine bq_y rfl ?_ | refine pq_n ?_ | refine pq_r ?_ | refine pq_x ?_))
              refine awp_region cx [] fun K hK => ?_
              simp [push_cast]
              first | refine hK _ ?_ | refine ⟨(by clear hK; intros; first | omega | (simp_all; done) | (simp_all <;> omega)), hK _ ?_⟩ | refine ⟨(by clear hK; intros; first | omega | (simp_all; done) | (simp_all <;> omega)), (by clear hK; intros; first | omega | (simp_all; done) | (simp_all <;> omega)), hK _ ?_⟩ | refine ⟨(by clear hK; intros; first | omega | (simp_all; done) | (simp_all <;> omega)), (by clear hK; intros; first | omega | (simp_all; done) | (simp_all <;> omega)), (by clear hK; intros; first | omega | (simp_all; done) | (simp_all <;> omega)), hK _ ?_⟩
              clear hK K; (repeat (first | refine awp_seq ?_ | refine awp_block ?_ | refine awp_scope ?_ | refine awp_skip ?_ | refine awp_exit ?_ | refine awp_ret ?_ | refine sq_n ?_ | refine sq_r ?_ | refine sq_x ?_ | refine bq_n ?_ | refine bq_r ?_ | refine bq_x ?_ | refine bq_y rfl ?_ | refine pq_n ?_ | refine pq_r ?_ | refine pq_x ?_))
              refine awp_cond (b := decide ((j : Int) < V.length)) (by simp [push_cast]) (fun hb => ?_) (fun hb => ?_) <;> ((repeat (first | refine awp_seq ?_ | refine awp_block ?_ | refine awp_scope ?_ | refine awp_skip ?_ | refine awp_exit ?_ | refine awp_ret ?_ | refine sq_n ?_ | refine sq_r ?_ | refine sq_x ?_ | refine bq_n ?_ | refine bq_r ?_ | refine bq_x ?_ | refine bq_y rfl ?_ | refine pq_n ?_ | refine pq_r ?_ | refine pq_x ?_)))
              · have hlt2 : j < V.length := by simpa using hb
                have hxv := hva j (by omega)
                obtain ⟨q1, q2⟩ := variant_valid hvt (show j < (cands t).length by omega)
                obtain ⟨v1, v2, v3, v4, v5, v6, v7⟩ := validT_facts q1
                have hs := rsj_step hL hlt hf' q2
                have c3 := distance_ok hf' v6
                have e1 := wrap_i64 (n := (j : Int) + 1) (by omega) (by omega)
                generalize variant t j = u at *
                generalize dist f' (fstC u) = d at *
                refine awp_region cx [] fun K hK => ?_
                simp [push_cast, hxv, Track.row]
                first | refine hK _ ?_ | refine ⟨(by clear hK; intros; first | omega | (simp_all; done) | (simp_all <;> omega)), hK _ ?_⟩ | refine ⟨(by clear hK; intros; first | omega | (simp_all; done) | (simp_all <;> omega)), (by clear hK; intros; first | omega | (simp_all; done) | (simp_all <;> omega)), hK _ ?_⟩ | refine ⟨(by clear hK; intros; first | omega | (simp_all; done) | (simp_all <;> omega)), (by clear hK; intros; first | omega | (simp_all; done) | (simp_all <;> omega)), (by clear hK; intros; first | omega | (simp_all; done) | (simp_all <;> omega)), hK _ ?_⟩
                clear hK K; (repeat (first | refine awp_seq ?_ | refine awp_block ?_ | refine awp_scope ?_ | refine awp_skip ?_ | refine awp_exit ?_ | refine awp_ret ?_ | refine sq_n ?_ | refine sq_r ?_ | refine sq_x ?_ | refine bq_n ?_ | refine bq_r ?_ | refine bq_x ?_ | refine bq_y rfl ?_ | refine pq_n ?_ | refine pq_r ?_ | refine pq_x ?_))
                refine awp_region_draw cx mixed [(5, .p (.int .i64 d))] fun K hK => ?_
                simp [push_cast, v3, c3]
                first | refine hK _ _ (by kernel_rfl) ?_ | refine ⟨(by clear hK; intros; first | omega | (simp_all; done) | (simp_all <;> omega)), hK _ _ (by kernel_rfl) ?_⟩ | refine ⟨(by clear hK; intros; first | omega | (simp_all; done) | (simp_all <;> omega)), (by clear hK; intros; first | omega | (simp_all; done) | (simp_all <;> omega)), hK _ _ (by kernel_rfl) ?_⟩ | refine ⟨(by clear hK; intros; first | omega | (simp_all; done) | (simp_all <;> omega)), (by clear hK; intros; first | omega | (simp_all; done) | (simp_all <;> omega)), (by clear hK; intros; first | omega | (simp_all; done) | (simp_all <;> omega)), hK _ _ (by kernel_rfl) ?_⟩
                clear hK K; (repeat (first | refine awp_seq ?_ | refine awp_block ?_ | refine awp_scope ?_ | refine awp_skip ?_ | refine awp_exit ?_ | refine awp_ret ?_ | refine sq_n ?_ | refine sq_r ?_ | refine sq_x ?_ | refine bq_n ?_ | refine bq_r ?_ | refine bq_x ?_ | refine bq_y rfl ?_ | refine pq_n ?_ | refine pq_r ?_ | refine pq_x ?_))
                refine awp_region cx [] fun K hK => ?_
                simp [push_cast]
                first | refine hK _ ?_ | refine ⟨(by clear hK; intros; first | omega | (simp_all; done) | (simp_all <;> omega)), hK _ ?_⟩ | refine ⟨(by clear hK; intros; first | omega | (simp_all; done) | (simp_all <;> omega)), (by clear hK; intros; first | omega | (simp_all; done) | (simp_all <;> omega)), hK _ ?_⟩ | refine ⟨(by clear hK; intros; first | omega | (simp_all; done) | (simp_all <;> omega)), (by clear hK; intros; first | omega | (simp_all; done) | (simp_all <;> omega)), (by clear hK; intros; first | omega | (simp_all; done) | (simp_all <;> omega)), hK _ ?_⟩
                clear hK K; (repeat (first | refine awp_seq ?_ | refine awp_block ?_ | refine awp_scope ?_ | refine awp_skip ?_ | refine awp_exit ?_ | refine awp_ret ?_ | refine sq_n ?_ | refine sq_r ?_ | refine sq_x ?_ | refine bq_n ?_ | refine bq_r ?_ | refine bq_x ?_ | refine bq_y rfl ?_ | refine pq_n ?_ | refine pq_r ?_ | refine pq_x ?_))
                refine awp_cond (by simp [push_cast] <;> exact rfl) (fun hb => ?_) (fun hb => ?_) <;> ((repeat (first | refine awp_seq ?_ | refine awp_block ?_ | refine awp_scope ?_ | refine awp_skip ?_ | refine awp_exit ?_ | refine awp_ret ?_ | refine sq_n ?_ | refine sq_r ?_ | refine sq_x ?_ | refine bq_n ?_ | refine bq_r ?_ | refine bq_x ?_ | refine bq_y rfl ?_ | refine pq_n ?_ | refine pq_r ?_ | refine pq_x ?_)))
                · simp at hb
                  rw [if_pos hb] at hs
                  refine awp_region cx [] fun K hK => ?_
                  simp [push_cast, Track.row]
                  first | refine hK _ ?_ | refine ⟨(by clear hK; intros; first | omega | (simp_all; done) | (simp_all <;> omega)), hK _ ?_⟩ | refine ⟨(by clear hK; intros; first | omega | (simp_all; done) | (simp_all <;> omega)), (by clear hK; intros; first | omega | (simp_all; done) | (simp_all <;> omega)), hK _ ?_⟩ | refine ⟨(by clear hK; intros; first | omega | (simp_all; done) | (simp_all <;> omega)), (by clear hK; intros; first | omega | (simp_all; done) | (simp_all <;> omega)), (by clear hK; intros; first | omega | (simp_all; done) | (simp_all <;> omega)), hK _ ?_⟩
                  clear hK K; (repeat (first | refine awp_seq ?_ | refine awp_block ?_ | refine awp_scope ?_ | refine awp_skip ?_ | refine awp_exit ?_ | refine awp_ret ?_ | refine sq_n ?_ | refine sq_r ?_ | refine sq_x ?_ | refine bq_n ?_ | refine bq_r ?_ | refine bq_x ?_ | refine bq_y rfl ?_ | refine pq_n ?_ | refine pq_r ?_ | refine pq_x ?_))
                  refine awp_region cx [] fun K hK => ?_
                  simp [push_cast, e1]
                  first | refine hK _ ?_ | refine ⟨(by clear hK; intros; first | omega | (simp_all; done) | (simp_all <;> omega)), hK _ ?_⟩ | refine ⟨(by clear hK; intros; first | omega | (simp_all; done) | (simp_all <;> omega)), (by clear hK; intros; first | omega | (simp_all; done) | (simp_all <;> omega)), hK _ ?_⟩ | refine ⟨(by clear hK; intros; first | omega | (simp_all; done) | (simp_all <;> omega)), (by clear hK; intros; first | omega | (simp_all; done) | (simp_all <;> omega)), (by clear hK; intros; first | omega | (simp_all; done) | (simp_all <;> omega)), hK _ ?_⟩
                  clear hK K; (repeat (first | refine awp_seq ?_ | refine awp_block ?_ | refine awp_scope ?_ | refine awp_skip ?_ | refine awp_exit ?_ | refine awp_ret ?_ | refine sq_n ?_ | refine sq_r ?_ | refine sq_x ?_ | refine bq_n ?_ | refine bq_r ?_ | refine bq_x ?_ | refine bq_y rfl ?_ | refine pq_n ?_ | refine pq_r ?_ | refine pq_x ?_))
                  refine ⟨j + 1, hlt2, by omega, ?_⟩
                  refine weak_of [(0, some 0), (1, some 1), (2, some 2)] rfl (by simp [upT, up, upL, push_cast, hs, Track.row]) (by simp [upH, upR, upL, up, push_cast, hs, Track.row]) (by simp [namesOk, push_cast]) (by simp [olds])
                · simp at hb
                  rw [if_neg (by omega)] at hs
                  refine awp_region cx [] fun K hK => ?_
                  simp [push_cast, e1]
                  first | refine hK _ ?_ | refine ⟨(by clear hK; intros; first | omega | (simp_all; done) | (simp_all <;> omega)), hK _ ?_⟩ | refine ⟨(by clear hK; intros; first | omega | (simp_all; done) | (simp_all <;> omega)), (by clear hK; intros; first | omega | (simp_all; done) | (simp_all <;> omega)), hK _ ?_⟩ | refine ⟨(by clear hK; intros; first | omega | (simp_all; done) | (simp_all <;> omega)), (by clear hK; intros; first | omega | (simp_all; done) | (simp_all <;> omega)), (by clear hK; intros; first | omega | (simp_all; done) | (simp_all <;> omega)), hK _ ?_⟩
                  clear hK K; (repeat (first | refine awp_seq ?_ | refine awp_block ?_ | refine awp_scope ?_ | refine awp_skip ?_ | refine awp_exit ?_ | refine awp_ret ?_ | refine sq_n ?_ | refine sq_r ?_ | refine sq_x ?_ | refine bq_n ?_ | refine bq_r ?_ | refine bq_x ?_ | refine bq_y rfl ?_ | refine pq_n ?_ | refine pq_r ?_ | refine pq_x ?_))
                  refine ⟨j + 1, hlt2, by omega, ?_⟩
                  refine weak_of [(0, some 0), (1, some 1), (2, some 2)] rfl (by simp [upT, up, upL, push_cast, hs, Track.row]) (by simp [upH, upR, upL, up, push_cast, hs, Track.row]) (by simp [namesOk, push_cast]) (by simp [olds])
              · have hge : j = (cands t).length := by simp at hb; omega
                subst hge
                rw [hend]
                refine awp_region cx [] fun K hK => ?_
                simp [push_cast, e0]
                first | refine hK _ ?_ | refine ⟨(by clear hK; intros; first | omega | (simp_all; done) | (simp_all <;> omega)), hK _ ?_⟩ | refine ⟨(by clear hK; intros; first | omega | (simp_all; done) | (simp_all <;> omega)), (by clear hK; intros; first | omega | (simp_all; done) | (simp_all <;> omega)), hK _ ?_⟩ | refine ⟨(by clear hK; intros; first | omega | (simp_all; done) | (simp_all <;> omega)), (by clear hK; intros; first | omega | (simp_all; done) | (simp_all <;> omega)), (by clear hK; intros; first | omega | (simp_all; done) | (simp_all <;> omega)), hK _ ?_⟩
                clear hK K; (repeat (first | refine awp_seq ?_ | refine awp_block ?_ | refine awp_scope ?_ | refine awp_skip ?_ | refine awp_exit ?_ | refine awp_ret ?_ | refine sq_n ?_ | refine sq_r ?_ | refine sq_x ?_ | refine bq_n ?_ | refine bq_r ?_ | refine bq_x ?_ | refine bq_y rfl ?_ | refine pq_n ?_ | refine pq_r ?_ | refine pq_x ?_))
                refine ⟨i + 1, hlt, by omega, ?_⟩
                refine weak_of [(0, some 0), (1, some 1), (2, some 2)] rfl (by simp [upT, up, upL, push_cast]) (by simp [upH, upR, upL, up, push_cast]) (by simp [namesOk, push_cast]) (by simp [olds])
          · have hge : i = L.length := by simp at hb; omega
            subst hge
            obtain ⟨_, _, _, hbd'⟩ := pk_bd f' L hf' hL L.length (Nat.le_refl _)
            obtain ⟨p1, p2, t, p3, p4⟩ := hbd' hpos
            have hvt := hL t (List.mem_of_getElem? p3)
            obtain ⟨q1, q2, q3, q4⟩ := best_facts (f := f') hvt
            rw [← p4] at q4
            have hgr : gr L.length f' L = variant t (pk f' L L.length).2.1 :: gr (L.length - 1) (lstC (variant t (pk f' L L.length).2.1)) (L.eraseIdx (pk f' L L.length).1) := by
              obtain ⟨m, hm⟩ : ∃ m, L.length = m + 1 := ⟨L.length - 1, by omega⟩
              rw [hm]
              simp only [gr]
              rw [← hm, p3]
              simp [hm]
            have hrs : rs f' L L.length = (variant t (pk f' L L.length).2.1, ((pk f' L L.length).1 : Int), (pk f' L L.length).2.2) := by
              unfold rs
              rw [if_neg (by omega), p3]; rfl
            have hE : (L.eraseIdx (pk f' L L.length).1).length = L.length - 1 := by rw [List.length_eraseIdx, if_pos p1]
            have hEv := erase_valid (i := (pk f' L L.length).1) hL
            have hEr := erase_rows L (pk f' L L.length).1
            rw [← hE] at hgr
            rw [hrs]
            generalize L.eraseIdx (pk f' L L.length).1 = L' at *
            generalize (pk f' L L.length).1 = at_ at *
            generalize variant t (pk f' L L.length).2.1 = u at *
            obtain ⟨v1, v2, v3, v4, v5, v6, v7⟩ := validT_facts q4
            rw [hgr] at hinv
            have e0 := wrap_i64 (n := (at_ : Int) + 1) (by omega) (by omega)
            have e1 := wrap_i64 (n := (u.cells.length : Int) - 1) (by omega) (by omega)
            have e2 : ((u.cells.length : Int) - 1).toNat = u.cells.length - 1 := by omega
            have e3 : (0 : Int) ≤ (u.cells.length : Int) - 1 := by omega
            have h15 : (X.length + 1) * 40 ≤ 140737488355328 := by omega
            have h3 : (0 : Int) ≤ (at_ : Int) + 1 := by omega
            have h4 : (at_ : Int) + 1 ≤ L.length := by omega
            have h5 : ((at_ : Int) + 1).toNat = at_ + 1 := by omega
            have h6 : (at_ : Int) ≤ L.length := by omega
            have h8 : min at_ L.length = at_ := by omega
            have h9 : at_ + (L.length - (at_ + 1)) = L'.length := by omega
            have h10 : L'.length * 40 ≤ 140737488355328 := by omega
            have h11 : at_ * 40 ≤ 140737488355328 := by omega
            refine awp_region cx [] fun K hK => ?_
            simp [push_cast, h15, Track.row]
            first | refine hK _ ?_ | refine ⟨(by clear hK; intros; first | omega | (simp_all; done) | (simp_all <;> omega)), hK _ ?_⟩ | refine ⟨(by clear hK; intros; first | omega | (simp_all; done) | (simp_all <;> omega)), (by clear hK; intros; first | omega | (simp_all; done) | (simp_all <;> omega)), hK _ ?_⟩ | refine ⟨(by clear hK; intros; first | omega | (simp_all; done) | (simp_all <;> omega)), (by clear hK; intros; first | omega | (simp_all; done) | (simp_all <;> omega)), (by clear hK; intros; first | omega | (simp_all; done) | (simp_all <;> omega)), hK _ ?_⟩
            clear hK K; (repeat (first | refine awp_seq ?_ | refine awp_block ?_ | refine awp_scope ?_ | refine awp_skip ?_ | refine awp_exit ?_ | refine awp_ret ?_ | refine sq_n ?_ | refine sq_r ?_ | refine sq_x ?_ | refine bq_n ?_ | refine bq_r ?_ | refine bq_x ?_ | refine bq_y rfl ?_ | refine pq_n ?_ | refine pq_r ?_ | refine pq_x ?_))
            refine awp_region cx [] fun K hK => ?_
            simp [push_cast, v4, e1, e2, e3]
            first | refine hK _ ?_ | refine ⟨(by clear hK; intros; first | omega | (simp_all; done) | (simp_all <;> omega)), hK _ ?_⟩ | refine ⟨(by clear hK; intros; first | omega | (simp_all; done) | (simp_all <;> omega)), (by clear hK; intros; first | omega | (simp_all; done) | (simp_all <;> omega)), hK _ ?_⟩ | refine ⟨(by clear hK; intros; first | omega | (simp_all; done) | (simp_all <;> omega)), (by clear hK; intros; first | omega | (simp_all; done) | (simp_all <;> omega)), (by clear hK; intros; first | omega | (simp_all; done) | (simp_all <;> omega)), hK _ ?_⟩
            clear hK K; (repeat (first | refine awp_seq ?_ | refine awp_block ?_ | refine awp_scope ?_ | refine awp_skip ?_ | refine awp_exit ?_ | refine awp_ret ?_ | refine sq_n ?_ | refine sq_r ?_ | refine sq_x ?_ | refine bq_n ?_ | refine bq_r ?_ | refine bq_x ?_ | refine bq_y rfl ?_ | refine pq_n ?_ | refine pq_r ?_ | refine pq_x ?_))
            refine awp_region_draw cx mixed [] fun K hK => ?_
            simp [push_cast, e0, h3, h4, h5, h6, h8, h9, h10, h11, Track.row_len]
            refine ⟨fun r h => row3 (List.mem_of_mem_take h), fun r h => row3 (List.mem_of_mem_drop h), hK _ _ (by kernel_rfl) ?_⟩; clear hK K; (repeat (first | refine awp_seq ?_ | refine awp_block ?_ | refine awp_scope ?_ | refine awp_skip ?_ | refine awp_exit ?_ | refine awp_ret ?_ | refine sq_n ?_ | refine sq_r ?_ | refine sq_x ?_ | refine bq_n ?_ | refine bq_r ?_ | refine bq_x ?_ | refine bq_y rfl ?_ | refine pq_n ?_ | refine pq_r ?_ | refine pq_x ?_))
            refine ⟨(lstC u, L', X ++ [u]), ⟨v7, hEv, by simp; omega, by simpa using hinv⟩, by simp; omega, ?_⟩
            have hlm : List.take L'.length (List.take at_ (List.map Track.row L) ++ List.drop (at_ + 1) (List.map Track.row L)) = List.take at_ (List.map Track.row L) ++ List.drop (at_ + 1) (List.map Track.row L) := by
              rw [← hEr]; exact List.take_of_length_le (by simp)
            refine Weak.trans (weak_freeze 27 (L'.map Track.row) rfl (by simp [push_cast, hEr, List.take_take, Nat.min_self, h8, h9, hlm])) ?_
            simp [push_cast, St.fz, fzT, fzH, fzO, fz, fzL, fzR, fzR_dr, fzR_app, fzR_set, fzL_map, hEr, List.take_take, Nat.min_self, h8, h9, hlm]
            refine weak_of [(0, some 0), (1, some 7)] rfl (by simp [upT, up, upL, push_cast, Track.row, hlm, hEr, h8, h9]) (by simp [upH, upR, upL, up, push_cast, Track.row, hlm, hEr, h8, h9]) (by simp [namesOk, push_cast]) (by simp [olds])
      · have hz : L = [] := by
          cases L with
          | nil => rfl
          | cons a r => simp at hb
        subst hz
        simp [gr] at hinv
        subst hinv
        refine awp_region cx [] fun K hK => ?_
        simp [push_cast]
        first | refine hK _ ?_ | refine ⟨(by clear hK; intros; first | omega | (simp_all; done) | (simp_all <;> omega)), hK _ ?_⟩ | refine ⟨(by clear hK; intros; first | omega | (simp_all; done) | (simp_all <;> omega)), (by clear hK; intros; first | omega | (simp_all; done) | (simp_all <;> omega)), hK _ ?_⟩ | refine ⟨(by clear hK; intros; first | omega | (simp_all; done) | (simp_all <;> omega)), (by clear hK; intros; first | omega | (simp_all; done) | (simp_all <;> omega)), (by clear hK; intros; first | omega | (simp_all; done) | (simp_all <;> omega)), hK _ ?_⟩
        clear hK K; (repeat (first | refine awp_seq ?_ | refine awp_block ?_ | refine awp_scope ?_ | refine awp_skip ?_ | refine awp_exit ?_ | refine awp_ret ?_ | refine sq_n ?_ | refine sq_r ?_ | refine sq_x ?_ | refine bq_n ?_ | refine bq_r ?_ | refine bq_x ?_ | refine bq_y rfl ?_ | refine pq_n ?_ | refine pq_r ?_ | refine pq_x ?_))
        simp [push_cast]
end Go.Proofs.Ytdoedfheagkloaa
