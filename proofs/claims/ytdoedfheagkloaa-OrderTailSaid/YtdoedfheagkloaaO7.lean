/-
  The walks of this seat's functions and the plain laws behind them: part O7.
-/
import Derived.Test.YtdoedfheagkloaaP1
set_option linter.unusedVariables false
set_option linter.unusedSimpArgs false
namespace Go.Proofs.Ytdoedfheagkloaa
open Go.Abs

/-- The nearest track: its place, its variant, its distance. -/
def pk (f : Cell) (L : List Track) : Nat → Nat × Nat × Int
  | 0 => (0, 0, -1)
  | i + 1 => match L[i]? with
    | some t => if (pk f L i).2.2 < 0 ∨ (best f t).2 < (pk f L i).2.2 then (i, (best f t).1, (best f t).2) else pk f L i
    | none => pk f L i
def gr : Nat → Cell → List Track → List Track
  | 0, _, _ => []
  | n + 1, f, L => match L[(pk f L L.length).1]? with
    | some t => variant t (pk f L L.length).2.1 :: gr n (lstC (variant t (pk f L L.length).2.1)) (L.eraseIdx (pk f L L.length).1)
    | none => []
def greedy (f : Cell) (l : List Track) : List Track := if onG f then gr (l.filter validT).length f (l.filter validT) else []

theorem pk_bd (f : Cell) (L : List Track) (hf : onG f = true) (hL : ∀ t ∈ L, validT t = true) : ∀ i, i ≤ L.length → (pk f L i).1 ≤ i ∧ -1 ≤ (pk f L i).2.2 ∧ (pk f L i).2.2 ≤ 16384 ∧ (0 < i → (pk f L i).1 < i ∧ 0 ≤ (pk f L i).2.2 ∧ ∃ t, L[(pk f L i).1]? = some t ∧ (pk f L i).2 = best f t) := by
  intro i
  induction i with
  | zero => intro _; simp [pk]
  | succ i ih =>
    intro hi
    obtain ⟨t, ht⟩ : ∃ t, L[i]? = some t := getq (by omega)
    have hv := hL t (List.mem_of_getElem? ht)
    obtain ⟨b1, b2, b3, b4⟩ := best_facts (f := f) hv
    have hd := dist_bd hf (validT_facts b4).2.2.2.2.2.1
    obtain ⟨i1, i2, i3, i4⟩ := ih (by omega)
    simp only [pk, ht]
    split
    · rename_i hc
      simp only
      exact ⟨by omega, by omega, by omega, fun _ => ⟨by omega, by omega, t, ht, rfl⟩⟩
    · rename_i hc
      have h0 : 0 < i := by
        apply Nat.pos_of_ne_zero
        intro h0
        subst h0
        exact hc (.inl (by simp [pk]))
      obtain ⟨j1, j2, j3⟩ := i4 h0
      exact ⟨by omega, i2, i3, fun _ => ⟨by omega, j2, j3⟩⟩

theorem erase_valid {L : List Track} {i : Nat} (h : ∀ t ∈ L, validT t = true) : ∀ t ∈ L.eraseIdx i, validT t = true := fun t ht => h t (List.mem_of_mem_eraseIdx ht)

theorem erase_rows (L : List Track) (i : Nat) : (L.eraseIdx i).map Track.row = List.take i (L.map Track.row) ++ List.drop (i + 1) (L.map Track.row) := by
  rw [List.eraseIdx_eq_take_drop_succ]; simp

theorem greedy_ok (f : Cell) (l : List Track) (hc : ∀ t ∈ l, t.cells.length ≤ 65536) (hl : l.length ≤ 1000) : PC Try.prog 17 [.agg f.row, encTracks l] (.p (encTracks (greedy f l))) := by
  have c0 := onGrid_ok f
  have c1 := vlistP_ok l hc hl
  have hLv := filter_valid l
  have hLl : (l.filter validT).length ≤ 1000 := Nat.le_trans (List.length_filter_le _ _) hl
  have hg : greedy f l = if onG f then gr (l.filter validT).length f (l.filter validT) else [] := rfl
  generalize l.filter validT = L0 at *
  refine pc_of_awp cx (fn := Try.f17) (c := _) Try.func17 rfl rfl (Nat.le_of_ble_eq_true rfl) ?_
  rw [Try.ntmps17]; (repeat (first | refine awp_seq ?_ | refine awp_block ?_ | refine awp_scope ?_ | refine awp_skip ?_ | refine awp_exit ?_ | refine awp_ret ?_ | refine sq_n ?_ | refine sq_r ?_ | refine sq_x ?_ | refine bq_n ?_ | refine bq_r ?_ | refine bq_x ?_ | refine bq_y rfl ?_ | refine pq_n ?_ | refine pq_r ?_ | refine pq_x ?_))
  refine awp_region cx [] fun K hK => ?_
  simp [push_cast]
  first | refine hK _ ?_ | refine ⟨(by clear hK; intros; first | omega | (simp_all; done) | (simp_all <;> omega)), hK _ ?_⟩ | refine ⟨(by clear hK; intros; first | omega | (simp_all; done) | (simp_all <;> omega)), (by clear hK; intros; first | omega | (simp_all; done) | (simp_all <;> omega)), hK _ ?_⟩ | refine ⟨(by clear hK; intros; first | omega | (simp_all; done) | (simp_all <;> omega)), (by clear hK; intros; first | omega | (simp_all; done) | (simp_all <;> omega)), (by clear hK; intros; first | omega | (simp_all; done) | (simp_all <;> omega)), hK _ ?_⟩
  clear hK K; (repeat (first | refine awp_seq ?_ | refine awp_block ?_ | refine awp_scope ?_ | refine awp_skip ?_ | refine awp_exit ?_ | refine awp_ret ?_ | refine sq_n ?_ | refine sq_r ?_ | refine sq_x ?_ | refine bq_n ?_ | refine bq_r ?_ | refine bq_x ?_ | refine bq_y rfl ?_ | refine pq_n ?_ | refine pq_r ?_ | refine pq_x ?_))
  generalize hv : onG f = v at c0
  rw [hv] at hg
  refine awp_region cx [(1, .p (.bool v))] fun K hK => ?_
  simp [push_cast, c0]
  first | refine hK _ ?_ | refine ⟨(by clear hK; intros; first | omega | (simp_all; done) | (simp_all <;> omega)), hK _ ?_⟩ | refine ⟨(by clear hK; intros; first | omega | (simp_all; done) | (simp_all <;> omega)), (by clear hK; intros; first | omega | (simp_all; done) | (simp_all <;> omega)), hK _ ?_⟩ | refine ⟨(by clear hK; intros; first | omega | (simp_all; done) | (simp_all <;> omega)), (by clear hK; intros; first | omega | (simp_all; done) | (simp_all <;> omega)), (by clear hK; intros; first | omega | (simp_all; done) | (simp_all <;> omega)), hK _ ?_⟩
  clear hK K; (repeat (first | refine awp_seq ?_ | refine awp_block ?_ | refine awp_scope ?_ | refine awp_skip ?_ | refine awp_exit ?_ | refine awp_ret ?_ | refine sq_n ?_ | refine sq_r ?_ | refine sq_x ?_ | refine bq_n ?_ | refine bq_r ?_ | refine bq_x ?_ | refine bq_y rfl ?_ | refine pq_n ?_ | refine pq_r ?_ | refine pq_x ?_))
  refine awp_cond (b := !v) (by simp [push_cast]) (fun hb => ?_) (fun hb => ?_) <;> ((repeat (first | refine awp_seq ?_ | refine awp_block ?_ | refine awp_scope ?_ | refine awp_skip ?_ | refine awp_exit ?_ | refine awp_ret ?_ | refine sq_n ?_ | refine sq_r ?_ | refine sq_x ?_ | refine bq_n ?_ | refine bq_r ?_ | refine bq_x ?_ | refine bq_y rfl ?_ | refine pq_n ?_ | refine pq_r ?_ | refine pq_x ?_)))
  · simp at hb
    rw [hb] at hg
    rw [hg]
    refine awp_region cx [] fun K hK => ?_
    simp [push_cast]
    first | refine hK _ ?_ | refine ⟨(by clear hK; intros; first | omega | (simp_all; done) | (simp_all <;> omega)), hK _ ?_⟩ | refine ⟨(by clear hK; intros; first | omega | (simp_all; done) | (simp_all <;> omega)), (by clear hK; intros; first | omega | (simp_all; done) | (simp_all <;> omega)), hK _ ?_⟩ | refine ⟨(by clear hK; intros; first | omega | (simp_all; done) | (simp_all <;> omega)), (by clear hK; intros; first | omega | (simp_all; done) | (simp_all <;> omega)), (by clear hK; intros; first | omega | (simp_all; done) | (simp_all <;> omega)), hK _ ?_⟩
    clear hK K; (repeat (first | refine awp_seq ?_ | refine awp_block ?_ | refine awp_scope ?_ | refine awp_skip ?_ | refine awp_exit ?_ | refine awp_ret ?_ | refine sq_n ?_ | refine sq_r ?_ | refine sq_x ?_ | refine bq_n ?_ | refine bq_r ?_ | refine bq_x ?_ | refine bq_y rfl ?_ | refine pq_n ?_ | refine pq_r ?_ | refine pq_x ?_))
    simp [push_cast]
  · simp at hb
    rw [hb] at hg hv
    rw [hg, if_pos rfl]
    clear hg
    generalize hG : gr L0.length f L0 = G
    refine awp_region cx [(1, .o 36 3 (L0.map Track.row))] fun K hK => ?_
    simp [push_cast, c1]
    first | refine hK _ ?_ | refine ⟨(by clear hK; intros; first | omega | (simp_all; done) | (simp_all <;> omega)), hK _ ?_⟩ | refine ⟨(by clear hK; intros; first | omega | (simp_all; done) | (simp_all <;> omega)), (by clear hK; intros; first | omega | (simp_all; done) | (simp_all <;> omega)), hK _ ?_⟩ | refine ⟨(by clear hK; intros; first | omega | (simp_all; done) | (simp_all <;> omega)), (by clear hK; intros; first | omega | (simp_all; done) | (simp_all <;> omega)), (by clear hK; intros; first | omega | (simp_all; done) | (simp_all <;> omega)), hK _ ?_⟩
    clear hK K; (repeat (first | refine awp_seq ?_ | refine awp_block ?_ | refine awp_scope ?_ | refine awp_skip ?_ | refine awp_exit ?_ | refine awp_ret ?_ | refine sq_n ?_ | refine sq_r ?_ | refine sq_x ?_ | refine bq_n ?_ | refine bq_r ?_ | refine bq_x ?_ | refine bq_y rfl ?_ | refine pq_n ?_ | refine pq_r ?_ | refine pq_x ?_))
    refine awp_region cx [] fun K hK => ?_
    simp [push_cast]
    first | refine hK _ ?_ | refine ⟨(by clear hK; intros; first | omega | (simp_all; done) | (simp_all <;> omega)), hK _ ?_⟩ | refine ⟨(by clear hK; intros; first | omega | (simp_all; done) | (simp_all <;> omega)), (by clear hK; intros; first | omega | (simp_all; done) | (simp_all <;> omega)), hK _ ?_⟩ | refine ⟨(by clear hK; intros; first | omega | (simp_all; done) | (simp_all <;> omega)), (by clear hK; intros; first | omega | (simp_all; done) | (simp_all <;> omega)), (by clear hK; intros; first | omega | (simp_all; done) | (simp_all <;> omega)), hK _ ?_⟩
    clear hK K; (repeat (first | refine awp_seq ?_ | refine awp_block ?_ | refine awp_scope ?_ | refine awp_skip ?_ | refine awp_exit ?_ | refine awp_ret ?_ | refine sq_n ?_ | refine sq_r ?_ | refine sq_x ?_ | refine bq_n ?_ | refine bq_r ?_ | refine bq_x ?_ | refine bq_y rfl ?_ | refine pq_n ?_ | refine pq_r ?_ | refine pq_x ?_))
    refine awp_loop (β := Cell × List Track × List Track) (fun b => ⟨69, [(2, .ptr 0 0 0), (5, .hs 1 0 b.2.1.length), (6, .hs 2 0 b.2.2.length)], [(0, some ⟨23, 2, [b.1.row.map .d]⟩), (1, some ⟨36, 3, dr (b.2.1.map Track.row)⟩), (2, some ⟨36, 3, dr (b.2.2.map Track.row)⟩)], 3⟩)
      (fun b => onG b.1 = true ∧ (∀ t ∈ b.2.1, validT t = true) ∧ b.2.1.length + b.2.2.length ≤ 1000 ∧ b.2.2 ++ gr b.2.1.length b.1 b.2.1 = G) (fun b => b.2.1.length) (f, L0, []) ?_ ⟨hv, hLv, by simpa using hLl, by simpa using hG⟩ ?_
    · refine weak_of [(0, some 0), (1, some 6), (2, none)] rfl (by simp [upT, up, upL, push_cast]) (by simp [upH, upR, upL, up, push_cast]) (by simp [namesOk, push_cast]) (by simp [olds])
    · rintro ⟨f', L, X⟩ ⟨hf', hL, hlen, hinv⟩
      simp only at hf' hL hlen hinv
      (repeat (first | refine awp_seq ?_ | refine awp_block ?_ | refine awp_scope ?_ | refine awp_skip ?_ | refine awp_exit ?_ | refine awp_ret ?_ | refine sq_n ?_ | refine sq_r ?_ | refine sq_x ?_ | refine bq_n ?_ | refine bq_r ?_ | refine bq_x ?_ | refine bq_y rfl ?_ | refine pq_n ?_ | refine pq_r ?_ | refine pq_x ?_))
      refine awp_region cx [] fun K hK => ?_
      simp [push_cast]
      first | refine hK _ ?_ | refine ⟨(by clear hK; intros; first | omega | (simp_all; done) | (simp_all <;> omega)), hK _ ?_⟩ | refine ⟨(by clear hK; intros; first | omega | (simp_all; done) | (simp_all <;> omega)), (by clear hK; intros; first | omega | (simp_all; done) | (simp_all <;> omega)), hK _ ?_⟩ | refine ⟨(by clear hK; intros; first | omega | (simp_all; done) | (simp_all <;> omega)), (by clear hK; intros; first | omega | (simp_all; done) | (simp_all <;> omega)), (by clear hK; intros; first | omega | (simp_all; done) | (simp_all <;> omega)), hK _ ?_⟩
      clear hK K; (repeat (first | refine awp_seq ?_ | refine awp_block ?_ | refine awp_scope ?_ | refine awp_skip ?_ | refine awp_exit ?_ | refine awp_ret ?_ | refine sq_n ?_ | refine sq_r ?_ | refine sq_x ?_ | refine bq_n ?_ | refine bq_r ?_ | refine bq_x ?_ | refine bq_y rfl ?_ | refine pq_n ?_ | refine pq_r ?_ | refine pq_x ?_))
      refine awp_cond (b := decide ((0 : Int) < L.length)) (by simp [push_cast]) (fun hb => ?_) (fun hb => ?_) <;> ((repeat (first | refine awp_seq ?_ | refine awp_block ?_ | refine awp_scope ?_ | refine awp_skip ?_ | refine awp_exit ?_ | refine awp_ret ?_ | refine sq_n ?_ | refine sq_r ?_ | refine sq_x ?_ | refine bq_n ?_ | refine bq_r ?_ | refine bq_x ?_ | refine bq_y rfl ?_ | refine pq_n ?_ | refine pq_r ?_ | refine pq_x ?_)))
      · have hpos : 0 < L.length := by simpa using hb
        refine awp_region cx [] fun K hK => ?_
        simp [push_cast]
        first | refine hK _ ?_ | refine ⟨(by clear hK; intros; first | omega | (simp_all; done) | (simp_all <;> omega)), hK _ ?_⟩ | refine ⟨(by clear hK; intros; first | omega | (simp_all; done) | (simp_all <;> omega)), (by clear hK; intros; first | omega | (simp_all; done) | (simp_all <;> omega)), hK _ ?_⟩ | refine ⟨(by clear hK; intros; first | omega | (simp_all; done) | (simp_all <;> omega)), (by clear hK; intros; first | omega | (simp_all; done) | (simp_all <;> omega)), (by clear hK; intros; first | omega | (simp_all; done) | (simp_all <;> omega)), hK _ ?_⟩
        clear hK K; (repeat (first | refine awp_seq ?_ | refine awp_block ?_ | refine awp_scope ?_ | refine awp_skip ?_ | refine awp_exit ?_ | refine awp_ret ?_ | refine sq_n ?_ | refine sq_r ?_ | refine sq_x ?_ | refine bq_n ?_ | refine bq_r ?_ | refine bq_x ?_ | refine bq_y rfl ?_ | refine pq_n ?_ | refine pq_r ?_ | refine pq_x ?_))
        refine awp_region cx [] fun K hK => ?_
        simp [push_cast]
        first | refine hK _ ?_ | refine ⟨(by clear hK; intros; first | omega | (simp_all; done) | (simp_all <;> omega)), hK _ ?_⟩ | refine ⟨(by clear hK; intros; first | omega | (simp_all; done) | (simp_all <;> omega)), (by clear hK; intros; first | omega | (simp_all; done) | (simp_all <;> omega)), hK _ ?_⟩ | refine ⟨(by clear hK; intros; first | omega | (simp_all; done) | (simp_all <;> omega)), (by clear hK; intros; first | omega | (simp_all; done) | (simp_all <;> omega)), (by clear hK; intros; first | omega | (simp_all; done) | (simp_all <;> omega)), hK _ ?_⟩
        clear hK K; (repeat (first | refine awp_seq ?_ | refine awp_block ?_ | refine awp_scope ?_ | refine awp_skip ?_ | refine awp_exit ?_ | refine awp_ret ?_ | refine sq_n ?_ | refine sq_r ?_ | refine sq_x ?_ | refine bq_n ?_ | refine bq_r ?_ | refine bq_x ?_ | refine bq_y rfl ?_ | refine pq_n ?_ | refine pq_r ?_ | refine pq_x ?_))
        refine awp_loop (β := Nat) (fun i => ⟨69, [(2, .ptr 0 0 0), (5, .hs 1 0 L.length), (6, .hs 2 0 X.length), (7, .d (.int .i64 (pk f' L i).1)), (8, .d (.int .i64 (pk f' L i).2.1)), (9, .d (.int .i64 (pk f' L i).2.2)), (23, .hs 1 0 L.length), (24, .d (.int .i64 L.length)), (25, .d (.int .i64 i))], [(0, some ⟨23, 2, [f'.row.map .d]⟩), (1, some ⟨36, 3, dr (L.map Track.row)⟩), (2, some ⟨36, 3, dr (X.map Track.row)⟩)], 3⟩) (fun i => i ≤ L.length) (fun i => L.length - i) 0 ?_ (Nat.zero_le _) ?_
        · refine weak_of [(0, some 0), (1, some 1), (2, some 2)] rfl (by simp [upT, up, upL, push_cast, pk]) (by simp [upH, upR, upL, up, push_cast, pk]) (by simp [namesOk, push_cast]) (by simp [olds])
        · intro i hi
          have hbd := pk_bd f' L hf' hL i hi
          (repeat (first | refine awp_seq ?_ | refine awp_block ?_ | refine awp_scope ?_ | refine awp_skip ?_ | refine awp_exit ?_ | refine awp_ret ?_ | refine sq_n ?_ | refine sq_r ?_ | refine sq_x ?_ | refine bq_n ?_ | refine bq_r ?_ | refine bq_x ?_ | refine bq_y rfl ?_ | refine pq_n ?_ | refine pq_r ?_ | refine pq_x ?_))
          refine awp_region cx [] fun K hK => ?_
          simp [push_cast]
          first | refine hK _ ?_ | refine ⟨(by clear hK; intros; first | omega | (simp_all; done) | (simp_all <;> omega)), hK _ ?_⟩ | refine ⟨(by clear hK; intros; first | omega | (simp_all; done) | (simp_all <;> omega)), (by clear hK; intros; first | omega | (simp_all; done) | (simp_all <;> omega)), hK _ ?_⟩ | refine ⟨(by clear hK; intros; first | omega | (simp_all; done) | (simp_all <;> omega)), (by clear hK; intros; first | omega | (simp_all; done) | (simp_all <;> omega)), (by clear hK; intros; first | omega | (simp_all; done) | (simp_all <;> omega)), hK _ ?_⟩
          clear hK K; (repeat (first | refine awp_seq ?_ | refine awp_block ?_ | refine awp_scope ?_ | refine awp_skip ?_ | refine awp_exit ?_ | refine awp_ret ?_ | refine sq_n ?_ | refine sq_r ?_ | refine sq_x ?_ | refine bq_n ?_ | refine bq_r ?_ | refine bq_x ?_ | refine bq_y rfl ?_ | refine pq_n ?_ | refine pq_r ?_ | refine pq_x ?_))
          refine awp_cond (b := decide ((i : Int) < L.length)) (by simp [push_cast]) (fun hb => ?_) (fun hb => ?_) <;> ((repeat (first | refine awp_seq ?_ | refine awp_block ?_ | refine awp_scope ?_ | refine awp_skip ?_ | refine awp_exit ?_ | refine awp_ret ?_ | refine sq_n ?_ | refine sq_r ?_ | refine sq_x ?_ | refine bq_n ?_ | refine bq_r ?_ | refine bq_x ?_ | refine bq_y rfl ?_ | refine pq_n ?_ | refine pq_r ?_ | refine pq_x ?_)))
          · have hlt : i < L.length := by simpa using hb
            obtain ⟨t, hx⟩ := getq hlt
            have hvt := hL t (List.mem_of_getElem? hx)
            have c2 := best_ok f' t hf' hvt
            have e0 := wrap_i64 (n := (i : Int) + 1) (by omega) (by omega)
            have hs : pk f' L (i + 1) = if (pk f' L i).2.2 < 0 ∨ (best f' t).2 < (pk f' L i).2.2 then (i, (best f' t).1, (best f' t).2) else pk f' L i := by simp only [pk, hx]
            generalize best f' t = bb at *
            refine awp_region cx [] fun K hK => ?_
            simp [push_cast, hx, Track.row]
            refine ⟨hlt, hK _ ?_⟩; clear hK K; (repeat (first | refine awp_seq ?_ | refine awp_block ?_ | refine awp_scope ?_ | refine awp_skip ?_ | refine awp_exit ?_ | refine awp_ret ?_ | refine sq_n ?_ | refine sq_r ?_ | refine sq_x ?_ | refine bq_n ?_ | refine bq_r ?_ | refine bq_x ?_ | refine bq_y rfl ?_ | refine pq_n ?_ | refine pq_r ?_ | refine pq_x ?_))
            refine awp_region cx [(2, .p (.tup [.int .i64 bb.1, .int .i64 bb.2]))] fun K hK => ?_
            simp [push_cast, c2, Track.row]
            first | refine hK _ ?_ | refine ⟨(by clear hK; intros; first | omega | (simp_all; done) | (simp_all <;> omega)), hK _ ?_⟩ | refine ⟨(by clear hK; intros; first | omega | (simp_all; done) | (simp_all <;> omega)), (by clear hK; intros; first | omega | (simp_all; done) | (simp_all <;> omega)), hK _ ?_⟩ | refine ⟨(by clear hK; intros; first | omega | (simp_all; done) | (simp_all <;> omega)), (by clear hK; intros; first | omega | (simp_all; done) | (simp_all <;> omega)), (by clear hK; intros; first | omega | (simp_all; done) | (simp_all <;> omega)), hK _ ?_⟩
            clear hK K; (repeat (first | refine awp_seq ?_ | refine awp_block ?_ | refine awp_scope ?_ | refine awp_skip ?_ | refine awp_exit ?_ | refine awp_ret ?_ | refine sq_n ?_ | refine sq_r ?_ | refine sq_x ?_ | refine bq_n ?_ | refine bq_r ?_ | refine bq_x ?_ | refine bq_y rfl ?_ | refine pq_n ?_ | refine pq_r ?_ | refine pq_x ?_))
            refine awp_region cx [] fun K hK => ?_
            simp [push_cast]
            first | refine hK _ ?_ | refine ⟨(by clear hK; intros; first | omega | (simp_all; done) | (simp_all <;> omega)), hK _ ?_⟩ | refine ⟨(by clear hK; intros; first | omega | (simp_all; done) | (simp_all <;> omega)), (by clear hK; intros; first | omega | (simp_all; done) | (simp_all <;> omega)), hK _ ?_⟩ | refine ⟨(by clear hK; intros; first | omega | (simp_all; done) | (simp_all <;> omega)), (by clear hK; intros; first | omega | (simp_all; done) | (simp_all <;> omega)), (by clear hK; intros; first | omega | (simp_all; done) | (simp_all <;> omega)), hK _ ?_⟩
            clear hK K; (repeat (first | refine awp_seq ?_ | refine awp_block ?_ | refine awp_scope ?_ | refine awp_skip ?_ | refine awp_exit ?_ | refine awp_ret ?_ | refine sq_n ?_ | refine sq_r ?_ | refine sq_x ?_ | refine bq_n ?_ | refine bq_r ?_ | refine bq_x ?_ | refine bq_y rfl ?_ | refine pq_n ?_ | refine pq_r ?_ | refine pq_x ?_))
            refine awp_cond (by simp [push_cast] <;> exact rfl) (fun hb => ?_) (fun hb => ?_) <;> ((repeat (first | refine awp_seq ?_ | refine awp_block ?_ | refine awp_scope ?_ | refine awp_skip ?_ | refine awp_exit ?_ | refine awp_ret ?_ | refine sq_n ?_ | refine sq_r ?_ | refine sq_x ?_ | refine bq_n ?_ | refine bq_r ?_ | refine bq_x ?_ | refine bq_y rfl ?_ | refine pq_n ?_ | refine pq_r ?_ | refine pq_x ?_)))
            · simp at hb
              rw [if_pos hb] at hs
              refine awp_region cx [] fun K hK => ?_
              simp [push_cast]
              first | refine hK _ ?_ | refine ⟨(by clear hK; intros; first | omega | (simp_all; done) | (simp_all <;> omega)), hK _ ?_⟩ | refine ⟨(by clear hK; intros; first | omega | (simp_all; done) | (simp_all <;> omega)), (by clear hK; intros; first | omega | (simp_all; done) | (simp_all <;> omega)), hK _ ?_⟩ | refine ⟨(by clear hK; intros; first | omega | (simp_all; done) | (simp_all <;> omega)), (by clear hK; intros; first | omega | (simp_all; done) | (simp_all <;> omega)), (by clear hK; intros; first | omega | (simp_all; done) | (simp_all <;> omega)), hK _ ?_⟩
              clear hK K; (repeat (first | refine awp_seq ?_ | refine awp_block ?_ | refine awp_scope ?_ | refine awp_skip ?_ | refine awp_exit ?_ | refine awp_ret ?_ | refine sq_n ?_ | refine sq_r ?_ | refine sq_x ?_ | refine bq_n ?_ | refine bq_r ?_ | refine bq_x ?_ | refine bq_y rfl ?_ | refine pq_n ?_ | refine pq_r ?_ | refine pq_x ?_))
              refine awp_region cx [] fun K hK => ?_
              simp [push_cast, e0]
              first | refine hK _ ?_ | refine ⟨(by clear hK; intros; first | omega | (simp_all; done) | (simp_all <;> omega)), hK _ ?_⟩ | refine ⟨(by clear hK; intros; first | omega | (simp_all; done) | (simp_all <;> omega)), (by clear hK; intros; first | omega | (simp_all; done) | (simp_all <;> omega)), hK _ ?_⟩ | refine ⟨(by clear hK; intros; first | omega | (simp_all; done) | (simp_all <;> omega)), (by clear hK; intros; first | omega | (simp_all; done) | (simp_all <;> omega)), (by clear hK; intros; first | omega | (simp_all; done) | (simp_all <;> omega)), hK _ ?_⟩
              clear hK K; (repeat (first | refine awp_seq ?_ | refine awp_block ?_ | refine awp_scope ?_ | refine awp_skip ?_ | refine awp_exit ?_ | refine awp_ret ?_ | refine sq_n ?_ | refine sq_r ?_ | refine sq_x ?_ | refine bq_n ?_ | refine bq_r ?_ | refine bq_x ?_ | refine bq_y rfl ?_ | refine pq_n ?_ | refine pq_r ?_ | refine pq_x ?_))
              refine ⟨i + 1, hlt, by omega, ?_⟩
              refine weak_of [(0, some 0), (1, some 1), (2, some 2)] rfl (by simp [upT, up, upL, push_cast, hs]) (by simp [upH, upR, upL, up, push_cast, hs]) (by simp [namesOk, push_cast]) (by simp [olds])
            · simp at hb
              rw [if_neg (by omega)] at hs
              refine awp_region cx [] fun K hK => ?_
              simp [push_cast, e0]
              first | refine hK _ ?_ | refine ⟨(by clear hK; intros; first | omega | (simp_all; done) | (simp_all <;> omega)), hK _ ?_⟩ | refine ⟨(by clear hK; intros; first | omega | (simp_all; done) | (simp_all <;> omega)), (by clear hK; intros; first | omega | (simp_all; done) | (simp_all <;> omega)), hK _ ?_⟩ | refine ⟨(by clear hK; intros; first | omega | (simp_all; done) | (simp_all <;> omega)), (by clear hK; intros; first | omega | (simp_all; done) | (simp_all <;> omega)), (by clear hK; intros; first | omega | (simp_all; done) | (simp_all <;> omega)), hK _ ?_⟩
              clear hK K; (repeat (first | refine awp_seq ?_ | refine awp_block ?_ | refine awp_scope ?_ | refine awp_skip ?_ | refine awp_exit ?_ | refine awp_ret ?_ | refine sq_n ?_ | refine sq_r ?_ | refine sq_x ?_ | refine bq_n ?_ | refine bq_r ?_ | refine bq_x ?_ | refine bq_y rfl ?_ | refine pq_n ?_ | refine pq_r ?_ | refine pq_x ?_))
              refine ⟨i + 1, hlt, by omega, ?_⟩
              refine weak_of [(0, some 0), (1, some 1), (2, some 2)] rfl (by simp [upT, up, upL, push_cast, hs]) (by simp [upH, upR, upL, up, push_cast, hs]) (by simp [namesOk, push_cast]) (by simp [olds])
          · have hge : i = L.length := by simp at hb; omega
            subst hge
            obtain ⟨_, _, _, hbd'⟩ := hbd
            obtain ⟨p1, p2, t, p3, p4⟩ := hbd' hpos
            have hvt := hL t (List.mem_of_getElem? p3)
            obtain ⟨q1, q2, q3, q4⟩ := best_facts (f := f') hvt
            rw [← p4] at q4
            have hgr : gr L.length f' L = variant t (pk f' L L.length).2.1 :: gr (L.length - 1) (lstC (variant t (pk f' L L.length).2.1)) (L.eraseIdx (pk f' L L.length).1) := by
              obtain ⟨m, hm⟩ : ∃ m, L.length = m + 1 := ⟨L.length - 1, by omega⟩
              rw [hm]
              simp only [gr]
              rw [← hm, p3]
              simp [hm]
            have hE : (L.eraseIdx (pk f' L L.length).1).length = L.length - 1 := by rw [List.length_eraseIdx, if_pos p1]
            have hEv := erase_valid (i := (pk f' L L.length).1) hL
            have hEr := erase_rows L (pk f' L L.length).1
            have c3 := variant_ok t (pk f' L L.length).2.1 (validT_facts hvt).2.1
            rw [← hE] at hgr
            generalize L.eraseIdx (pk f' L L.length).1 = L' at *
            generalize (pk f' L L.length).1 = at_ at *
            generalize hu : variant t (pk f' L L.length).2.1 = u at *
            obtain ⟨v1, v2, v3, v4, v5, v6, v7⟩ := validT_facts q4
            have c4 := ends_ok u v2 v3 v4
            rw [hgr] at hinv
            have e0 := wrap_i64 (n := (at_ : Int) + 1) (by omega) (by omega)
            refine awp_region cx [(5, .p (.agg u.row))] fun K hK => ?_
            simp [push_cast, p3, c3, Track.row]
            refine ⟨p1, hK _ ?_⟩; clear hK K; (repeat (first | refine awp_seq ?_ | refine awp_block ?_ | refine awp_scope ?_ | refine awp_skip ?_ | refine awp_exit ?_ | refine awp_ret ?_ | refine sq_n ?_ | refine sq_r ?_ | refine sq_x ?_ | refine bq_n ?_ | refine bq_r ?_ | refine bq_x ?_ | refine bq_y rfl ?_ | refine pq_n ?_ | refine pq_r ?_ | refine pq_x ?_))
            by_cases hend : at_ + 1 < L.length
            · have h1 : ((at_ : Int) + 1 = 0) = False := by simp; omega
              have h2 : (at_ : Int) + 1 < L.length := by omega
              have h3 : (0 : Int) ≤ (at_ : Int) + 1 := by omega
              have h4 : (at_ : Int) + 1 ≤ L.length := by omega
              have h5 : ((at_ : Int) + 1).toNat = at_ + 1 := by omega
              have h6 : (at_ : Int) ≤ L.length := by omega
              have h7 : List.take (L.length - (at_ + 1)) (List.drop (at_ + 1) (List.map Track.row L)) = List.drop (at_ + 1) (List.map Track.row L) := List.take_of_length_le (by simp)
              have h8 : min at_ L.length = at_ := by omega
              have h9 : at_ + (L.length - (at_ + 1)) = L'.length := by omega
              have h10 : L'.length * 40 ≤ 140737488355328 := by omega
              have h11 : at_ ≤ L.length := by omega
              have h12 : at_ + 1 + (L.length - (at_ + 1)) ≤ L.length := by omega
              refine awp_region_draw cx mixed [] fun K hK => ?_
              simp [push_cast, e0, h1, h2, h3, h4, h5, h6, h7, h8, h9, h10, h11, h12]
              first | refine hK _ _ (by kernel_rfl) ?_ | refine ⟨(by clear hK; intros; first | omega | (simp_all; done) | (simp_all <;> omega)), hK _ _ (by kernel_rfl) ?_⟩ | refine ⟨(by clear hK; intros; first | omega | (simp_all; done) | (simp_all <;> omega)), (by clear hK; intros; first | omega | (simp_all; done) | (simp_all <;> omega)), hK _ _ (by kernel_rfl) ?_⟩ | refine ⟨(by clear hK; intros; first | omega | (simp_all; done) | (simp_all <;> omega)), (by clear hK; intros; first | omega | (simp_all; done) | (simp_all <;> omega)), (by clear hK; intros; first | omega | (simp_all; done) | (simp_all <;> omega)), hK _ _ (by kernel_rfl) ?_⟩
              clear hK K; (repeat (first | refine awp_seq ?_ | refine awp_block ?_ | refine awp_scope ?_ | refine awp_skip ?_ | refine awp_exit ?_ | refine awp_ret ?_ | refine sq_n ?_ | refine sq_r ?_ | refine sq_x ?_ | refine bq_n ?_ | refine bq_r ?_ | refine bq_x ?_ | refine bq_y rfl ?_ | refine pq_n ?_ | refine pq_r ?_ | refine pq_x ?_))
              have h15 : (X.length + 1) * 40 ≤ 140737488355328 := by omega
              refine awp_region cx [] fun K hK => ?_
              simp [push_cast, Track.row, h15]
              first | refine hK _ ?_ | refine ⟨(by clear hK; intros; first | omega | (simp_all; done) | (simp_all <;> omega)), hK _ ?_⟩ | refine ⟨(by clear hK; intros; first | omega | (simp_all; done) | (simp_all <;> omega)), (by clear hK; intros; first | omega | (simp_all; done) | (simp_all <;> omega)), hK _ ?_⟩ | refine ⟨(by clear hK; intros; first | omega | (simp_all; done) | (simp_all <;> omega)), (by clear hK; intros; first | omega | (simp_all; done) | (simp_all <;> omega)), (by clear hK; intros; first | omega | (simp_all; done) | (simp_all <;> omega)), hK _ ?_⟩
              clear hK K; (repeat (first | refine awp_seq ?_ | refine awp_block ?_ | refine awp_scope ?_ | refine awp_skip ?_ | refine awp_exit ?_ | refine awp_ret ?_ | refine sq_n ?_ | refine sq_r ?_ | refine sq_x ?_ | refine bq_n ?_ | refine bq_r ?_ | refine bq_x ?_ | refine bq_y rfl ?_ | refine pq_n ?_ | refine pq_r ?_ | refine pq_x ?_))
              refine awp_region cx [(1, .p (.agg (ends2 (fstC u) (lstC u))))] fun K hK => ?_
              simp [push_cast, c4, Track.row]
              first | refine hK _ ?_ | refine ⟨(by clear hK; intros; first | omega | (simp_all; done) | (simp_all <;> omega)), hK _ ?_⟩ | refine ⟨(by clear hK; intros; first | omega | (simp_all; done) | (simp_all <;> omega)), (by clear hK; intros; first | omega | (simp_all; done) | (simp_all <;> omega)), hK _ ?_⟩ | refine ⟨(by clear hK; intros; first | omega | (simp_all; done) | (simp_all <;> omega)), (by clear hK; intros; first | omega | (simp_all; done) | (simp_all <;> omega)), (by clear hK; intros; first | omega | (simp_all; done) | (simp_all <;> omega)), hK _ ?_⟩
              clear hK K; (repeat (first | refine awp_seq ?_ | refine awp_block ?_ | refine awp_scope ?_ | refine awp_skip ?_ | refine awp_exit ?_ | refine awp_ret ?_ | refine sq_n ?_ | refine sq_r ?_ | refine sq_x ?_ | refine bq_n ?_ | refine bq_r ?_ | refine bq_x ?_ | refine bq_y rfl ?_ | refine pq_n ?_ | refine pq_r ?_ | refine pq_x ?_))
              refine ⟨(lstC u, L', X ++ [u]), ⟨v7, hEv, by simp; omega, by simpa using hinv⟩, by simp; omega, ?_⟩
              refine weak_of [(0, some 0), (1, some 19), (2, some 24)] rfl (by simp [upT, up, upL, push_cast, hEr, Track.row]) (by simp [upH, upR, upL, up, push_cast, hEr, Track.row]) (by simp [namesOk, push_cast]) (by simp [olds])
            · have h1 : ((at_ : Int) + 1 = 0) = False := by simp; omega
              have h2 : ((at_ : Int) + 1 < L.length) = False := by simp; omega
              have h3 : (0 : Int) ≤ (at_ : Int) + 1 := by omega
              have h4 : (at_ : Int) + 1 ≤ L.length := by omega
              have h5 : ((at_ : Int) + 1).toNat = at_ + 1 := by omega
              have h6 : (at_ : Int) ≤ L.length := by omega
              have h8 : min at_ L.length = at_ := by omega
              have h9 : at_ = L'.length := by omega
              have h10 : L'.length * 40 ≤ 140737488355328 := by omega
              have h11 : L'.length ≤ L.length := by omega
              have h7 : List.drop (at_ + 1) (List.map Track.row L) = [] := List.drop_of_length_le (by simp; omega)
              have h13 : ¬ L.length ≤ L'.length := by omega
              rw [h7, List.append_nil] at hEr
              have h14 : (at_ : Int) = L'.length := by omega
              simp only [h9] at *
              refine awp_region_draw cx mixed [] fun K hK => ?_
              simp [push_cast, e0, h1, h2, h3, h4, h5, h6, h8, h10, h11]
              first | refine hK _ _ (by kernel_rfl) ?_ | refine ⟨(by clear hK; intros; first | omega | (simp_all; done) | (simp_all <;> omega)), hK _ _ (by kernel_rfl) ?_⟩ | refine ⟨(by clear hK; intros; first | omega | (simp_all; done) | (simp_all <;> omega)), (by clear hK; intros; first | omega | (simp_all; done) | (simp_all <;> omega)), hK _ _ (by kernel_rfl) ?_⟩ | refine ⟨(by clear hK; intros; first | omega | (simp_all; done) | (simp_all <;> omega)), (by clear hK; intros; first | omega | (simp_all; done) | (simp_all <;> omega)), (by clear hK; intros; first | omega | (simp_all; done) | (simp_all <;> omega)), hK _ _ (by kernel_rfl) ?_⟩
              clear hK K; (repeat (first | refine awp_seq ?_ | refine awp_block ?_ | refine awp_scope ?_ | refine awp_skip ?_ | refine awp_exit ?_ | refine awp_ret ?_ | refine sq_n ?_ | refine sq_r ?_ | refine sq_x ?_ | refine bq_n ?_ | refine bq_r ?_ | refine bq_x ?_ | refine bq_y rfl ?_ | refine pq_n ?_ | refine pq_r ?_ | refine pq_x ?_))
              have h15 : (X.length + 1) * 40 ≤ 140737488355328 := by omega
              refine awp_region cx [] fun K hK => ?_
              simp [push_cast, Track.row, h15]
              first | refine hK _ ?_ | refine ⟨(by clear hK; intros; first | omega | (simp_all; done) | (simp_all <;> omega)), hK _ ?_⟩ | refine ⟨(by clear hK; intros; first | omega | (simp_all; done) | (simp_all <;> omega)), (by clear hK; intros; first | omega | (simp_all; done) | (simp_all <;> omega)), hK _ ?_⟩ | refine ⟨(by clear hK; intros; first | omega | (simp_all; done) | (simp_all <;> omega)), (by clear hK; intros; first | omega | (simp_all; done) | (simp_all <;> omega)), (by clear hK; intros; first | omega | (simp_all; done) | (simp_all <;> omega)), hK _ ?_⟩
              clear hK K; (repeat (first | refine awp_seq ?_ | refine awp_block ?_ | refine awp_scope ?_ | refine awp_skip ?_ | refine awp_exit ?_ | refine awp_ret ?_ | refine sq_n ?_ | refine sq_r ?_ | refine sq_x ?_ | refine bq_n ?_ | refine bq_r ?_ | refine bq_x ?_ | refine bq_y rfl ?_ | refine pq_n ?_ | refine pq_r ?_ | refine pq_x ?_))
              refine awp_region cx [(1, .p (.agg (ends2 (fstC u) (lstC u))))] fun K hK => ?_
              simp [push_cast, c4, Track.row]
              first | refine hK _ ?_ | refine ⟨(by clear hK; intros; first | omega | (simp_all; done) | (simp_all <;> omega)), hK _ ?_⟩ | refine ⟨(by clear hK; intros; first | omega | (simp_all; done) | (simp_all <;> omega)), (by clear hK; intros; first | omega | (simp_all; done) | (simp_all <;> omega)), hK _ ?_⟩ | refine ⟨(by clear hK; intros; first | omega | (simp_all; done) | (simp_all <;> omega)), (by clear hK; intros; first | omega | (simp_all; done) | (simp_all <;> omega)), (by clear hK; intros; first | omega | (simp_all; done) | (simp_all <;> omega)), hK _ ?_⟩
              clear hK K; (repeat (first | refine awp_seq ?_ | refine awp_block ?_ | refine awp_scope ?_ | refine awp_skip ?_ | refine awp_exit ?_ | refine awp_ret ?_ | refine sq_n ?_ | refine sq_r ?_ | refine sq_x ?_ | refine bq_n ?_ | refine bq_r ?_ | refine bq_x ?_ | refine bq_y rfl ?_ | refine pq_n ?_ | refine pq_r ?_ | refine pq_x ?_))
              refine ⟨(lstC u, L', X ++ [u]), ⟨v7, hEv, by simp; omega, by simpa using hinv⟩, by simp; omega, ?_⟩
              refine weak_of [(0, some 0), (1, some 19), (2, some 24)] rfl (by simp [upT, up, upL, push_cast, hEr, Track.row]) (by simp [upH, upR, upL, up, push_cast, hEr, Track.row]) (by simp [namesOk, push_cast]) (by simp [olds])
      · have hz : L = [] := by
          cases L with
          | nil => rfl
          | cons a r => simp at hb
        subst hz
        simp [gr] at hinv
        subst hinv
        refine awp_region cx [] fun K hK => ?_
        simp [push_cast]
        first | refine hK _ ?_ | refine ⟨(by clear hK; intros; first | omega | (simp_all; done) | (simp_all <;> omega)), hK _ ?_⟩ | refine ⟨(by clear hK; intros; first | omega | (simp_all; done) | (simp_all <;> omega)), (by clear hK; intros; first | omega | (simp_all; done) | (simp_all <;> omega)), hK _ ?_⟩ | refine ⟨(by clear hK; intros; first | omega | (simp_all; done) | (simp_all <;> omega)), (by clear hK; intros; first | omega | (simp_all; done) | (simp_all <;> omega)), (by clear hK; intros; first | omega | (simp_all; done) | (simp_all <;> omega)), hK _ ?_⟩
        clear hK K; (repeat (first | refine awp_seq ?_ | refine awp_block ?_ | refine awp_scope ?_ | refine awp_skip ?_ | refine awp_exit ?_ | refine awp_ret ?_ | refine sq_n ?_ | refine sq_r ?_ | refine sq_x ?_ | refine bq_n ?_ | refine bq_r ?_ | refine bq_x ?_ | refine bq_y rfl ?_ | refine pq_n ?_ | refine pq_r ?_ | refine pq_x ?_))
        simp [push_cast]
end Go.Proofs.Ytdoedfheagkloaa
