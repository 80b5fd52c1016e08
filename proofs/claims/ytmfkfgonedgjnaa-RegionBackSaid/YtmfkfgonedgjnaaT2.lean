/-
  The walks of this seat's functions and the plain laws behind them: part T2.
-/
import Derived.Test.YtmfkfgonedgjnaaT1
set_option linter.unusedVariables false
set_option linter.unusedSimpArgs false
namespace Go.Proofs.Ytmfkfgonedgjnaa
open Go.Abs

/-! The reference: cells in their order. -/
def bef (a b : Cell) : Bool := decide (a.y < b.y) || (decide (a.y = b.y) && decide (a.x < b.x))
theorem bef_leY {a b : Cell} (h : bef a b = false) : leY b a = true := by simp [bef, leY] at *; omega
theorem leY_bef {a b : Cell} (h : bef a b = true) : leY a b = true := by simp [bef, leY] at *; omega
theorem leY_trans {a b c : Cell} (h1 : leY a b = true) (h2 : leY b c = true) : leY a c = true := by simp [leY] at *; omega

theorem inRange_ok (c : Cell) : PC Try.prog 63 [.agg c.row] (.p (.bool (onG c))) := by
  obtain ⟨x, y⟩ := c
  refine pc_of_awp cx (fn := Try.f63) (c := _) Try.func63 rfl rfl (Nat.le_of_ble_eq_true rfl) ?_
  rw [Try.ntmps63]; (repeat (first | refine awp_seq ?_ | refine awp_block ?_ | refine awp_scope ?_ | refine awp_skip ?_ | refine awp_exit ?_ | refine awp_ret ?_ | refine sq_n ?_ | refine sq_r ?_ | refine sq_x ?_ | refine bq_n ?_ | refine bq_r ?_ | refine bq_x ?_ | refine bq_y rfl ?_ | refine pq_n ?_ | refine pq_r ?_ | refine pq_x ?_))
  refine awp_region cx [] fun K hK => ?_
  simp [push_cast]
  repeat (refine And.intro (by clear hK; intros; first | omega | (simp_all; done) | (simp_all <;> omega)) ?_)
  refine hK _ ?_; clear hK K; (repeat (first | refine awp_seq ?_ | refine awp_block ?_ | refine awp_scope ?_ | refine awp_skip ?_ | refine awp_exit ?_ | refine awp_ret ?_ | refine sq_n ?_ | refine sq_r ?_ | refine sq_x ?_ | refine bq_n ?_ | refine bq_r ?_ | refine bq_x ?_ | refine bq_y rfl ?_ | refine pq_n ?_ | refine pq_r ?_ | refine pq_x ?_))
  refine awp_region cx [] fun K hK => ?_
  simp [push_cast]
  repeat (refine And.intro (by clear hK; intros; first | omega | (simp_all; done) | (simp_all <;> omega)) ?_)
  refine hK _ ?_; clear hK K; (repeat (first | refine awp_seq ?_ | refine awp_block ?_ | refine awp_scope ?_ | refine awp_skip ?_ | refine awp_exit ?_ | refine awp_ret ?_ | refine sq_n ?_ | refine sq_r ?_ | refine sq_x ?_ | refine bq_n ?_ | refine bq_r ?_ | refine bq_x ?_ | refine bq_y rfl ?_ | refine pq_n ?_ | refine pq_r ?_ | refine pq_x ?_))
  simp [push_cast, onG, Bool.and_assoc]

theorem before_ok (a b : Cell) : PC Try.prog 91 [.agg a.row, .agg b.row] (.p (.bool (bef a b))) := by
  obtain ⟨x, y⟩ := a
  obtain ⟨x', y'⟩ := b
  refine pc_of_awp cx (fn := Try.f91) (c := _) Try.func91 rfl rfl (Nat.le_of_ble_eq_true rfl) ?_
  rw [Try.ntmps91]; (repeat (first | refine awp_seq ?_ | refine awp_block ?_ | refine awp_scope ?_ | refine awp_skip ?_ | refine awp_exit ?_ | refine awp_ret ?_ | refine sq_n ?_ | refine sq_r ?_ | refine sq_x ?_ | refine bq_n ?_ | refine bq_r ?_ | refine bq_x ?_ | refine bq_y rfl ?_ | refine pq_n ?_ | refine pq_r ?_ | refine pq_x ?_))
  refine awp_region cx [] fun K hK => ?_
  simp [push_cast]
  repeat (refine And.intro (by clear hK; intros; first | omega | (simp_all; done) | (simp_all <;> omega)) ?_)
  refine hK _ ?_; clear hK K; (repeat (first | refine awp_seq ?_ | refine awp_block ?_ | refine awp_scope ?_ | refine awp_skip ?_ | refine awp_exit ?_ | refine awp_ret ?_ | refine sq_n ?_ | refine sq_r ?_ | refine sq_x ?_ | refine bq_n ?_ | refine bq_r ?_ | refine bq_x ?_ | refine bq_y rfl ?_ | refine pq_n ?_ | refine pq_r ?_ | refine pq_x ?_))
  refine awp_region cx [] fun K hK => ?_
  simp [push_cast]
  repeat (refine And.intro (by clear hK; intros; first | omega | (simp_all; done) | (simp_all <;> omega)) ?_)
  refine hK _ ?_; clear hK K; (repeat (first | refine awp_seq ?_ | refine awp_block ?_ | refine awp_scope ?_ | refine awp_skip ?_ | refine awp_exit ?_ | refine awp_ret ?_ | refine sq_n ?_ | refine sq_r ?_ | refine sq_x ?_ | refine bq_n ?_ | refine bq_r ?_ | refine bq_x ?_ | refine bq_y rfl ?_ | refine pq_n ?_ | refine pq_r ?_ | refine pq_x ?_))
  simp [push_cast, bef]
  rfl

/-- Cell c, at place k, is on its way down into the first i cells. -/
def InsAt (l : List Cell) (i : Nat) (Z : List Cell) (k : Nat) : Prop :=
  ∃ (P : List Cell) (c : Cell) (Q T : List Cell), Z = P ++ c :: (Q ++ T) ∧ P.length = k ∧ P.length + Q.length = i ∧ Z.Perm l ∧ ((P ++ Q).Pairwise fun a b => leY a b = true) ∧ ∀ q ∈ Q, leY c q = true
def UpTo (l : List Cell) (i : Nat) (Z : List Cell) : Prop := Z.Perm l ∧ ((Z.take i).Pairwise fun a b => leY a b = true)

theorem insAt_start {l Z : List Cell} {i : Nat} (h : UpTo l i Z) (hi : i < Z.length) : InsAt l i Z i := by
  refine ⟨Z.take i, Z[i], [], Z.drop (i + 1), ?_, by simp; omega, by simp; omega, h.1, by simpa using h.2, by simp⟩
  conv => lhs; rw [← List.take_append_drop i Z, List.drop_eq_getElem_cons hi]
  simp
theorem insAt_end {l Z : List Cell} {i k : Nat} (h : InsAt l i Z k) (hk : k = 0 ∨ ∃ c p, Z[k]? = some c ∧ Z[k - 1]? = some p ∧ bef c p = false) : UpTo l (i + 1) Z := by
  obtain ⟨P, c, Q, T, rfl, hP, hQ, hp, hs, hq⟩ := h
  refine ⟨hp, ?_⟩
  have e : (P ++ c :: (Q ++ T)).take (i + 1) = P ++ c :: Q := by
    rw [show P ++ c :: (Q ++ T) = (P ++ c :: Q) ++ T from by simp, List.take_left' (by simp; omega)]
  rw [e]
  rw [List.pairwise_append] at hs ⊢
  refine ⟨hs.1, List.pairwise_cons.2 ⟨hq, hs.2.1⟩, fun a ha b hb => ?_⟩
  rcases List.mem_cons.1 hb with rfl | hb
  · rcases hk with hk | ⟨c', p, h1, h2, h3⟩
    · rw [hk] at hP
      rw [List.length_eq_zero_iff.1 hP] at ha
      cases ha
    · have hc : c' = b := by
        rw [List.getElem?_append_right (by omega), hP, Nat.sub_self] at h1
        exact (Option.some.inj h1).symm
      subst hc
      rcases List.eq_nil_or_concat P with rfl | ⟨P', p', rfl⟩
      · cases ha
      · rw [List.concat_eq_append] at *
        have hpp : p' = p := by
          rw [List.append_assoc, List.getElem?_append_right (by simp at hP; omega)] at h2
          simp at hP
          rw [show k - 1 - P'.length = 0 from by omega] at h2
          exact Option.some.inj h2
        subst hpp
        have h4 := bef_leY h3
        rcases List.mem_append.1 ha with ha | ha
        · exact leY_trans ((List.pairwise_append.1 hs.1).2.2 a ha p' (by simp)) h4
        · simp at ha; subst ha; exact h4
  · exact hs.2.2 a ha b hb
theorem insAt_next {l Z : List Cell} {i k : Nat} {c p : Cell} (h : InsAt l i Z (k + 1)) (hc : Z[k + 1]? = some c) (hp : Z[k]? = some p) (hb : bef c p = true) : InsAt l i ((Z.set (k + 1) p).set k c) k := by
  obtain ⟨P, c', Q, T, rfl, hP, hQ, hperm, hs, hq⟩ := h
  rcases List.eq_nil_or_concat P with rfl | ⟨P', p', rfl⟩
  · simp at hP
  · rw [List.concat_eq_append] at *
    simp at hP
    have hcc : c' = c := by
      rw [List.getElem?_append_right (by simp; omega)] at hc
      simp [hP] at hc
      exact hc
    have hpp : p' = p := by
      rw [List.append_assoc, List.getElem?_append_right (by omega)] at hp
      simp [hP] at hp
      exact hp
    subst hcc hpp
    have e : (((P' ++ [p']) ++ c' :: (Q ++ T)).set (k + 1) p').set k c' = P' ++ c' :: ((p' :: Q) ++ T) := by
      subst hP
      simp
    rw [e]
    refine ⟨P', c', p' :: Q, T, rfl, hP, by simp at hQ ⊢; omega, ?_, ?_, ?_⟩
    · refine List.Perm.trans ?_ hperm
      simp only [List.append_assoc, List.singleton_append, List.cons_append]
      exact List.Perm.append_left _ (List.Perm.swap _ _ _)
    · simpa using hs
    · intro q hqm
      rcases List.mem_cons.1 hqm with rfl | hqm
      · exact leY_bef hb
      · exact hq q hqm
theorem upTo_end {l Z : List Cell} {i : Nat} (h : UpTo l i Z) (hi : Z.length ≤ i) : Z = sortY l := by
  rw [show i = Z.length + (i - Z.length) from by omega] at h
  have h2 := h.2
  rw [List.take_of_length_le (by omega)] at h2
  exact sortedY_uniq (h.1.trans (sortY_perm l).symm) h2 (sortY_le l)
theorem upTo_start (l : List Cell) : UpTo l 1 l := by
  refine ⟨List.Perm.refl l, ?_⟩
  cases l with
  | nil => simp
  | cons a l => simp

set_option maxHeartbeats 1000000 in
theorem sorted_ok (l : List Cell) (hl : l.length ≤ 1000000) : PC Try.prog 64 [encCells l] (.p (encCells (sortY l))) := by
  have h16 : l.length * 16 ≤ 140737488355328 := by omega
  refine pc_of_awp cx (fn := Try.f64) (c := _) Try.func64 rfl rfl (Nat.le_of_ble_eq_true rfl) ?_
  rw [Try.ntmps64]; (repeat (first | refine awp_seq ?_ | refine awp_block ?_ | refine awp_scope ?_ | refine awp_skip ?_ | refine awp_exit ?_ | refine awp_ret ?_ | refine sq_n ?_ | refine sq_r ?_ | refine sq_x ?_ | refine bq_n ?_ | refine bq_r ?_ | refine bq_x ?_ | refine bq_y rfl ?_ | refine pq_n ?_ | refine pq_r ?_ | refine pq_x ?_))
  refine awp_region cx [] fun K hK => ?_
  simp [push_cast]
  repeat (refine And.intro (by clear hK; intros; first | omega | (simp_all; done) | (simp_all <;> omega)) ?_)
  refine hK _ ?_; clear hK K; (repeat (first | refine awp_seq ?_ | refine awp_block ?_ | refine awp_scope ?_ | refine awp_skip ?_ | refine awp_exit ?_ | refine awp_ret ?_ | refine sq_n ?_ | refine sq_r ?_ | refine sq_x ?_ | refine bq_n ?_ | refine bq_r ?_ | refine bq_x ?_ | refine bq_y rfl ?_ | refine pq_n ?_ | refine pq_r ?_ | refine pq_x ?_))
  refine awp_region cx [] fun K hK => ?_
  simp [push_cast, h16]
  repeat (refine And.intro (by clear hK; intros; first | omega | (simp_all; done) | (simp_all <;> omega)) ?_)
  refine hK _ ?_; clear hK K; (repeat (first | refine awp_seq ?_ | refine awp_block ?_ | refine awp_scope ?_ | refine awp_skip ?_ | refine awp_exit ?_ | refine awp_ret ?_ | refine sq_n ?_ | refine sq_r ?_ | refine sq_x ?_ | refine bq_n ?_ | refine bq_r ?_ | refine bq_x ?_ | refine bq_y rfl ?_ | refine pq_n ?_ | refine pq_r ?_ | refine pq_x ?_))
  refine awp_region cx [] fun K hK => ?_
  simp [push_cast]
  repeat (refine And.intro (by clear hK; intros; first | omega | (simp_all; done) | (simp_all <;> omega)) ?_)
  refine hK _ ?_; clear hK K; (repeat (first | refine awp_seq ?_ | refine awp_block ?_ | refine awp_scope ?_ | refine awp_skip ?_ | refine awp_exit ?_ | refine awp_ret ?_ | refine sq_n ?_ | refine sq_r ?_ | refine sq_x ?_ | refine bq_n ?_ | refine bq_r ?_ | refine bq_x ?_ | refine bq_y rfl ?_ | refine pq_n ?_ | refine pq_r ?_ | refine pq_x ?_))
  refine awp_loop (β := Nat × List Cell) (fun b => ⟨51, [(3, .hs 0 0 b.2.length), (4, .d (.int .i64 b.1))], [(0, some ⟨35, 2, dr (b.2.map Cell.row)⟩)], 1⟩) (fun b => UpTo l b.1 b.2 ∧ 0 < b.1 ∧ b.1 ≤ 1000001) (fun b => l.length - b.1) (1, l) ?_ ⟨upTo_start l, by omega, by omega⟩ ?_
  · refine weak_of [(0, some 3)] rfl (by simp [upT, up, upL, push_cast]) (by simp [upH, upR, upL, up, push_cast]) (by simp [namesOk, push_cast]) (by simp [olds])
  · rintro ⟨i, Z⟩ ⟨hZ, hi, hib⟩
    simp only at hZ hi hib
    have hZl : Z.length = l.length := hZ.1.length_eq
    (repeat (first | refine awp_seq ?_ | refine awp_block ?_ | refine awp_scope ?_ | refine awp_skip ?_ | refine awp_exit ?_ | refine awp_ret ?_ | refine sq_n ?_ | refine sq_r ?_ | refine sq_x ?_ | refine bq_n ?_ | refine bq_r ?_ | refine bq_x ?_ | refine bq_y rfl ?_ | refine pq_n ?_ | refine pq_r ?_ | refine pq_x ?_))
    refine awp_region cx [] fun K hK => ?_
    simp [push_cast]
    repeat (refine And.intro (by clear hK; intros; first | omega | (simp_all; done) | (simp_all <;> omega)) ?_)
    refine hK _ ?_; clear hK K; (repeat (first | refine awp_seq ?_ | refine awp_block ?_ | refine awp_scope ?_ | refine awp_skip ?_ | refine awp_exit ?_ | refine awp_ret ?_ | refine sq_n ?_ | refine sq_r ?_ | refine sq_x ?_ | refine bq_n ?_ | refine bq_r ?_ | refine bq_x ?_ | refine bq_y rfl ?_ | refine pq_n ?_ | refine pq_r ?_ | refine pq_x ?_))
    refine awp_cond (b := decide ((i : Int) < Z.length)) (by simp [push_cast]) (fun hb => ?_) (fun hb => ?_) <;> ((repeat (first | refine awp_seq ?_ | refine awp_block ?_ | refine awp_scope ?_ | refine awp_skip ?_ | refine awp_exit ?_ | refine awp_ret ?_ | refine sq_n ?_ | refine sq_r ?_ | refine sq_x ?_ | refine bq_n ?_ | refine bq_r ?_ | refine bq_x ?_ | refine bq_y rfl ?_ | refine pq_n ?_ | refine pq_r ?_ | refine pq_x ?_)))
    · have hlt : i < Z.length := by simpa using hb
      have e0 := wrap_i64 (n := (i : Int) + 1) (by omega) (by omega)
      refine awp_region cx [] fun K hK => ?_
      simp [push_cast]
      repeat (refine And.intro (by clear hK; intros; first | omega | (simp_all; done) | (simp_all <;> omega)) ?_)
      refine hK _ ?_; clear hK K; (repeat (first | refine awp_seq ?_ | refine awp_block ?_ | refine awp_scope ?_ | refine awp_skip ?_ | refine awp_exit ?_ | refine awp_ret ?_ | refine sq_n ?_ | refine sq_r ?_ | refine sq_x ?_ | refine bq_n ?_ | refine bq_r ?_ | refine bq_x ?_ | refine bq_y rfl ?_ | refine pq_n ?_ | refine pq_r ?_ | refine pq_x ?_))
      refine awp_loop (β := Nat × List Cell) (fun b => ⟨51, [(3, .hs 0 0 b.2.length), (4, .d (.int .i64 i)), (5, .d (.int .i64 b.1))], [(0, some ⟨35, 2, dr (b.2.map Cell.row)⟩)], 1⟩) (fun b => InsAt l i b.2 b.1) (fun b => b.1) (i, Z) ?_ (insAt_start hZ hlt) ?_
      · refine weak_of [(0, some 0)] rfl (by simp [upT, up, upL, push_cast]) (by simp [upH, upR, upL, up, push_cast]) (by simp [namesOk, push_cast]) (by simp [olds])
      · rintro ⟨k, Y⟩ hY
        simp only at hY
        have hYl : Y.length = l.length := by obtain ⟨P, c, Q, T, _, _, _, h, _⟩ := hY; exact h.length_eq
        have hki : k ≤ i := by obtain ⟨P, c, Q, T, _, h1, h2, _⟩ := hY; omega
        (repeat (first | refine awp_seq ?_ | refine awp_block ?_ | refine awp_scope ?_ | refine awp_skip ?_ | refine awp_exit ?_ | refine awp_ret ?_ | refine sq_n ?_ | refine sq_r ?_ | refine sq_x ?_ | refine bq_n ?_ | refine bq_r ?_ | refine bq_x ?_ | refine bq_y rfl ?_ | refine pq_n ?_ | refine pq_r ?_ | refine pq_x ?_))
        obtain ⟨c, hc⟩ : ∃ c, Y[k]? = some c := getq (by omega)
        cases k with
        | zero =>
          refine awp_region_draw cx mixed [(12, .skip)] fun K hK => ?_
          simp [push_cast, hc]
          repeat (refine And.intro (by clear hK; intros; first | omega | (simp_all; done) | (simp_all <;> omega)) ?_)
          refine hK _ _ (by kernel_rfl) ?_; clear hK K; (repeat (first | refine awp_seq ?_ | refine awp_block ?_ | refine awp_scope ?_ | refine awp_skip ?_ | refine awp_exit ?_ | refine awp_ret ?_ | refine sq_n ?_ | refine sq_r ?_ | refine sq_x ?_ | refine bq_n ?_ | refine bq_r ?_ | refine bq_x ?_ | refine bq_y rfl ?_ | refine pq_n ?_ | refine pq_r ?_ | refine pq_x ?_))
          refine awp_cond (b := false) (by simp [push_cast]) (fun hb => ?_) (fun hb => ?_) <;> ((repeat (first | refine awp_seq ?_ | refine awp_block ?_ | refine awp_scope ?_ | refine awp_skip ?_ | refine awp_exit ?_ | refine awp_ret ?_ | refine sq_n ?_ | refine sq_r ?_ | refine sq_x ?_ | refine bq_n ?_ | refine bq_r ?_ | refine bq_x ?_ | refine bq_y rfl ?_ | refine pq_n ?_ | refine pq_r ?_ | refine pq_x ?_)))
          · simp at hb
          · refine awp_region cx [] fun K hK => ?_
            simp [push_cast, e0]
            repeat (refine And.intro (by clear hK; intros; first | omega | (simp_all; done) | (simp_all <;> omega)) ?_)
            refine hK _ ?_; clear hK K; (repeat (first | refine awp_seq ?_ | refine awp_block ?_ | refine awp_scope ?_ | refine awp_skip ?_ | refine awp_exit ?_ | refine awp_ret ?_ | refine sq_n ?_ | refine sq_r ?_ | refine sq_x ?_ | refine bq_n ?_ | refine bq_r ?_ | refine bq_x ?_ | refine bq_y rfl ?_ | refine pq_n ?_ | refine pq_r ?_ | refine pq_x ?_))
            refine ⟨(i + 1, Y), ⟨insAt_end hY (.inl rfl), by simp only; omega, by simp only; omega⟩, by simp only; omega, ?_⟩
            refine weak_of [(0, some 0)] rfl (by simp [upT, up, upL, push_cast]) (by simp [upH, upR, upL, up, push_cast]) (by simp [namesOk, push_cast]) (by simp [olds])
        | succ k =>
          obtain ⟨p, hp⟩ : ∃ c, Y[k]? = some c := getq (by omega)
          have c1 := before_ok c p
          generalize hbf : bef c p = bb at c1
          have e1 := wrap_i64 (n := ((k + 1 : Nat) : Int) - 1) (by omega) (by omega)
          have e2 : (((k + 1 : Nat) : Int) - 1) = k := by omega
          rw [e2] at e1
          have e3 : (((k + 1 : Nat) : Int) - 1).toNat = k := by omega
          have e4 : (0 : Int) < (k : Int) + 1 := by omega
          refine awp_region_draw cx mixed [(12, .p (.bool bb))] fun K hK => ?_
          simp [push_cast, hc, hp, c1, e1, e2, e3, e4]
          repeat (refine And.intro (by clear hK; intros; first | omega | (simp_all; done) | (simp_all <;> omega)) ?_)
          refine hK _ _ (by kernel_rfl) ?_; clear hK K; (repeat (first | refine awp_seq ?_ | refine awp_block ?_ | refine awp_scope ?_ | refine awp_skip ?_ | refine awp_exit ?_ | refine awp_ret ?_ | refine sq_n ?_ | refine sq_r ?_ | refine sq_x ?_ | refine bq_n ?_ | refine bq_r ?_ | refine bq_x ?_ | refine bq_y rfl ?_ | refine pq_n ?_ | refine pq_r ?_ | refine pq_x ?_))
          refine awp_cond (b := bb) (by simp [push_cast]) (fun hb => ?_) (fun hb => ?_) <;> ((repeat (first | refine awp_seq ?_ | refine awp_block ?_ | refine awp_scope ?_ | refine awp_skip ?_ | refine awp_exit ?_ | refine awp_ret ?_ | refine sq_n ?_ | refine sq_r ?_ | refine sq_x ?_ | refine bq_n ?_ | refine bq_r ?_ | refine bq_x ?_ | refine bq_y rfl ?_ | refine pq_n ?_ | refine pq_r ?_ | refine pq_x ?_)))
          · rw [hb] at hbf
            have hnx := insAt_next hY hc hp hbf
            obtain ⟨Y1, hY1⟩ : ∃ Y1, Y1 = Y.set (k + 1) p := ⟨_, rfl⟩
            have hr1 : (dr (Y.map Cell.row)).set (k + 1) [.d (.int .i64 p.x), .d (.int .i64 p.y)] = dr (Y1.map Cell.row) := by rw [hY1]; simp [dr, List.map_set]
            have hk1 : Y1[k]? = some p := by rw [hY1, List.getElem?_set_ne (by omega)]; exact hp
            rw [← hY1] at hnx
            have hl1 : Y1.length = Y.length := by rw [hY1]; simp
            obtain ⟨Y2, hY2⟩ : ∃ Y2, Y2 = Y1.set k c := ⟨_, rfl⟩
            have hr2 : (dr (Y1.map Cell.row)).set k [.d (.int .i64 c.x), .d (.int .i64 c.y)] = dr (Y2.map Cell.row) := by rw [hY2]; simp [dr, List.map_set]
            rw [← hY2] at hnx
            have hl2 : Y2.length = Y.length := by rw [hY2]; simp [hl1]
            clear hY1 hY2
            refine awp_region cx [] fun K hK => ?_
            simp [push_cast, hc]
            repeat (refine And.intro (by clear hK; intros; first | omega | (simp_all; done) | (simp_all <;> omega)) ?_)
            refine hK _ ?_; clear hK K; (repeat (first | refine awp_seq ?_ | refine awp_block ?_ | refine awp_scope ?_ | refine awp_skip ?_ | refine awp_exit ?_ | refine awp_ret ?_ | refine sq_n ?_ | refine sq_r ?_ | refine sq_x ?_ | refine bq_n ?_ | refine bq_r ?_ | refine bq_x ?_ | refine bq_y rfl ?_ | refine pq_n ?_ | refine pq_r ?_ | refine pq_x ?_))
            refine awp_region cx [] fun K hK => ?_
            simp [push_cast, hp, hc, e1, e2, e3, hr1]
            repeat (refine And.intro (by clear hK; intros; first | omega | (simp_all; done) | (simp_all <;> omega)) ?_)
            refine hK _ ?_; clear hK K; (repeat (first | refine awp_seq ?_ | refine awp_block ?_ | refine awp_scope ?_ | refine awp_skip ?_ | refine awp_exit ?_ | refine awp_ret ?_ | refine sq_n ?_ | refine sq_r ?_ | refine sq_x ?_ | refine bq_n ?_ | refine bq_r ?_ | refine bq_x ?_ | refine bq_y rfl ?_ | refine pq_n ?_ | refine pq_r ?_ | refine pq_x ?_))
            rw [← hl1]
            refine awp_region cx [] fun K hK => ?_
            simp [push_cast, e1, e2, hk1, hr2]
            repeat (refine And.intro (by clear hK; intros; first | omega | (simp_all; done) | (simp_all <;> omega)) ?_)
            refine hK _ ?_; clear hK K; (repeat (first | refine awp_seq ?_ | refine awp_block ?_ | refine awp_scope ?_ | refine awp_skip ?_ | refine awp_exit ?_ | refine awp_ret ?_ | refine sq_n ?_ | refine sq_r ?_ | refine sq_x ?_ | refine bq_n ?_ | refine bq_r ?_ | refine bq_x ?_ | refine bq_y rfl ?_ | refine pq_n ?_ | refine pq_r ?_ | refine pq_x ?_))
            rw [hl1, ← hl2]
            refine awp_region cx [] fun K hK => ?_
            simp [push_cast, e1, e2]
            repeat (refine And.intro (by clear hK; intros; first | omega | (simp_all; done) | (simp_all <;> omega)) ?_)
            refine hK _ ?_; clear hK K; (repeat (first | refine awp_seq ?_ | refine awp_block ?_ | refine awp_scope ?_ | refine awp_skip ?_ | refine awp_exit ?_ | refine awp_ret ?_ | refine sq_n ?_ | refine sq_r ?_ | refine sq_x ?_ | refine bq_n ?_ | refine bq_r ?_ | refine bq_x ?_ | refine bq_y rfl ?_ | refine pq_n ?_ | refine pq_r ?_ | refine pq_x ?_))
            refine ⟨(k, Y2), hnx, by simp only; omega, ?_⟩
            refine weak_of [(0, some 0)] rfl (by simp [upT, up, upL, push_cast]) (by simp [upH, upR, upL, up, push_cast]) (by simp [namesOk, push_cast]) (by simp [olds])
          · rw [hb] at hbf
            refine awp_region cx [] fun K hK => ?_
            simp [push_cast, e0]
            repeat (refine And.intro (by clear hK; intros; first | omega | (simp_all; done) | (simp_all <;> omega)) ?_)
            refine hK _ ?_; clear hK K; (repeat (first | refine awp_seq ?_ | refine awp_block ?_ | refine awp_scope ?_ | refine awp_skip ?_ | refine awp_exit ?_ | refine awp_ret ?_ | refine sq_n ?_ | refine sq_r ?_ | refine sq_x ?_ | refine bq_n ?_ | refine bq_r ?_ | refine bq_x ?_ | refine bq_y rfl ?_ | refine pq_n ?_ | refine pq_r ?_ | refine pq_x ?_))
            refine ⟨(i + 1, Y), ⟨insAt_end hY (.inr ⟨c, p, hc, hp, hbf⟩), by simp only; omega, by simp only; omega⟩, by simp only; omega, ?_⟩
            refine weak_of [(0, some 0)] rfl (by simp [upT, up, upL, push_cast]) (by simp [upH, upR, upL, up, push_cast]) (by simp [namesOk, push_cast]) (by simp [olds])
    · have hge : l.length ≤ i := by simp at hb; omega
      have hs := upTo_end hZ (by omega)
      subst hs
      generalize sortY l = Z at *
      refine awp_region cx [] fun K hK => ?_
      simp [push_cast]
      repeat (refine And.intro (by clear hK; intros; first | omega | (simp_all; done) | (simp_all <;> omega)) ?_)
      refine hK _ ?_; clear hK K; (repeat (first | refine awp_seq ?_ | refine awp_block ?_ | refine awp_scope ?_ | refine awp_skip ?_ | refine awp_exit ?_ | refine awp_ret ?_ | refine sq_n ?_ | refine sq_r ?_ | refine sq_x ?_ | refine bq_n ?_ | refine bq_r ?_ | refine bq_x ?_ | refine bq_y rfl ?_ | refine pq_n ?_ | refine pq_r ?_ | refine pq_x ?_))
      have ht : List.take Z.length (Z.map Cell.row) = Z.map Cell.row := List.take_of_length_le (by simp)
      simp [push_cast, ht]
end Go.Proofs.Ytmfkfgonedgjnaa
