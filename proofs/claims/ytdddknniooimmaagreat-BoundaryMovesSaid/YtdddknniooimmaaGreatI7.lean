/-
  Texts of this seat put together: BW5, BD3, BD4, BD5, T1, X3, X6, BW9.
-/
import Derived.Test.YtdddknniooimmaaGreatI5
import Derived.Test.YtdddknniooimmaaGreatI6
set_option linter.unusedVariables false
set_option linter.unusedSimpArgs false
set_option maxRecDepth 100000
namespace Go.Proofs.YtdddknniooimmaaGreat
open Go.Abs Go.Shelf

theorem SA_find {e m : Nat} {A : KL} {q : Nat} {p : D × List (List D)} (h : A[q]? = some p) : ((SA A)[q]?).map (fun r => some (⟨e, m, dr r⟩ : Ob)) = some (some ⟨e, m, dr p.2⟩) := by simp [SA, h]
def eRun (y : Int) (r : Run) : List Crk := (List.range (r.b - r.a).toNat).map fun k : Nat => ⟨⟨r.a + k, y⟩, .e⟩
def wRun (y : Int) (r : Run) : List Crk := (List.range (r.b - r.a).toNat).map fun k : Nat => ⟨⟨r.a + k + 1, y + 1⟩, .w⟩
def vRun (y : Int) (r : Run) : List Crk := [⟨⟨r.b, y⟩, .n⟩, ⟨⟨r.a, y + 1⟩, .s⟩]
def rowCr (R : List Row) (w : Row) : List Crk := (sweep fD w.runs (rowOf R (w.y - 1))).flatMap (eRun w.y) ++ ((sweep fD w.runs (rowOf R (w.y + 1))).flatMap (wRun w.y) ++ w.runs.flatMap (vRun w.y))
def collectL (R : List Row) : List Crk := R.flatMap (rowCr R)
def addAll (A : List (Cell × List Hd)) (l : List Crk) : List (Cell × List Hd) := l.foldl addA A
def Acc (full : List Crk) (A : List (Cell × List Hd)) (rest : List Crk) : Prop := ∃ pre, A = addAll [] pre ∧ full = pre ++ rest
theorem Acc.next {full : List Crk} {A : List (Cell × List Hd)} {c : Crk} {rest : List Crk} (h : Acc full A (c :: rest)) : Acc full (addA A c) rest := by
  obtain ⟨pre, rfl, rfl⟩ := h
  exact ⟨pre ++ [c], by simp [addAll], by simp⟩
theorem putL_lenB {α β : Type} [DecidableEq α] (l : List (α × β)) (a : α) (b : β) : (putL l a b).length ≤ l.length + 1 := by
  unfold putL
  cases posL a l <;> simp
theorem putL_mem {α β : Type} [DecidableEq α] {l : List (α × β)} {a : α} {b : β} {x : α × β} (h : x ∈ putL l a b) : x ∈ l ∨ x = (a, b) := by
  unfold putL at h
  cases hp : posL a l with
  | none => rw [hp] at h; simpa using h
  | some j => rw [hp] at h; exact List.mem_or_eq_of_mem_set h
theorem headsAt_len {A : List (Cell × List Hd)} {n : Nat} (h : ∀ a ∈ A, a.2 ≠ [] ∧ a.2.length ≤ n) (p : Cell) : (headsAt A p).length ≤ n := by
  unfold headsAt
  cases hg : getL A p with
  | none => simp
  | some hs =>
    have hp := posL_getL (a := p) A
    cases hq : posL p A with
    | none => rw [hq] at hp; rw [hp] at hg; cases hg
    | some j =>
      rw [hq] at hp
      obtain ⟨b, h5, h6⟩ := hp
      rw [h6] at hg; cases hg
      exact (h _ (List.mem_of_getElem? h5)).2
theorem addAll_len : ∀ (l : List Crk) (A : List (Cell × List Hd)) (n : Nat), (∀ a ∈ A, a.2 ≠ [] ∧ a.2.length ≤ n) → (addAll A l).length ≤ A.length + l.length ∧ ∀ a ∈ addAll A l, a.2 ≠ [] ∧ a.2.length ≤ n + l.length
  | [], A, n, h => ⟨by simp [addAll], h⟩
  | c :: l, A, n, h => by
    have h1 : ∀ a ∈ addA A c, a.2 ≠ [] ∧ a.2.length ≤ n + 1 := fun a ha => by
      rcases putL_mem ha with ha | rfl
      · have := h a ha; exact ⟨this.1, by omega⟩
      · have := headsAt_len h c.p
        exact ⟨by simp, by simp; omega⟩
    obtain ⟨h2, h3⟩ := addAll_len l (addA A c) (n + 1) h1
    have h4 : (addA A c).length ≤ A.length + 1 := putL_lenB _ _ _
    have e : addAll A (c :: l) = addAll (addA A c) l := rfl
    rw [e]
    simp only [List.length_cons]
    refine ⟨by omega, fun a ha => ?_⟩
    obtain ⟨h5, h6⟩ := h3 a ha
    exact ⟨h5, by omega⟩
theorem addAll_good (l : List Crk) : (addAll [] l).length ≤ l.length ∧ ∀ a ∈ addAll [] l, a.2 ≠ [] ∧ a.2.length ≤ l.length := by
  have := addAll_len l [] 0 (by simp)
  simpa using this
theorem Acc.good {full : List Crk} {A : List (Cell × List Hd)} {rest : List Crk} (h : Acc full A rest) (hf : full.length ≤ 10000000) : A.length ≤ 100000000 ∧ (kl A).length ≤ 100000000 ∧ ∀ a ∈ A, a.2 ≠ [] ∧ a.2.length ≤ 100000000 := by
  obtain ⟨pre, rfl, rfl⟩ := h
  obtain ⟨h1, h2⟩ := addAll_good pre
  simp at hf
  refine ⟨by omega, by rw [kl_length]; omega, fun a ha => ?_⟩
  obtain ⟨h3, h4⟩ := h2 a ha
  exact ⟨h3, by omega⟩
theorem eRun_drop (y : Int) (r : Run) {j : Nat} (hj : j < (r.b - r.a).toNat) : (eRun y r).drop j = ⟨⟨r.a + j, y⟩, .e⟩ :: (eRun y r).drop (j + 1) := drop_get (by simp [eRun, hj])
theorem wRun_drop (y : Int) (r : Run) {j : Nat} (hj : j < (r.b - r.a).toNat) : (wRun y r).drop j = ⟨⟨r.a + j + 1, y + 1⟩, .w⟩ :: (wRun y r).drop (j + 1) := drop_get (by simp [wRun, hj])
theorem eRun_end (y : Int) (r : Run) {j : Nat} (hj : (r.b - r.a).toNat ≤ j) : (eRun y r).drop j = [] := List.drop_eq_nil_iff.2 (by simpa [eRun] using hj)
theorem wRun_end (y : Int) (r : Run) {j : Nat} (hj : (r.b - r.a).toNat ≤ j) : (wRun y r).drop j = [] := List.drop_eq_nil_iff.2 (by simpa [wRun] using hj)

theorem around_ok (R : List Row) (i : Nat) (w : Row) (hv : validR R = true) (hR : smallR R) (hw : R[i]? = some w) : PC Tryz.prog 54 [.agg (regRow R), .int .i64 i] (.p (.tup [encRuns (rowOf R (w.y - 1)), encRuns (rowOf R (w.y + 1))])) := by
  have hl := hR.1
  have hi := (List.getElem?_eq_some_iff.1 hw).1
  have hwb := validR_at hv hw
  have b1 : ∀ p, 0 < i → R[i - 1]? = some p → p.y = w.y - 1 → rowOf R (w.y - 1) = p.runs := fun p h0 hp e => by rw [← e]; exact rowOf_mem hv (List.mem_of_getElem? hp)
  have b2 : (i = 0 ∨ ∃ p, R[i - 1]? = some p ∧ p.y ≠ w.y - 1) → rowOf R (w.y - 1) = [] := fun h => by
    refine rowOf_none fun v hm e => ?_
    obtain ⟨k, hk⟩ := List.mem_iff_getElem?.1 hm
    have pw := rows_pw hv
    have lt : ∀ a b (x y : Row), R[a]? = some x → R[b]? = some y → a < b → x.y < y.y := fun a b x y hx hy hab => by
      obtain ⟨h1, rfl⟩ := List.getElem?_eq_some_iff.1 hx
      obtain ⟨h2, rfl⟩ := List.getElem?_eq_some_iff.1 hy
      exact List.pairwise_iff_getElem.1 pw a b h1 h2 hab
    have hki : k < i := by
      rcases Nat.lt_trichotomy k i with h | h | h
      · exact h
      · subst h; rw [hw] at hk; cases hk; omega
      · have := lt i k w v hw hk h; omega
    rcases h with rfl | ⟨p, hp, hne⟩
    · omega
    · rcases Nat.lt_trichotomy k (i - 1) with h | h | h
      · have h1 := lt k (i - 1) v p hk hp h
        have h2 := lt (i - 1) i p w hp hw (by omega)
        omega
      · subst h; rw [hp] at hk; cases hk; exact hne e
      · omega
  have a1 : ∀ p, R[i + 1]? = some p → p.y = w.y + 1 → rowOf R (w.y + 1) = p.runs := fun p hp e => by rw [← e]; exact rowOf_mem hv (List.mem_of_getElem? hp)
  have a2 : (R.length ≤ i + 1 ∨ ∃ p, R[i + 1]? = some p ∧ p.y ≠ w.y + 1) → rowOf R (w.y + 1) = [] := fun h => by
    refine rowOf_none fun v hm e => ?_
    obtain ⟨k, hk⟩ := List.mem_iff_getElem?.1 hm
    have hkl := (List.getElem?_eq_some_iff.1 hk).1
    have pw := rows_pw hv
    have lt : ∀ a b (x y : Row), R[a]? = some x → R[b]? = some y → a < b → x.y < y.y := fun a b x y hx hy hab => by
      obtain ⟨h1, rfl⟩ := List.getElem?_eq_some_iff.1 hx
      obtain ⟨h2, rfl⟩ := List.getElem?_eq_some_iff.1 hy
      exact List.pairwise_iff_getElem.1 pw a b h1 h2 hab
    have hki : i < k := by
      rcases Nat.lt_trichotomy k i with h | h | h
      · have := lt k i v w hk hw h; omega
      · subst h; rw [hw] at hk; cases hk; omega
      · exact h
    rcases h with h | ⟨p, hp, hne⟩
    · omega
    · rcases Nat.lt_trichotomy k (i + 1) with h | h | h
      · omega
      · subst h; rw [hp] at hk; cases hk; exact hne e
      · have h1 := lt (i + 1) k p v hp hk h
        have h2 := lt i (i + 1) w p hw hp (by omega)
        omega
  have hwy := hwb.1
  generalize rowOf R (w.y - 1) = B at *
  generalize rowOf R (w.y + 1) = U at *
  have e1 := wrap_i64 (n := w.y - 1) (by omega) (by omega)
  have e2 := wrap_i64 (n := w.y + 1) (by omega) (by omega)
  have e3 := wrap_i64 (n := (i : Int) + 1) (by omega) (by omega)
  have e4 := wrap_i64 (n := (i : Int) - 1) (by omega) (by omega)
  have i1 : ∀ (x : Row), R[i]? = some x → (encRows R) = encRows R := fun _ _ => rfl
  obtain ⟨y, rs⟩ := w
  simp only at *
  refine pc_of_awp cx (fn := Tryz.f54) (c := _) Tryz.func54 rfl rfl (Nat.le_of_ble_eq_true rfl) ?_
  rw [Tryz.ntmps54]; refine Nav.imp ?_
  refine awp_region cx [] fun K hK => ?_
  simp [push_cast]
  repeat (refine And.intro (by clear hK; intros; first | omega | (simp_all; done) | (simp_all <;> omega)) ?_)
  refine hK _ ?_; clear hK K; refine Nav.imp ?_
  refine awp_region cx [] fun K hK => ?_
  simp [push_cast, hw]
  repeat (refine And.intro (by clear hK; intros; first | omega | (simp_all; done) | (simp_all <;> omega)) ?_)
  refine hK _ ?_; clear hK K; refine Nav.imp ?_
  by_cases h0 : 0 < i
  · obtain ⟨p, hp⟩ : ∃ p, R[i - 1]? = some p := getq (by omega)
    have g0 : ((0 : Int) < i) := by omega
    have g1 : (((i : Int) - 1).toNat) = i - 1 := by omega
    have g3 : (0 : Int) ≤ (i : Int) - 1 := by omega
    have g4 : (i : Int) - 1 < R.length := by omega
    by_cases e : p.y = y - 1
    · have hB := b1 p h0 hp e
      obtain ⟨py, pr⟩ := p
      simp only at e hB
      subst e
      subst hB
      refine awp_region cx [] fun K hK => ?_
      simp [push_cast, hp, e1, e4, g1, g3, g4, g0]
      repeat (refine And.intro (by clear hK; intros; first | omega | (simp_all; done) | (simp_all <;> omega)) ?_)
      refine hK _ ?_; clear hK K; refine Nav.imp ?_
      refine awp_cond (b := true) (by simp [push_cast, g0, h0]) (fun hb => ?_) (fun hb => ?_) <;> (refine Nav.imp ?_)
      · refine awp_region cx [] fun K hK => ?_
        simp [push_cast, hp, e4, g1, g3, g4]
        repeat (refine And.intro (by clear hK; intros; first | omega | (simp_all; done) | (simp_all <;> omega)) ?_)
        refine hK _ ?_; clear hK K; refine Nav.imp ?_
        by_cases hlt : i + 1 < R.length
        · obtain ⟨q, hq⟩ : ∃ q, R[i + 1]? = some q := getq hlt
          have g2 : ((i : Int) + 1 < R.length) := by omega
          by_cases e : q.y = y + 1
          · have hB2 := a1 q hq e
            obtain ⟨qy, qr⟩ := q
            simp only at e hB2
            subst e
            subst hB2
            refine awp_region cx [] fun K hK => ?_
            simp [push_cast, hq, e3, e2, g2]
            repeat (refine And.intro (by clear hK; intros; first | omega | (simp_all; done) | (simp_all <;> omega)) ?_)
            refine hK _ ?_; clear hK K; refine Nav.imp ?_
            refine awp_cond (b := true) (by simp [push_cast, g2]) (fun hb => ?_) (fun hb => ?_) <;> (refine Nav.imp ?_)
            · refine awp_region cx [] fun K hK => ?_
              simp [push_cast, hq, e3]
              repeat (refine And.intro (by clear hK; intros; first | omega | (simp_all; done) | (simp_all <;> omega)) ?_)
              refine hK _ ?_; clear hK K; refine Nav.imp ?_
              refine awp_region cx [] fun K hK => ?_
              simp [push_cast]
              repeat (refine And.intro (by clear hK; intros; first | omega | (simp_all; done) | (simp_all <;> omega)) ?_)
              refine hK _ ?_; clear hK K; refine Nav.imp ?_
              simp [push_cast]
            · simp at hb
          · have hB2 := a2 (.inr ⟨q, hq, e⟩)
            obtain ⟨qy, qr⟩ := q
            simp only at e
            subst hB2
            refine awp_region cx [] fun K hK => ?_
            simp [push_cast, hq, e3, e2, g2]
            repeat (refine And.intro (by clear hK; intros; first | omega | (simp_all; done) | (simp_all <;> omega)) ?_)
            refine hK _ ?_; clear hK K; refine Nav.imp ?_
            refine awp_cond (b := false) (by simp [push_cast, g2, e]) (fun hb => ?_) (fun hb => ?_) <;> (refine Nav.imp ?_)
            · simp at hb
            · refine awp_region cx [] fun K hK => ?_
              simp [push_cast]
              repeat (refine And.intro (by clear hK; intros; first | omega | (simp_all; done) | (simp_all <;> omega)) ?_)
              refine hK _ ?_; clear hK K; refine Nav.imp ?_
              simp [push_cast]
        · have hB2 := a2 (.inl (by omega))
          subst hB2
          have g2 : ¬ ((i : Int) + 1 < R.length) := by omega
          refine awp_region cx [(7, .skip), (8, .skip), (9, .skip), (10, .skip), (11, .skip), (12, .skip), (13, .skip), (14, .skip), (15, .skip), (16, .skip)] fun K hK => ?_
          simp [push_cast, e3, g2]
          repeat (refine And.intro (by clear hK; intros; first | omega | (simp_all; done) | (simp_all <;> omega)) ?_)
          refine hK _ ?_; clear hK K; refine Nav.imp ?_
          refine awp_cond (b := false) (by simp [push_cast, g2]) (fun hb => ?_) (fun hb => ?_) <;> (refine Nav.imp ?_)
          · simp at hb
          · refine awp_region cx [] fun K hK => ?_
            simp [push_cast]
            repeat (refine And.intro (by clear hK; intros; first | omega | (simp_all; done) | (simp_all <;> omega)) ?_)
            refine hK _ ?_; clear hK K; refine Nav.imp ?_
            simp [push_cast]
      · simp at hb
    · have hB := b2 (.inr ⟨p, hp, e⟩)
      obtain ⟨py, pr⟩ := p
      simp only at e
      subst hB
      refine awp_region cx [] fun K hK => ?_
      simp [push_cast, hp, e1, e4, g1, g3, g4, g0]
      repeat (refine And.intro (by clear hK; intros; first | omega | (simp_all; done) | (simp_all <;> omega)) ?_)
      refine hK _ ?_; clear hK K; refine Nav.imp ?_
      refine awp_cond (b := false) (by simp [push_cast, g0, h0, e]) (fun hb => ?_) (fun hb => ?_) <;> (refine Nav.imp ?_)
      · simp at hb
      · by_cases hlt : i + 1 < R.length
        · obtain ⟨q, hq⟩ : ∃ q, R[i + 1]? = some q := getq hlt
          have g2 : ((i : Int) + 1 < R.length) := by omega
          by_cases e : q.y = y + 1
          · have hB2 := a1 q hq e
            obtain ⟨qy, qr⟩ := q
            simp only at e hB2
            subst e
            subst hB2
            refine awp_region cx [] fun K hK => ?_
            simp [push_cast, hq, e3, e2, g2]
            repeat (refine And.intro (by clear hK; intros; first | omega | (simp_all; done) | (simp_all <;> omega)) ?_)
            refine hK _ ?_; clear hK K; refine Nav.imp ?_
            refine awp_cond (b := true) (by simp [push_cast, g2]) (fun hb => ?_) (fun hb => ?_) <;> (refine Nav.imp ?_)
            · refine awp_region cx [] fun K hK => ?_
              simp [push_cast, hq, e3]
              repeat (refine And.intro (by clear hK; intros; first | omega | (simp_all; done) | (simp_all <;> omega)) ?_)
              refine hK _ ?_; clear hK K; refine Nav.imp ?_
              refine awp_region cx [] fun K hK => ?_
              simp [push_cast]
              repeat (refine And.intro (by clear hK; intros; first | omega | (simp_all; done) | (simp_all <;> omega)) ?_)
              refine hK _ ?_; clear hK K; refine Nav.imp ?_
              simp [push_cast]
            · simp at hb
          · have hB2 := a2 (.inr ⟨q, hq, e⟩)
            obtain ⟨qy, qr⟩ := q
            simp only at e
            subst hB2
            refine awp_region cx [] fun K hK => ?_
            simp [push_cast, hq, e3, e2, g2]
            repeat (refine And.intro (by clear hK; intros; first | omega | (simp_all; done) | (simp_all <;> omega)) ?_)
            refine hK _ ?_; clear hK K; refine Nav.imp ?_
            refine awp_cond (b := false) (by simp [push_cast, g2, e]) (fun hb => ?_) (fun hb => ?_) <;> (refine Nav.imp ?_)
            · simp at hb
            · refine awp_region cx [] fun K hK => ?_
              simp [push_cast]
              repeat (refine And.intro (by clear hK; intros; first | omega | (simp_all; done) | (simp_all <;> omega)) ?_)
              refine hK _ ?_; clear hK K; refine Nav.imp ?_
              simp [push_cast]
        · have hB2 := a2 (.inl (by omega))
          subst hB2
          have g2 : ¬ ((i : Int) + 1 < R.length) := by omega
          refine awp_region cx [(7, .skip), (8, .skip), (9, .skip), (10, .skip), (11, .skip), (12, .skip), (13, .skip), (14, .skip), (15, .skip), (16, .skip)] fun K hK => ?_
          simp [push_cast, e3, g2]
          repeat (refine And.intro (by clear hK; intros; first | omega | (simp_all; done) | (simp_all <;> omega)) ?_)
          refine hK _ ?_; clear hK K; refine Nav.imp ?_
          refine awp_cond (b := false) (by simp [push_cast, g2]) (fun hb => ?_) (fun hb => ?_) <;> (refine Nav.imp ?_)
          · simp at hb
          · refine awp_region cx [] fun K hK => ?_
            simp [push_cast]
            repeat (refine And.intro (by clear hK; intros; first | omega | (simp_all; done) | (simp_all <;> omega)) ?_)
            refine hK _ ?_; clear hK K; refine Nav.imp ?_
            simp [push_cast]
  · have hi0 : i = 0 := by omega
    have hB := b2 (.inl hi0)
    subst hB
    subst hi0
    have e3 : IntKind.wrap .i64 (1 : Int) = 1 := wrap_i64 (by omega) (by omega)
    simp only [Nat.zero_add] at a1 a2
    refine awp_region cx [(3, .skip), (4, .skip), (5, .skip), (6, .skip), (7, .skip), (8, .skip), (9, .skip), (10, .skip), (11, .skip), (12, .skip)] fun K hK => ?_
    simp [push_cast]
    repeat (refine And.intro (by clear hK; intros; first | omega | (simp_all; done) | (simp_all <;> omega)) ?_)
    refine hK _ ?_; clear hK K; refine Nav.imp ?_
    refine awp_cond (b := false) (by simp [push_cast]) (fun hb => ?_) (fun hb => ?_) <;> (refine Nav.imp ?_)
    · simp at hb
    · by_cases hlt : 1 < R.length
      · obtain ⟨q, hq⟩ : ∃ q, R[1]? = some q := getq hlt
        have g2 : ((1 : Int) < R.length) := by omega
        by_cases e : q.y = y + 1
        · have hB2 := a1 q hq e
          obtain ⟨qy, qr⟩ := q
          simp only at e hB2
          subst e
          subst hB2
          refine awp_region cx [] fun K hK => ?_
          simp [push_cast, hq, e3, e2, g2]
          repeat (refine And.intro (by clear hK; intros; first | omega | (simp_all; done) | (simp_all <;> omega)) ?_)
          refine hK _ ?_; clear hK K; refine Nav.imp ?_
          refine awp_cond (b := true) (by simp [push_cast, g2]) (fun hb => ?_) (fun hb => ?_) <;> (refine Nav.imp ?_)
          · refine awp_region cx [] fun K hK => ?_
            simp [push_cast, hq, e3]
            repeat (refine And.intro (by clear hK; intros; first | omega | (simp_all; done) | (simp_all <;> omega)) ?_)
            refine hK _ ?_; clear hK K; refine Nav.imp ?_
            refine awp_region cx [] fun K hK => ?_
            simp [push_cast]
            repeat (refine And.intro (by clear hK; intros; first | omega | (simp_all; done) | (simp_all <;> omega)) ?_)
            refine hK _ ?_; clear hK K; refine Nav.imp ?_
            simp [push_cast]
          · simp at hb
        · have hB2 := a2 (.inr ⟨q, hq, e⟩)
          obtain ⟨qy, qr⟩ := q
          simp only at e
          subst hB2
          refine awp_region cx [] fun K hK => ?_
          simp [push_cast, hq, e3, e2, g2]
          repeat (refine And.intro (by clear hK; intros; first | omega | (simp_all; done) | (simp_all <;> omega)) ?_)
          refine hK _ ?_; clear hK K; refine Nav.imp ?_
          refine awp_cond (b := false) (by simp [push_cast, g2, e]) (fun hb => ?_) (fun hb => ?_) <;> (refine Nav.imp ?_)
          · simp at hb
          · refine awp_region cx [] fun K hK => ?_
            simp [push_cast]
            repeat (refine And.intro (by clear hK; intros; first | omega | (simp_all; done) | (simp_all <;> omega)) ?_)
            refine hK _ ?_; clear hK K; refine Nav.imp ?_
            simp [push_cast]
      · have hB2 := a2 (.inl (by omega))
        subst hB2
        have g2 : ¬ ((1 : Int) < R.length) := by omega
        refine awp_region cx [(7, .skip), (8, .skip), (9, .skip), (10, .skip), (11, .skip), (12, .skip), (13, .skip), (14, .skip), (15, .skip), (16, .skip)] fun K hK => ?_
        simp [push_cast, e3, g2]
        repeat (refine And.intro (by clear hK; intros; first | omega | (simp_all; done) | (simp_all <;> omega)) ?_)
        refine hK _ ?_; clear hK K; refine Nav.imp ?_
        refine awp_cond (b := false) (by simp [push_cast, g2]) (fun hb => ?_) (fun hb => ?_) <;> (refine Nav.imp ?_)
        · simp at hb
        · refine awp_region cx [] fun K hK => ?_
          simp [push_cast]
          repeat (refine And.intro (by clear hK; intros; first | omega | (simp_all; done) | (simp_all <;> omega)) ?_)
          refine hK _ ?_; clear hK K; refine Nav.imp ?_
          simp [push_cast]
end Go.Proofs.YtdddknniooimmaaGreat

set_option linter.unusedSectionVars false
namespace Go.Proofs.YtdddknniooimmaaGreat
open Go.Abs

def Sof (R : List Row) (c : Cell) : Bool := inR (rowOf R c.y) c.x
theorem mem_eRun {y : Int} {r : Run} (hr : r.a < r.b) {c : Crk} : c ∈ eRun y r ↔ c.h = .e ∧ c.p.y = y ∧ r.a ≤ c.p.x ∧ c.p.x < r.b := by
  unfold eRun
  simp only [List.mem_map, List.mem_range]
  obtain ⟨⟨u, v⟩, h⟩ := c
  simp only [Crk.mk.injEq, Cell.mk.injEq]
  constructor
  · rintro ⟨k, h1, ⟨rfl, rfl⟩, rfl⟩; refine ⟨rfl, rfl, ?_, ?_⟩ <;> omega
  · rintro ⟨rfl, rfl, h1, h2⟩; exact ⟨(u - r.a).toNat, by omega, ⟨by omega, rfl⟩, rfl⟩
theorem mem_wRun {y : Int} {r : Run} (hr : r.a < r.b) {c : Crk} : c ∈ wRun y r ↔ c.h = .w ∧ c.p.y = y + 1 ∧ r.a ≤ c.p.x - 1 ∧ c.p.x - 1 < r.b := by
  unfold wRun
  simp only [List.mem_map, List.mem_range]
  obtain ⟨⟨u, v⟩, h⟩ := c
  simp only [Crk.mk.injEq, Cell.mk.injEq]
  constructor
  · rintro ⟨k, h1, ⟨rfl, rfl⟩, rfl⟩; refine ⟨rfl, rfl, ?_, ?_⟩ <;> omega
  · rintro ⟨rfl, rfl, h1, h2⟩; exact ⟨(u - 1 - r.a).toNat, by omega, ⟨by omega, rfl⟩, rfl⟩
theorem mem_vRun {y : Int} {r : Run} {c : Crk} : c ∈ vRun y r ↔ (c.h = .n ∧ c.p.y = y ∧ c.p.x = r.b) ∨ (c.h = .s ∧ c.p.y = y + 1 ∧ c.p.x = r.a) := by
  obtain ⟨⟨u, v⟩, h⟩ := c
  simp only [vRun, List.mem_cons, List.not_mem_nil, or_false, Crk.mk.injEq, Cell.mk.injEq]
  constructor
  · rintro (⟨⟨rfl, rfl⟩, rfl⟩ | ⟨⟨rfl, rfl⟩, rfl⟩) <;> simp
  · rintro (⟨rfl, rfl, rfl⟩ | ⟨rfl, rfl, rfl⟩) <;> simp
theorem apart_right {l : List Run} (h : Apart l) (x : Int) : (inR l (x - 1) = true ∧ inR l x = false) ↔ ∃ r ∈ l, r.b = x := by
  constructor
  · rintro ⟨h1, h2⟩
    obtain ⟨r, hr, h3, h4⟩ := inR_iff.1 h1
    refine ⟨r, hr, ?_⟩
    have : ¬ (r.a ≤ x ∧ x < r.b) := fun k => by rw [inR_iff.2 ⟨r, hr, k⟩] at h2; cases h2
    omega
  · rintro ⟨r, hr, rfl⟩
    have hr1 := h.1 r hr
    refine ⟨inR_iff.2 ⟨r, hr, by omega, by omega⟩, ?_⟩
    rw [Bool.eq_false_iff]
    intro k
    obtain ⟨p, hp, h3, h4⟩ := inR_iff.1 k
    obtain ⟨i, hi⟩ := List.mem_iff_getElem?.1 hr
    obtain ⟨j, hj⟩ := List.mem_iff_getElem?.1 hp
    have pw := fun a b (x y : Run) (hx : l[a]? = some x) (hy : l[b]? = some y) (hab : a < b) => (by
      obtain ⟨h1, rfl⟩ := List.getElem?_eq_some_iff.1 hx
      obtain ⟨h2, rfl⟩ := List.getElem?_eq_some_iff.1 hy
      exact List.pairwise_iff_getElem.1 h.2 a b h1 h2 hab : x.b < y.a)
    rcases Nat.lt_trichotomy i j with e | e | e
    · have := pw i j r p hi hj e; omega
    · subst e; rw [hi] at hj; cases hj; omega
    · have := pw j i p r hj hi e; omega
theorem apart_left {l : List Run} (h : Apart l) (x : Int) : (inR l x = true ∧ inR l (x - 1) = false) ↔ ∃ r ∈ l, r.a = x := by
  constructor
  · rintro ⟨h1, h2⟩
    obtain ⟨r, hr, h3, h4⟩ := inR_iff.1 h1
    refine ⟨r, hr, ?_⟩
    have : ¬ (r.a ≤ x - 1 ∧ x - 1 < r.b) := fun k => by rw [inR_iff.2 ⟨r, hr, k⟩] at h2; cases h2
    omega
  · rintro ⟨r, hr, rfl⟩
    have hr1 := h.1 r hr
    refine ⟨inR_iff.2 ⟨r, hr, by omega, by omega⟩, ?_⟩
    rw [Bool.eq_false_iff]
    intro k
    obtain ⟨p, hp, h3, h4⟩ := inR_iff.1 k
    obtain ⟨i, hi⟩ := List.mem_iff_getElem?.1 hr
    obtain ⟨j, hj⟩ := List.mem_iff_getElem?.1 hp
    have pw := fun a b (x y : Run) (hx : l[a]? = some x) (hy : l[b]? = some y) (hab : a < b) => (by
      obtain ⟨h1, rfl⟩ := List.getElem?_eq_some_iff.1 hx
      obtain ⟨h2, rfl⟩ := List.getElem?_eq_some_iff.1 hy
      exact List.pairwise_iff_getElem.1 h.2 a b h1 h2 hab : x.b < y.a)
    rcases Nat.lt_trichotomy i j with e | e | e
    · have := pw i j r p hi hj e; omega
    · subst e; rw [hi] at hj; cases hj; omega
    · have := pw j i p r hj hi e; omega
theorem rowOf_ap {R : List Row} (hv : validR R = true) (y : Int) : Apart (rowOf R y) := by
  rcases rowOf_cases hv y with ⟨w, hw, _, e⟩ | ⟨_, e⟩
  · rw [e]; exact (fine_apart.1 (row_fine hv hw).2).2.1
  · rw [e]; exact ⟨by simp, by simp⟩
theorem sub_facts {R : List Row} (hv : validR R = true) (y z : Int) : Apart (sweep fD (rowOf R y) (rowOf R z)) ∧ ∀ x, inR (sweep fD (rowOf R y) (rowOf R z)) x = (inR (rowOf R y) x && !inR (rowOf R z) x) := by
  obtain ⟨h1, h2⟩ := sweep_facts (f := fD) rfl (rowOf_rv hv y) (rowOf_rv hv z)
  exact ⟨h1, fun x => by rw [h2]; rfl⟩
theorem collect_mem {R : List Row} (hv : validR R = true) (c : Crk) : c ∈ collectL R ↔ isC (Sof R) c = true := by
  obtain ⟨⟨x, y⟩, h⟩ := c
  have inrow : ∀ {w : Row} {z t : Int}, w ∈ R → w.y = z → inR (rowOf R z) t = inR w.runs t := fun {w z t} hw e => by rw [← e, rowOf_mem hv hw]
  have has : ∀ {z t : Int}, inR (rowOf R z) t = true → ∃ w ∈ R, w.y = z ∧ rowOf R z = w.runs := fun {z t} h => by
    rcases rowOf_cases hv z with h1 | ⟨_, h1⟩
    · exact h1
    · rw [h1] at h; simp [inR] at h
  have key : ∀ w ∈ R, (⟨⟨x, y⟩, h⟩ : Crk) ∈ rowCr R w ↔ (h = .e ∧ y = w.y ∧ inR (rowOf R w.y) x = true ∧ inR (rowOf R (w.y - 1)) x = false) ∨ (h = .w ∧ y = w.y + 1 ∧ inR (rowOf R w.y) (x - 1) = true ∧ inR (rowOf R (w.y + 1)) (x - 1) = false) ∨ (h = .n ∧ y = w.y ∧ inR (rowOf R w.y) (x - 1) = true ∧ inR (rowOf R w.y) x = false) ∨ (h = .s ∧ y = w.y + 1 ∧ inR (rowOf R w.y) x = true ∧ inR (rowOf R w.y) (x - 1) = false) := by
    intro w hw
    unfold rowCr
    rw [← rowOf_mem hv hw]
    obtain ⟨a1, a2⟩ := sub_facts hv w.y (w.y - 1)
    obtain ⟨b1, b2⟩ := sub_facts hv w.y (w.y + 1)
    have ap := rowOf_ap hv w.y
    have e1 := a2 x
    have e2 := b2 (x - 1)
    have e3 := apart_right ap x
    have e4 := apart_left ap x
    simp only [List.mem_append, List.mem_flatMap]
    generalize sweep fD (rowOf R w.y) (rowOf R (w.y - 1)) = L1 at *
    generalize sweep fD (rowOf R w.y) (rowOf R (w.y + 1)) = L2 at *
    have f1 : (∃ r ∈ L1, (⟨⟨x, y⟩, h⟩ : Crk) ∈ eRun w.y r) ↔ h = .e ∧ y = w.y ∧ inR L1 x = true := by
      rw [inR_iff]
      constructor
      · rintro ⟨r, hr, hm⟩
        obtain ⟨q1, q2, q3, q4⟩ := (mem_eRun (a1.1 r hr)).1 hm
        exact ⟨q1, q2, r, hr, q3, q4⟩
      · rintro ⟨q1, q2, r, hr, q3, q4⟩
        exact ⟨r, hr, (mem_eRun (a1.1 r hr)).2 ⟨q1, q2, q3, q4⟩⟩
    have f2 : (∃ r ∈ L2, (⟨⟨x, y⟩, h⟩ : Crk) ∈ wRun w.y r) ↔ h = .w ∧ y = w.y + 1 ∧ inR L2 (x - 1) = true := by
      rw [inR_iff]
      constructor
      · rintro ⟨r, hr, hm⟩
        obtain ⟨q1, q2, q3, q4⟩ := (mem_wRun (b1.1 r hr)).1 hm
        exact ⟨q1, q2, r, hr, q3, q4⟩
      · rintro ⟨q1, q2, r, hr, q3, q4⟩
        exact ⟨r, hr, (mem_wRun (b1.1 r hr)).2 ⟨q1, q2, q3, q4⟩⟩
    have f3 : (∃ r ∈ rowOf R w.y, (⟨⟨x, y⟩, h⟩ : Crk) ∈ vRun w.y r) ↔ (h = .n ∧ y = w.y ∧ ∃ r ∈ rowOf R w.y, r.b = x) ∨ (h = .s ∧ y = w.y + 1 ∧ ∃ r ∈ rowOf R w.y, r.a = x) := by
      simp only [mem_vRun]
      constructor
      · rintro ⟨r, hr, ⟨q1, q2, q3⟩ | ⟨q1, q2, q3⟩⟩
        · exact .inl ⟨q1, q2, r, hr, q3.symm⟩
        · exact .inr ⟨q1, q2, r, hr, q3.symm⟩
      · rintro (⟨q1, q2, r, hr, q3⟩ | ⟨q1, q2, r, hr, q3⟩)
        · exact ⟨r, hr, .inl ⟨q1, q2, q3.symm⟩⟩
        · exact ⟨r, hr, .inr ⟨q1, q2, q3.symm⟩⟩
    rw [f1, f2, f3, ← e3, ← e4, e1, e2]
    simp only [Bool.and_eq_true, Bool.not_eq_true']
  unfold collectL
  simp only [List.mem_flatMap]
  have k2 : (∃ w ∈ R, (⟨⟨x, y⟩, h⟩ : Crk) ∈ rowCr R w) ↔ (h = .e ∧ inR (rowOf R y) x = true ∧ inR (rowOf R (y - 1)) x = false) ∨ (h = .w ∧ inR (rowOf R (y - 1)) (x - 1) = true ∧ inR (rowOf R y) (x - 1) = false) ∨ (h = .n ∧ inR (rowOf R y) (x - 1) = true ∧ inR (rowOf R y) x = false) ∨ (h = .s ∧ inR (rowOf R (y - 1)) x = true ∧ inR (rowOf R (y - 1)) (x - 1) = false) := by
    constructor
    · rintro ⟨w, hw, hm⟩
      rcases (key w hw).1 hm with ⟨q1, rfl, q3, q4⟩ | ⟨q1, rfl, q3, q4⟩ | ⟨q1, rfl, q3, q4⟩ | ⟨q1, rfl, q3, q4⟩
      · exact .inl ⟨q1, q3, q4⟩
      · refine .inr (.inl ⟨q1, ?_, q4⟩); rw [show w.y + 1 - 1 = w.y by omega]; exact q3
      · exact .inr (.inr (.inl ⟨q1, q3, q4⟩))
      · refine .inr (.inr (.inr ⟨q1, ?_⟩)); rw [show w.y + 1 - 1 = w.y by omega]; exact ⟨q3, q4⟩
    · rintro (⟨q1, q3, q4⟩ | ⟨q1, q3, q4⟩ | ⟨q1, q3, q4⟩ | ⟨q1, q3, q4⟩)
      · obtain ⟨w, hw, e, _⟩ := has q3
        subst e
        exact ⟨w, hw, (key w hw).2 (.inl ⟨q1, rfl, q3, q4⟩)⟩
      · obtain ⟨w, hw, e, _⟩ := has q3
        have e : y = w.y + 1 := by omega
        subst e
        rw [show w.y + 1 - 1 = w.y by omega] at q3
        exact ⟨w, hw, (key w hw).2 (.inr (.inl ⟨q1, rfl, q3, q4⟩))⟩
      · obtain ⟨w, hw, e, _⟩ := has q3
        subst e
        exact ⟨w, hw, (key w hw).2 (.inr (.inr (.inl ⟨q1, rfl, q3, q4⟩)))⟩
      · obtain ⟨w, hw, e, _⟩ := has q3
        have e : y = w.y + 1 := by omega
        subst e
        rw [show w.y + 1 - 1 = w.y by omega] at q3 q4
        exact ⟨w, hw, (key w hw).2 (.inr (.inr (.inr ⟨q1, rfl, q3, q4⟩)))⟩
  rw [k2]
  cases h <;> simp [isC, lcell, rcell, Sof]
theorem collect_cracks {R : List Row} (hv : validR R = true) : Cracks (Sof R) (collectL R) := collect_mem hv

theorem run_nodup {f : Nat → Crk} (hf : ∀ i j, f i = f j → i = j) (n : Nat) : ((List.range n).map f).Nodup := by
  unfold List.Nodup
  rw [List.pairwise_map]
  exact List.nodup_range.imp fun {a b} h e => h (hf _ _ e)
theorem rowCr_nodup {R : List Row} (hv : validR R = true) {w : Row} (hw : w ∈ R) : (rowCr R w).Nodup := by
  unfold rowCr
  rw [← rowOf_mem hv hw]
  obtain ⟨a1, _⟩ := sub_facts hv w.y (w.y - 1)
  obtain ⟨b1, _⟩ := sub_facts hv w.y (w.y + 1)
  have ap := rowOf_ap hv w.y
  generalize sweep fD (rowOf R w.y) (rowOf R (w.y - 1)) = L1 at *
  generalize sweep fD (rowOf R w.y) (rowOf R (w.y + 1)) = L2 at *
  have hE : ∀ c ∈ L1.flatMap (eRun w.y), c.h = .e := fun c hc => by
    obtain ⟨r, hr, hm⟩ := List.mem_flatMap.1 hc
    exact ((mem_eRun (a1.1 r hr)).1 hm).1
  have hW : ∀ c ∈ L2.flatMap (wRun w.y), c.h = .w := fun c hc => by
    obtain ⟨r, hr, hm⟩ := List.mem_flatMap.1 hc
    exact ((mem_wRun (b1.1 r hr)).1 hm).1
  have hV : ∀ c ∈ (rowOf R w.y).flatMap (vRun w.y), c.h = .n ∨ c.h = .s := fun c hc => by
    obtain ⟨r, hr, hm⟩ := List.mem_flatMap.1 hc
    rcases mem_vRun.1 hm with h | h
    · exact .inl h.1
    · exact .inr h.1
  rw [List.nodup_append, List.nodup_append]
  refine ⟨?_, ⟨?_, ?_, fun a ha b hb e => ?_⟩, fun a ha b hb e => ?_⟩
  · unfold List.Nodup
    rw [List.pairwise_flatMap]
    refine ⟨fun r hr => run_nodup (fun i j e => by simp at e; omega) _, List.Pairwise.imp_of_mem (fun {r p} hr hp h => ?_) a1.2⟩
    intro x hx y hy e
    obtain ⟨_, _, _, k1⟩ := (mem_eRun (a1.1 r hr)).1 hx
    obtain ⟨_, _, k2, _⟩ := (mem_eRun (a1.1 p hp)).1 hy
    rw [e] at k1; omega
  · unfold List.Nodup
    rw [List.pairwise_flatMap]
    refine ⟨fun r hr => run_nodup (fun i j e => by simp at e; omega) _, List.Pairwise.imp_of_mem (fun {r p} hr hp h => ?_) b1.2⟩
    intro x hx y hy e
    obtain ⟨_, _, _, k1⟩ := (mem_wRun (b1.1 r hr)).1 hx
    obtain ⟨_, _, k2, _⟩ := (mem_wRun (b1.1 p hp)).1 hy
    rw [e] at k1; omega
  · unfold List.Nodup
    rw [List.pairwise_flatMap]
    refine ⟨fun r hr => by simp [vRun], List.Pairwise.imp_of_mem (fun {r p} hr hp h => ?_) ap.2⟩
    intro x hx y hy e
    have l1 := ap.1 r hr
    have l2 := ap.1 p hp
    rw [e] at hx
    rcases mem_vRun.1 hx with ⟨k1, _, k2⟩ | ⟨k1, _, k2⟩ <;> rcases mem_vRun.1 hy with ⟨k3, _, k4⟩ | ⟨k3, _, k4⟩
    · omega
    · rw [k1] at k3; cases k3
    · rw [k1] at k3; cases k3
    · omega
  · have h1 := hW a ha
    have h2 := hV b hb
    rw [e] at h1; rw [h1] at h2; simp at h2
  · have h1 := hE a ha
    rw [e] at h1
    rcases List.mem_append.1 hb with hb | hb
    · have h2 := hW b hb; rw [h1] at h2; cases h2
    · have h2 := hV b hb; rw [h1] at h2; simp at h2
theorem rowCr_y {R : List Row} (hv : validR R = true) {w : Row} (hw : w ∈ R) {c : Crk} (hc : c ∈ rowCr R w) : c.p.y = (match c.h with | .e => w.y | .n => w.y | .w => w.y + 1 | .s => w.y + 1) := by
  unfold rowCr at hc
  rw [← rowOf_mem hv hw] at hc
  obtain ⟨a1, _⟩ := sub_facts hv w.y (w.y - 1)
  obtain ⟨b1, _⟩ := sub_facts hv w.y (w.y + 1)
  simp only [List.mem_append, List.mem_flatMap] at hc
  rcases hc with ⟨r, hr, h⟩ | ⟨r, hr, h⟩ | ⟨r, hr, h⟩
  · obtain ⟨h1, h2, _⟩ := (mem_eRun (a1.1 r hr)).1 h; rw [h1]; exact h2
  · obtain ⟨h1, h2, _⟩ := (mem_wRun (b1.1 r hr)).1 h; rw [h1]; exact h2
  · rcases mem_vRun.1 h with ⟨h1, h2, _⟩ | ⟨h1, h2, _⟩ <;> rw [h1] <;> exact h2
theorem collect_nodup {R : List Row} (hv : validR R = true) : (collectL R).Nodup := by
  unfold collectL List.Nodup
  rw [List.pairwise_flatMap]
  refine ⟨fun w hw => rowCr_nodup hv hw, List.Pairwise.imp_of_mem (fun {w v} hw hv' h => ?_) (rows_pw hv)⟩
  intro x hx y hy e
  have h1 := rowCr_y hv hw hx
  have h2 := rowCr_y hv hv' hy
  rw [← e] at h2
  rw [h1] at h2
  cases hh : x.h <;> simp only [hh] at h2 <;> omega
theorem collect_near {R : List Row} (hv : validR R = true) {c : Crk} (hc : c ∈ collectL R) : (-4096 ≤ c.p.x ∧ c.p.x ≤ 4096) ∧ -4096 ≤ c.p.y ∧ c.p.y ≤ 4096 := by
  have h := (collect_mem hv c).1 hc
  simp only [isC, Bool.and_eq_true] at h
  obtain ⟨⟨x, y⟩, k⟩ := c
  have h1 := rowOf_range hv h.1
  cases k <;> simp only [lcell] at h1 ⊢ <;> omega
def crks (c : Cell) : List Crk := [⟨c, .e⟩, ⟨⟨c.x + 1, c.y⟩, .n⟩, ⟨⟨c.x + 1, c.y + 1⟩, .w⟩, ⟨⟨c.x, c.y + 1⟩, .s⟩]
theorem mem_crks {c : Crk} {d : Cell} : c ∈ crks d ↔ lcell c.h c.p = d := by
  obtain ⟨⟨x, y⟩, k⟩ := c
  obtain ⟨u, v⟩ := d
  cases k <;> simp [crks, lcell] <;> omega
theorem flat4_len : ∀ (l : List Cell), (l.flatMap crks).length = 4 * l.length
  | [] => rfl
  | c :: l => by rw [List.flatMap_cons, List.length_append, flat4_len l]; simp [crks]; omega
theorem collect_len {R : List Row} (hv : validR R = true) : (collectL R).length ≤ 4 * (regCells R).length := by
  rw [← flat4_len]
  refine inj_nodup_len (collect_nodup hv) fun c hc => ?_
  have h := (collect_mem hv c).1 hc
  simp only [isC, Bool.and_eq_true] at h
  exact List.mem_flatMap.2 ⟨_, (rowOf_in hv _).2 h.1, mem_crks.2 rfl⟩

theorem MapOf.nil : MapOf [] fun _ => False := ⟨by simp, by simp [getL], by simp [getL]⟩
theorem MapOf.add {A : List (Cell × List Hd)} {rem : Crk → Prop} (h : MapOf A rem) {c : Crk} (hc : ¬ rem c) : MapOf (addA A c) fun d => rem d ∨ d = c := by
  unfold addA
  refine ⟨keys_put h.keys _ _, fun p hs hp => ?_, fun p k => ?_⟩
  · rw [getL_putL] at hp
    split at hp
    · cases hp
      refine ⟨by simp, ?_⟩
      have hn : (headsAt A c.p).Nodup := by
        unfold headsAt
        cases hg : getL A c.p with
        | none => exact List.nodup_nil
        | some hs => exact (h.some _ _ hg).2
      rw [List.nodup_append]
      refine ⟨hn, by simp, fun a ha b hb e => ?_⟩
      simp at hb; subst hb; subst e
      exact hc ((h.heads _ _).1 ha)
    · exact h.some _ _ hp
  · rw [getL_putL]
    by_cases e : p = c.p
    · subst e
      rw [if_pos rfl]
      simp only [Option.some.injEq, exists_eq_left', List.mem_append, List.mem_singleton, h.heads]
      constructor
      · rintro (h1 | h1)
        · exact .inl h1
        · right; exact congrArg Crk.h h1
      · rintro (h1 | h1)
        · exact .inl h1
        · right; rw [h1]
    · rw [if_neg e, ← h.mem]
      constructor
      · rintro (h1 | h1)
        · exact h1
        · exact absurd (congrArg Crk.p h1) e
      · exact .inl
theorem MapOf.addAll : ∀ {l : List Crk} {A : List (Cell × List Hd)} {rem : Crk → Prop}, MapOf A rem → l.Nodup → (∀ c ∈ l, ¬ rem c) → MapOf (addAll A l) fun d => rem d ∨ d ∈ l
  | [], A, rem, h, _, _ => h.congr fun c => by simp
  | c :: l, A, rem, h, hn, hl => by
    obtain ⟨h1, h2⟩ := List.nodup_cons.1 hn
    have := MapOf.addAll (h.add (hl c (by simp))) h2 fun d hd k => by
      rcases k with k | k
      · exact hl d (by simp [hd]) k
      · exact h1 (k ▸ hd)
    exact this.congr fun d => by simp [or_assoc]
theorem collect_map {R : List Row} (hv : validR R = true) : MapOf (addAll [] (collectL R)) fun c => isC (Sof R) c = true :=
  (MapOf.nil.addAll (collect_nodup hv) (by simp)).congr fun c => by simp [collect_mem hv]
end Go.Proofs.YtdddknniooimmaaGreat

namespace Go.Proofs.YtdddknniooimmaaGreat
open Go.Abs

structure TInv (S : Cell → Bool) (P : List Cell) (j : Nat) (Fs : List (List Crk)) (A : List (Cell × List Hd)) : Prop where
  fam : Fam S Fs
  map : MapOf A fun c => isC S c = true ∧ ¬ onF Fs c
  rem : ∀ c, isC S c = true → ¬ onF Fs c → ∃ i, j ≤ i ∧ P[i]? = some c.p
  hd : ∀ L ∈ Fs, ∃ c i, L.head? = some c ∧ i < j ∧ P[i]? = some c.p
  len : Fs.length ≤ j
theorem onF_app {Fs : List (List Crk)} {L : List Crk} {c : Crk} : onF (Fs ++ [L]) c ↔ onF Fs c ∨ c ∈ L := by
  unfold onF
  constructor
  · rintro ⟨M, hM, hc⟩
    rcases List.mem_append.1 hM with hM | hM
    · exact .inl ⟨M, hM, hc⟩
    · simp at hM; subst hM; exact .inr hc
  · rintro (⟨M, hM, hc⟩ | hc)
    · exact ⟨M, by simp [hM], hc⟩
    · exact ⟨L, by simp, hc⟩
theorem pw_get {α : Type} {r : α → α → Prop} {P : List α} (h : P.Pairwise r) {i j : Nat} {a b : α} (ha : P[i]? = some a) (hb : P[j]? = some b) (hij : i < j) : r a b := by
  obtain ⟨h1, rfl⟩ := List.getElem?_eq_some_iff.1 ha
  obtain ⟨h2, rfl⟩ := List.getElem?_eq_some_iff.1 hb
  exact List.pairwise_iff_getElem.1 h i j h1 h2 hij
theorem TInv.skip {S : Cell → Bool} {P : List Cell} {j : Nat} {Fs : List (List Crk)} {A : List (Cell × List Hd)} (h : TInv S P j Fs A) {p : Cell} (hp : P[j]? = some p) (h0 : headsAt A p = []) : TInv S P (j + 1) Fs A := by
  refine ⟨h.fam, h.map, fun c hc hn => ?_, fun L hL => ?_, by have := h.len; omega⟩
  · obtain ⟨i, hi, e⟩ := h.rem c hc hn
    refine ⟨i, ?_, e⟩
    rcases Nat.lt_or_ge j i with hl | hl
    · exact hl
    · have : i = j := by omega
      subst this
      rw [hp] at e; cases e
      have := (h.map.heads c.p c.h).2 ⟨hc, hn⟩
      rw [h0] at this; cases this
  · obtain ⟨c, i, e1, e2, e3⟩ := h.hd L hL
    exact ⟨c, i, e1, by omega, e3⟩
theorem TInv.go {S : Cell → Bool} {C : List Crk} (hC : Cracks S C) {P : List Cell} (hP : P.Pairwise lowC) {j : Nat} {Fs : List (List Crk)} {A : List (Cell × List Hd)} (h : TInv S P j Fs A) {p : Cell} (hp : P[j]? = some p) {k : Hd} {hs0 : List Hd} (h0 : headsAt A p = k :: hs0) :
    ∃ n, Per (suc S) ⟨p, k⟩ n ∧ n ≤ C.length ∧ (∀ i, i < n → isC S (itn (suc S) i ⟨p, k⟩) = true ∧ ¬ onF Fs (itn (suc S) i ⟨p, k⟩)) ∧ (∀ d ∈ orb (suc S) n ⟨p, k⟩, d ≠ ⟨p, k⟩ → lowC p d.p) ∧ TInv S P (j + 1) (Fs ++ [orb (suc S) n ⟨p, k⟩]) (takeAll A (orb (suc S) n ⟨p, k⟩)) := by
  obtain ⟨hc, hn⟩ := (h.map.heads p k).1 (by rw [h0]; simp)
  obtain ⟨n, pn, hle⟩ := per_ex hC.cl hC.inj ((hC _).2 hc)
  have off := h.fam.off hC hc hn
  have hr : ∀ i, i < n → isC S (itn (suc S) i ⟨p, k⟩) = true ∧ ¬ onF Fs (itn (suc S) i ⟨p, k⟩) := fun i _ => ⟨(off i).2, (off i).1⟩
  have low : ∀ d, isC S d = true → ¬ onF Fs d → ¬ lowC d.p p := fun d h1 h2 => by
    obtain ⟨i, hi, e⟩ := h.rem d h1 h2
    rcases Nat.lt_or_ge j i with hl | hl
    · exact lowC_asym (pw_get hP hp e hl)
    · have : i = j := by omega
      subst this
      rw [hp] at e; cases e
      exact lowC_irr _
  have lc : ∀ d ∈ orb (suc S) n ⟨p, k⟩, d ≠ ⟨p, k⟩ → lowC p d.p := fun d hd hne => by
    obtain ⟨i, hi, rfl⟩ := mem_orb.1 hd
    obtain ⟨h1, h2⟩ := hr i hi
    rcases lowC_tri p (itn (suc S) i ⟨p, k⟩).p with e | e | e
    · exact e
    · exfalso
      refine hne (least_one h1 hc e.symm ?_ ?_)
      · have := off (i + 1)
        rw [itn_succ] at this
        rw [← e]
        exact low _ this.2 this.1
      · have := off 1
        exact low _ this.2 this.1
    · exact absurd e (low _ h1 h2)
  have hnd := orb_nodup hC.cl hC.inj ((hC _).2 hc) pn.least
  refine ⟨n, pn, hle, hr, lc, ⟨⟨fun L hL => ?_, ?_⟩, ?_, fun c h1 h2 => ?_, fun L hL => ?_, by have := h.len; simp; omega⟩⟩
  · rcases List.mem_append.1 hL with hL | hL
    · exact h.fam.each L hL
    · simp at hL; subst hL
      exact ⟨_, n, hc, pn, rfl, lc⟩
  · rw [List.pairwise_append]
    refine ⟨h.fam.sorted, by simp, fun L hL M hM => ?_⟩
    simp at hM; subst hM
    obtain ⟨c, i, e1, e2, e3⟩ := h.hd L hL
    exact ⟨c, _, e1, orb_head pn.pos, pw_get hP e3 hp e2⟩
  · refine (h.map.walk hr hnd n (Nat.le_refl _)).congr fun c => ?_
    rw [onF_app, not_or]
    simp only [and_assoc]
  · rw [onF_app, not_or] at h2
    obtain ⟨i, hi, e⟩ := h.rem c h1 h2.1
    refine ⟨i, ?_, e⟩
    rcases Nat.lt_or_ge j i with hl | hl
    · exact hl
    · exfalso
      have : i = j := by omega
      subst this
      rw [hp] at e
      have e : p = c.p := by injection e
      have hoc := h.fam.off hC h1 h2.1 1
      have ho1 := off 1
      refine h2.2 ?_
      have : c = ⟨p, k⟩ := least_one h1 hc e.symm (by rw [← e]; exact low _ hoc.2 hoc.1) (low _ ho1.2 ho1.1)
      rw [this]
      exact orb_self pn.pos
  · rcases List.mem_append.1 hL with hL | hL
    · obtain ⟨c, i, e1, e2, e3⟩ := h.hd L hL
      exact ⟨c, i, e1, by omega, e3⟩
    · simp at hL; subst hL
      exact ⟨_, j, orb_head pn.pos, by omega, hp⟩
theorem TInv.done {S : Cell → Bool} {P : List Cell} {j : Nat} {Fs : List (List Crk)} {A : List (Cell × List Hd)} (h : TInv S P j Fs A) (hj : P.length ≤ j) : Lps S Fs := by
  refine ⟨h.fam.each, fun c hc => ?_, h.fam.sorted⟩
  apply Classical.byContradiction
  intro hn
  obtain ⟨i, hi, e⟩ := h.rem c hc hn
  have := (List.getElem?_eq_some_iff.1 e).1
  omega
theorem TInv.init {S : Cell → Bool} {A : List (Cell × List Hd)} (hA : MapOf A fun c => isC S c = true) {P : List Cell} (hP : P.Perm (A.map (·.1))) : TInv S P 0 [] A := by
  refine ⟨⟨by simp, by simp⟩, hA.congr fun c => by simp [onF], fun c hc _ => ?_, by simp, by simp⟩
  obtain ⟨hs, e, hm⟩ := (hA.mem c.p c.h).1 hc
  have hp := posL_getL (a := c.p) A
  have : c.p ∈ P := by
    rw [hP.mem_iff]
    apply Classical.byContradiction
    intro hn
    rw [posL_mem.2 hn] at hp
    rw [hp] at e; cases e
  obtain ⟨i, hi⟩ := List.mem_iff_getElem?.1 this
  exact ⟨i, Nat.zero_le _, hi⟩
theorem heads_near {A : List (Cell × List Hd)} {C : List Crk} {S : Cell → Bool} (hC : Cracks S C) (hA : MapOf A fun c => isC S c = true) {p : Cell} (hp : p ∈ A.map (·.1)) : ∃ c ∈ C, c.p = p := by
  have := posL_getL (a := p) A
  cases hq : posL p A with
  | none => exact absurd hp (posL_mem.1 hq)
  | some j =>
    rw [hq] at this
    obtain ⟨hs, _, e⟩ := this
    obtain ⟨h1, h2⟩ := hA.some _ _ e
    obtain ⟨k, hk⟩ := List.exists_mem_of_ne_nil _ h1
    exact ⟨⟨p, k⟩, (hC _).2 ((hA.mem p k).2 ⟨hs, e, hk⟩), rfl⟩
theorem lps_ex {S : Cell → Bool} {C : List Crk} (hC : Cracks S C) : ∃ Ls, Lps S Ls := by
  have key : ∀ l : List Crk, (∀ c ∈ l, isC S c = true) → ∃ Ls, Fam S Ls ∧ ∀ c ∈ l, onF Ls c := by
    intro l
    induction l with
    | nil => exact fun _ => ⟨[], ⟨by simp, by simp⟩, by simp⟩
    | cons c l ih =>
      intro h
      obtain ⟨Ls, h1, h2⟩ := ih fun d hd => h d (by simp [hd])
      by_cases hc : onF Ls c
      · exact ⟨Ls, h1, fun d hd => by rcases List.mem_cons.1 hd with rfl | hd; exact hc; exact h2 d hd⟩
      · obtain ⟨e, n, k, he, pe, hk, hn, hce, _, le⟩ := lp_ex hC (h c (by simp))
        have hL : IsLp S (orb (suc S) n e) := ⟨e, n, he, pe, rfl, le⟩
        have hcm : c ∈ orb (suc S) n e := mem_orb.2 ⟨k, hk, hce⟩
        obtain ⟨Ms, m1, _, m3⟩ := h1.ins hL fun x hx ⟨M, hM, hm⟩ => hc ⟨M, hM, by rw [← lp_uniq hL (h1.each M hM) hx hm hC]; exact hcm⟩
        refine ⟨Ms, m1, fun d hd => ?_⟩
        rcases List.mem_cons.1 hd with rfl | hd
        · exact ⟨_, (m3 _).2 (.inl rfl), hcm⟩
        · obtain ⟨M, hM, hm⟩ := h2 d hd
          exact ⟨M, (m3 _).2 (.inr hM), hm⟩
  obtain ⟨Ls, h1, h2⟩ := key C fun c hc => (hC c).1 hc
  exact ⟨Ls, h1.each, fun c hc => h2 c ((hC c).2 hc), h1.sorted⟩
end Go.Proofs.YtdddknniooimmaaGreat

namespace Go.Proofs.YtdddknniooimmaaGreat
open Go.Abs

abbrev ck (c : Crk) : List D := [.int .i64 c.p.x, .int .i64 c.p.y, .int .i64 c.q.x, .int .i64 c.q.y]
abbrev encCk (l : List Crk) : D := .sl (l.map ck)
def refC (R : List Row) (d : Cell) : List Crk := (crks d).filter fun c => !Sof R (rcell c.h c.p)
def refL (R : List Row) : List Crk := (regCells R).flatMap (refC R)
def aftK (l : List Crk) (a : Crk) : Nat → Int
  | 0 => -1
  | i + 1 => match l[i]? with
    | some b => if b.p = a.q ∧ (aftK l a i < 0 ∨ b.h = a.h.l) then i else aftK l a i
    | none => aftK l a i
end Go.Proofs.YtdddknniooimmaaGreat

namespace Go.Proofs.YtdddknniooimmaaGreat
open Go.Abs

def cmpI (a b : Int) : Int := if a < b then -1 else if b < a then 1 else 0
def intRow (x : Int) : List D := [.int .i64 x]
abbrev encInts (l : List Int) : D := .sl (l.map intRow)
def orI (a b : Int) : Int := if a ≠ 0 then a else b

def cfO (a b : Cell) : Int := orI (cmpI a.y b.y) (cmpI a.x b.x)
end Go.Proofs.YtdddknniooimmaaGreat

namespace Go.Proofs.YtdddknniooimmaaGreat
open Go.Abs

def LbAt (R : List Row) (y : Int) (i : Nat) : Prop := i ≤ R.length ∧ (∀ j w, R[j]? = some w → (j < i ↔ w.y < y))
end Go.Proofs.YtdddknniooimmaaGreat

namespace Go.Proofs.YtdddknniooimmaaGreat
open Go.Abs

def hitB (x : Int) (r : Run) : Bool := decide (r.a ≤ x) && decide (x < r.b)
def conB (R : List Row) (c : Cell) : Bool := validR R && inR (rowOf R c.y) c.x
def idxR (l : List Run) (x : Int) : Int := if inR l x then ((l.takeWhile fun q => !hitB x q).length : Nat) else -1

end Go.Proofs.YtdddknniooimmaaGreat

namespace Go.Proofs.YtdddknniooimmaaGreat
open Go.Abs

def Hd.dx : Hd → Int | .e => 1 | .n => 0 | .w => -1 | .s => 0
def Hd.dy : Hd → Int | .e => 0 | .n => 1 | .w => 0 | .s => -1
end Go.Proofs.YtdddknniooimmaaGreat
