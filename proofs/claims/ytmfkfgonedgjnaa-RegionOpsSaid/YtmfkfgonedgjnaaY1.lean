/-
  The walks of this seat's functions and the plain laws behind them: part Y1.
-/
import Derived.Test.YtmfkfgonedgjnaaG3
set_option linter.unusedVariables false
set_option linter.unusedSimpArgs false
namespace Go.Proofs.Ytmfkfgonedgjnaa
open Go.Abs

/-! The reference of an operation on two rows: the bounds in their order, and what is kept between them. -/
def InsI (l : List Int) (i : Nat) (Z : List Int) (k : Nat) : Prop :=
  ∃ (P : List Int) (c : Int) (Q T : List Int), Z = P ++ c :: (Q ++ T) ∧ P.length = k ∧ P.length + Q.length = i ∧ Z.Perm l ∧ ((P ++ Q).Pairwise fun a b => a ≤ b) ∧ ∀ q ∈ Q, c ≤ q
def UpI (l : List Int) (i : Nat) (Z : List Int) : Prop := Z.Perm l ∧ ((Z.take i).Pairwise fun a b => a ≤ b)

theorem insI_start {l Z : List Int} {i : Nat} (h : UpI l i Z) (hi : i < Z.length) : InsI l i Z i := by
  refine ⟨Z.take i, Z[i], [], Z.drop (i + 1), ?_, by simp; omega, by simp; omega, h.1, by simpa using h.2, by simp⟩
  conv => lhs; rw [← List.take_append_drop i Z, List.drop_eq_getElem_cons hi]
  simp
theorem insI_end {l Z : List Int} {i k : Nat} (h : InsI l i Z k) (hk : k = 0 ∨ ∃ c p, Z[k]? = some c ∧ Z[k - 1]? = some p ∧ ¬ c < p) : UpI l (i + 1) Z := by
  obtain ⟨P, c, Q, T, rfl, hP, hQ, hp, hs, hq⟩ := h
  refine ⟨hp, ?_⟩
  have e : (P ++ c :: (Q ++ T)).take (i + 1) = P ++ c :: Q := by
    rw [show P ++ c :: (Q ++ T) = (P ++ c :: Q) ++ T from by simp, List.take_left' (by simp; omega)]
  rw [e]
  rw [List.pairwise_append] at hs ⊢
  refine ⟨hs.1, List.pairwise_cons.2 ⟨hq, hs.2.1⟩, fun a ha b hb => ?_⟩
  rcases List.mem_cons.1 hb with rfl | hb
  · rcases hk with hk | ⟨c', p, h1, h2, h3⟩
    · rw [hk] at hP
      rw [List.length_eq_zero_iff.1 hP] at ha
      cases ha
    · have hc : c' = b := by
        rw [List.getElem?_append_right (by omega), hP, Nat.sub_self] at h1
        exact (Option.some.inj h1).symm
      subst hc
      rcases List.eq_nil_or_concat P with rfl | ⟨P', p', rfl⟩
      · cases ha
      · rw [List.concat_eq_append] at *
        have hpp : p' = p := by
          rw [List.append_assoc, List.getElem?_append_right (by simp at hP; omega)] at h2
          simp at hP
          rw [show k - 1 - P'.length = 0 from by omega] at h2
          exact Option.some.inj h2
        subst hpp
        have h4 : p' ≤ c' := by omega
        rcases List.mem_append.1 ha with ha | ha
        · exact Int.le_trans ((List.pairwise_append.1 hs.1).2.2 a ha p' (by simp)) h4
        · simp at ha; subst ha; exact h4
  · exact hs.2.2 a ha b hb
theorem insI_next {l Z : List Int} {i k : Nat} {c p : Int} (h : InsI l i Z (k + 1)) (hc : Z[k + 1]? = some c) (hp : Z[k]? = some p) (hb : c < p) : InsI l i ((Z.set (k + 1) p).set k c) k := by
  obtain ⟨P, c', Q, T, rfl, hP, hQ, hperm, hs, hq⟩ := h
  rcases List.eq_nil_or_concat P with rfl | ⟨P', p', rfl⟩
  · simp at hP
  · rw [List.concat_eq_append] at *
    simp at hP
    have hcc : c' = c := by
      rw [List.getElem?_append_right (by simp; omega)] at hc
      simp [hP] at hc
      exact hc
    have hpp : p' = p := by
      rw [List.append_assoc, List.getElem?_append_right (by omega)] at hp
      simp [hP] at hp
      exact hp
    subst hcc hpp
    have e : (((P' ++ [p']) ++ c' :: (Q ++ T)).set (k + 1) p').set k c' = P' ++ c' :: ((p' :: Q) ++ T) := by
      subst hP
      simp
    rw [e]
    refine ⟨P', c', p' :: Q, T, rfl, hP, by simp at hQ ⊢; omega, ?_, ?_, ?_⟩
    · refine List.Perm.trans ?_ hperm
      simp only [List.append_assoc, List.singleton_append, List.cons_append]
      exact List.Perm.append_left _ (List.Perm.swap _ _ _)
    · simpa using hs
    · intro q hqm
      rcases List.mem_cons.1 hqm with rfl | hqm
      · omega
      · exact hq q hqm
theorem upI_start (l : List Int) : UpI l 1 l := by
  refine ⟨List.Perm.refl l, ?_⟩
  cases l with
  | nil => simp
  | cons a l => simp
theorem asc_uniq : ∀ {l l' : List Int}, l.Perm l' → (l.Pairwise fun a b => a ≤ b) → (l'.Pairwise fun a b => a ≤ b) → l = l'
  | [], l', h, _, _ => by have := h.length_eq; simp at this; exact (List.length_eq_zero_iff.1 this.symm).symm
  | a :: l, [], h, _, _ => by have := h.length_eq; simp at this
  | a :: l, b :: l', h, h2, h3 => by
    have hab : a = b := by
      have ha : a ∈ b :: l' := h.subset (by simp)
      have hb : b ∈ a :: l := h.symm.subset (by simp)
      rcases List.mem_cons.1 ha with e | ha
      · exact e
      · rcases List.mem_cons.1 hb with e | hb
        · exact e.symm
        · have := (List.pairwise_cons.1 h2).1 b hb
          have := (List.pairwise_cons.1 h3).1 a ha
          omega
    subst hab
    rw [asc_uniq h.cons_inv (List.pairwise_cons.1 h2).2 (List.pairwise_cons.1 h3).2]
def ascI (l : List Int) : List Int := l.mergeSort (fun x y => decide (x ≤ y))
theorem ascI_perm (l : List Int) : (ascI l).Perm l := List.mergeSort_perm _ _
theorem ascI_le (l : List Int) : (ascI l).Pairwise (· ≤ ·) := by
  have := List.pairwise_mergeSort (le := fun x y : Int => decide (x ≤ y)) (fun a b c h1 h2 => by simp at *; omega) (fun a b => by simp; omega) l
  exact this.imp fun h => by simpa using h
theorem upI_end {l Z : List Int} {i : Nat} (h : UpI l i Z) (hi : Z.length ≤ i) : Z = ascI l := by
  have h2 := h.2
  rw [List.take_of_length_le (by omega)] at h2
  exact asc_uniq (h.1.trans (ascI_perm l).symm) h2 (ascI_le l)

/-- The bounds of runs. -/
def ends (l : List Run) : List Int := l.flatMap fun r => [r.a, r.b]
theorem ends_len (l : List Run) : (ends l).length = 2 * l.length := by
  induction l with
  | nil => rfl
  | cons r l ih => simp only [ends, List.flatMap_cons, List.length_append] at *; simp only [List.length_cons, List.length_nil]; omega
theorem ends_take {l : List Run} {k : Nat} {r : Run} (h : l[k]? = some r) : ends (l.take (k + 1)) = ends (l.take k) ++ [r.a, r.b] := by
  rw [take_get h]; simp [ends]
def bnds (a b : List Run) : List Int := ascI (ends a ++ ends b)
theorem bnds_len (a b : List Run) : (bnds a b).length = 2 * a.length + 2 * b.length := by
  unfold bnds
  rw [(ascI_perm _).length_eq, List.length_append, ends_len, ends_len]
theorem bnds_mem {a b : List Run} {r : Run} (h : r ∈ a ∨ r ∈ b) : r.a ∈ bnds a b ∧ r.b ∈ bnds a b := by
  unfold bnds
  constructor <;> rw [(ascI_perm _).mem_iff, List.mem_append] <;> rcases h with h | h
  · exact .inl (List.mem_flatMap.2 ⟨r, h, by simp⟩)
  · exact .inr (List.mem_flatMap.2 ⟨r, h, by simp⟩)
  · exact .inl (List.mem_flatMap.2 ⟨r, h, by simp⟩)
  · exact .inr (List.mem_flatMap.2 ⟨r, h, by simp⟩)
/-- All bounds of both lists lie at X or before, or at Y or behind. -/
def Gap (a b : List Run) (X Y : Int) : Prop := ∀ r, r ∈ a ∨ r ∈ b → (r.a ≤ X ∨ Y ≤ r.a) ∧ (r.b ≤ X ∨ Y ≤ r.b)
theorem gap_of {a b : List Run} {i : Nat} {X Y : Int} (hX : (bnds a b)[i]? = some X) (hY : (bnds a b)[i + 1]? = some Y) : Gap a b X Y ∧ X ≤ Y := by
  have hs := ascI_le (ends a ++ ends b)
  have key : ∀ e ∈ bnds a b, e ≤ X ∨ Y ≤ e := fun e he => by
    obtain ⟨k, hk, rfl⟩ := List.mem_iff_getElem.1 he
    obtain ⟨hi, rfl⟩ := List.getElem?_eq_some_iff.1 hX
    obtain ⟨hj, rfl⟩ := List.getElem?_eq_some_iff.1 hY
    rcases Nat.lt_trichotomy k i with h | h | h
    · exact .inl (List.pairwise_iff_getElem.1 hs k i hk hi h)
    · subst h; exact .inl (Int.le_refl _)
    · rcases Nat.lt_or_eq_of_le (show i + 1 ≤ k from h) with h | h
      · exact .inr (List.pairwise_iff_getElem.1 hs (i + 1) k hj hk h)
      · subst h; exact .inr (Int.le_refl _)
  refine ⟨fun r hr => ⟨key _ (bnds_mem hr).1, key _ (bnds_mem hr).2⟩, ?_⟩
  obtain ⟨hi, rfl⟩ := List.getElem?_eq_some_iff.1 hX
  obtain ⟨hj, rfl⟩ := List.getElem?_eq_some_iff.1 hY
  exact List.pairwise_iff_getElem.1 hs i (i + 1) hi hj (by omega)
theorem gap_in {l : List Run} {X Y z : Int} (h : ∀ r ∈ l, (r.a ≤ X ∨ Y ≤ r.a) ∧ (r.b ≤ X ∨ Y ≤ r.b)) (h1 : X ≤ z) (h2 : z < Y) : inR l z = inR l X := by
  rw [Bool.eq_iff_iff, inR_iff, inR_iff]
  constructor
  · rintro ⟨r, hr, h3, h4⟩
    have := h r hr
    exact ⟨r, hr, by omega, by omega⟩
  · rintro ⟨r, hr, h3, h4⟩
    have := h r hr
    exact ⟨r, hr, by omega, by omega⟩
/-- What is known before bound X is looked at. -/
def CombAt (f : Bool → Bool → Bool) (a b : List Run) (X : Int) (out : List Run) : Prop :=
  Apart out ∧ (∀ r ∈ out, r.b ≤ X) ∧ ∀ z, inR out z = (decide (z < X) && f (inR a z) (inR b z))
theorem inR_none {l : List Run} {z : Int} (h : ∀ r ∈ l, z < r.a ∨ r.b ≤ z) : inR l z = false := by
  rw [Bool.eq_false_iff]; intro h2
  obtain ⟨r, hr, h3, h4⟩ := inR_iff.1 h2
  have := h r hr
  omega
theorem comb_start {f : Bool → Bool → Bool} (hf : f false false = false) {a b : List Run} {X : Int} (hX : (bnds a b)[0]? = some X) : CombAt f a b X [] := by
  have hs := ascI_le (ends a ++ ends b)
  obtain ⟨hi, rfl⟩ := List.getElem?_eq_some_iff.1 hX
  have key : ∀ e ∈ bnds a b, (bnds a b)[0] ≤ e := fun e he => by
    obtain ⟨k, hk, rfl⟩ := List.mem_iff_getElem.1 he
    rcases Nat.eq_zero_or_pos k with h | h
    · subst h; exact Int.le_refl _
    · exact List.pairwise_iff_getElem.1 hs 0 k hi hk h
  refine ⟨⟨by simp, by simp⟩, by simp, fun z => ?_⟩
  by_cases hz : z < (bnds a b)[0]
  · rw [inR_none (l := a) fun r hr => .inl (by have := key _ (bnds_mem (.inl hr)).1; omega), inR_none (l := b) fun r hr => .inl (by have := key _ (bnds_mem (.inr hr)).1; omega), hf]
    simp [inR]
  · simp [inR, hz]
theorem comb_skip {f : Bool → Bool → Bool} {a b : List Run} {X Y : Int} {out : List Run} (h : CombAt f a b X out) (hg : Gap a b X Y) (hXY : X ≤ Y) (hk : X = Y ∨ f (inR a X) (inR b X) = false) : CombAt f a b Y out := by
  obtain ⟨h1, h2, h3⟩ := h
  refine ⟨h1, fun r hr => Int.le_trans (h2 r hr) hXY, fun z => ?_⟩
  rw [h3]
  by_cases hz : z < X
  · rw [decide_eq_true hz, decide_eq_true (show z < Y by omega)]
  · rw [decide_eq_false hz]
    by_cases hy : z < Y
    · rcases hk with hk | hk
      · omega
      · rw [gap_in (fun r hr => hg r (.inl hr)) (by omega) hy, gap_in (fun r hr => hg r (.inr hr)) (by omega) hy, hk]; simp
    · rw [decide_eq_false hy]
theorem comb_val {f : Bool → Bool → Bool} {a b : List Run} {X Y : Int} (hg : Gap a b X Y) (hXY : X ≤ Y) (hk : f (inR a X) (inR b X) = true) (z : Int) :
    (decide (z < Y) && f (inR a z) (inR b z)) = ((decide (z < X) && f (inR a z) (inR b z)) || (decide (X ≤ z) && decide (z < Y))) := by
  by_cases hz : z < X
  · rw [decide_eq_true hz, decide_eq_true (show z < Y by omega), decide_eq_false (show ¬ X ≤ z by omega)]; simp
  · rw [decide_eq_false hz, decide_eq_true (show X ≤ z by omega)]
    by_cases hy : z < Y
    · rw [gap_in (fun r hr => hg r (.inl hr)) (by omega) hy, gap_in (fun r hr => hg r (.inr hr)) (by omega) hy, hk]; simp
    · rw [decide_eq_false hy]; simp
theorem comb_app {f : Bool → Bool → Bool} {a b : List Run} {X Y : Int} {out : List Run} (h : CombAt f a b X out) (hg : Gap a b X Y) (hXY : X < Y) (hk : f (inR a X) (inR b X) = true) (hl : ∀ r, out[out.length - 1]? = some r → r.b ≠ X) : CombAt f a b Y (out ++ [⟨X, Y⟩]) := by
  obtain ⟨h1, h2, h3⟩ := h
  refine ⟨⟨fun r hr => ?_, ?_⟩, fun r hr => ?_, fun z => ?_⟩
  · rcases List.mem_append.1 hr with hr | hr
    · exact h1.1 r hr
    · simp at hr; subst hr; exact hXY
  · rw [List.pairwise_append]
    refine ⟨h1.2, by simp, fun r hr s hs => ?_⟩
    simp at hs; subst hs
    have hle := h2 r hr
    rcases List.eq_nil_or_concat out with rfl | ⟨o, q, rfl⟩
    · cases hr
    · rw [List.concat_eq_append] at *
      have hq := hl q (by simp)
      have hqX := h2 q (by simp)
      rcases List.mem_append.1 hr with hr | hr
      · have hw := (List.pairwise_append.1 h1.2).2.2 r hr q (by simp)
        have hqq := h1.1 q (by simp)
        simp only; omega
      · simp at hr; subst hr; simp only; omega
  · rcases List.mem_append.1 hr with hr | hr
    · exact Int.le_trans (h2 r hr) (by omega)
    · simp at hr; subst hr; exact Int.le_refl _
  · rw [inR_app, h3, comb_val hg (by omega) hk]
theorem comb_join {f : Bool → Bool → Bool} {a b : List Run} {X Y : Int} {o : List Run} {q : Run} (h : CombAt f a b X (o ++ [q])) (hg : Gap a b X Y) (hXY : X < Y) (hk : f (inR a X) (inR b X) = true) (hq : q.b = X) : CombAt f a b Y (o ++ [⟨q.a, Y⟩]) := by
  obtain ⟨h1, h2, h3⟩ := h
  have hqq := h1.1 q (by simp)
  have hp := List.pairwise_append.1 h1.2
  refine ⟨⟨fun r hr => ?_, ?_⟩, fun r hr => ?_, fun z => ?_⟩
  · rcases List.mem_append.1 hr with hr | hr
    · exact h1.1 r (by simp [hr])
    · simp at hr; subst hr; simp only; omega
  · rw [List.pairwise_append]
    refine ⟨hp.1, by simp, fun r hr s hs => ?_⟩
    simp at hs; subst hs
    exact hp.2.2 r hr q (by simp)
  · rcases List.mem_append.1 hr with hr | hr
    · have := h2 r (by simp [hr]); omega
    · simp at hr; subst hr; exact Int.le_refl _
  · rw [comb_val hg (by omega) hk, ← h3, inR_app, inR_app, Bool.or_assoc]
    congr 1
    rw [Bool.eq_iff_iff]
    simp
    omega
theorem comb_end {f : Bool → Bool → Bool} (hf : f false false = false) {a b : List Run} (ha : rvalid a = true) (hb : rvalid b = true) {n : Nat} {X : Int} {out : List Run} (hn : (bnds a b).length = n + 1) (hX : (bnds a b)[n]? = some X) (h : CombAt f a b X out) : out = sweep f a b := by
  obtain ⟨h1, h2, h3⟩ := h
  obtain ⟨s1, s2⟩ := sweep_facts hf ha hb
  refine apart_uniq h1 s1 fun z => ?_
  rw [h3, s2]
  have hs := ascI_le (ends a ++ ends b)
  obtain ⟨hi, rfl⟩ := List.getElem?_eq_some_iff.1 hX
  have key : ∀ e ∈ bnds a b, e ≤ (bnds a b)[n] := fun e he => by
    obtain ⟨k, hk, rfl⟩ := List.mem_iff_getElem.1 he
    rcases Nat.lt_or_eq_of_le (show k ≤ n by omega) with h | h
    · exact List.pairwise_iff_getElem.1 hs k n hk hi h
    · subst h; exact Int.le_refl _
  by_cases hz : z < (bnds a b)[n]
  · rw [decide_eq_true hz]; simp
  · rw [decide_eq_false hz, inR_none (l := a) fun r hr => .inr (by have := key _ (bnds_mem (.inl hr)).2; omega), inR_none (l := b) fun r hr => .inr (by have := key _ (bnds_mem (.inr hr)).2; omega), hf]; rfl
theorem sweep_nil {f : Bool → Bool → Bool} (hf : f false false = false) {a b : List Run} (ha : rvalid a = true) (hb : rvalid b = true) (hn : (bnds a b).length = 0) : sweep f a b = [] := by
  rw [bnds_len] at hn
  have h1 : a = [] := List.eq_nil_of_length_eq_zero (by omega)
  have h2 : b = [] := List.eq_nil_of_length_eq_zero (by omega)
  subst h1 h2
  obtain ⟨s1, s2⟩ := sweep_facts hf ha hb
  exact apart_uniq s1 ⟨by simp, by simp⟩ fun z => by rw [s2]; simp [inR, hf]

/-! The reference of an operation on two regions: row by row. -/
def stepI (R : List Row) (i : Nat) (y : Int) : Nat := match R[i]? with
  | some v => if v.y = y then i + 1 else i
  | none => i
def runsAt (R : List Row) (i : Nat) (y : Int) : List Run := match R[i]? with
  | some v => if v.y = y then v.runs else []
  | none => []
def nextY (a b : List Row) (i k : Nat) : Int := match a[i]?, b[k]? with
  | some v, some w => if v.y ≤ w.y then v.y else w.y
  | some v, none => v.y
  | none, some w => w.y
  | none, none => 0
theorem side {R : List Row} (hR : validR R = true) {i : Nat} {y : Int} {ys : List Int} (h1 : ∀ w ∈ R.take i, w.y ∈ ys) (h0 : ∀ z ∈ ys, z < y) (h2 : ∀ w ∈ R.drop i, y ≤ w.y) :
    rowOf R y = runsAt R i y ∧ (∀ w ∈ R.take (stepI R i y), w.y ∈ ys ++ [y]) ∧ (∀ z ∈ ys ++ [y], ∀ w ∈ R.drop (stepI R i y), z < w.y) := by
  unfold stepI runsAt
  have hno : ∀ w ∈ R.take i, w.y ≠ y := fun w hw e => by have := h0 _ (h1 w hw); omega
  cases h : R[i]? with
  | none =>
    have hl : R.length ≤ i := List.getElem?_eq_none_iff.1 h
    rw [List.take_of_length_le hl] at hno h1
    simp only
    refine ⟨?_, fun w hw => ?_, fun z hz w hw => ?_⟩
    · rcases rowOf_cases hR y with ⟨w, hw, e, _⟩ | ⟨_, e⟩
      · exact absurd e (hno w hw)
      · exact e
    · exact List.mem_append_left _ (h1 w (List.mem_of_mem_take hw))
    · rw [List.drop_eq_nil_of_le hl] at hw; cases hw
  | some v =>
    obtain ⟨hi, hv⟩ := List.getElem?_eq_some_iff.1 h
    have hd : R.drop i = v :: R.drop (i + 1) := by rw [List.drop_eq_getElem_cons hi, hv]
    have hvR : v ∈ R := List.mem_of_getElem? h
    have hp := rows_pw hR
    rw [← List.take_append_drop i R, hd] at hp
    have hgt := (List.pairwise_cons.1 (List.pairwise_append.1 hp).2.1).1
    have hvy := h2 v (by rw [hd]; simp)
    simp only
    by_cases e : v.y = y
    · rw [if_pos e, if_pos e]
      refine ⟨by rw [← e]; exact rowOf_mem hR hvR, fun w hw => ?_, fun z hz w hw => ?_⟩
      · rw [take_get h] at hw
        rcases List.mem_append.1 hw with hw | hw
        · exact List.mem_append_left _ (h1 w hw)
        · simp at hw; subst hw; simp [e]
      · have := hgt w hw
        rcases List.mem_append.1 hz with hz | hz
        · have := h0 z hz; omega
        · simp at hz; subst hz; omega
    · rw [if_neg e, if_neg e]
      refine ⟨?_, fun w hw => List.mem_append_left _ (h1 w hw), fun z hz w hw => ?_⟩
      · rcases rowOf_cases hR y with ⟨w, hw, e', _⟩ | ⟨_, e'⟩
        · rw [← List.take_append_drop i R, hd] at hw
          rcases List.mem_append.1 hw with hw | hw
          · exact absurd e' (hno w hw)
          · rcases List.mem_cons.1 hw with rfl | hw
            · exact absurd e' e
            · have := hgt w hw; omega
        · exact e'
      · have hw' : y < w.y := by
          rw [hd] at hw
          rcases List.mem_cons.1 hw with rfl | hw
          · omega
          · have := hgt w hw; omega
        rcases List.mem_append.1 hz with hz | hz
        · have := h0 z hz; omega
        · simp at hz; subst hz; exact hw'
def OpAt (f : Bool → Bool → Bool) (a b : List Row) (i k : Nat) (out : List Row) : Prop :=
  i ≤ a.length ∧ k ≤ b.length ∧ ∃ ys : List Int, ys.Pairwise (· < ·) ∧ out = opOn f a b ys ∧ ys.length ≤ i + k ∧ (∀ w ∈ a.take i, w.y ∈ ys) ∧ (∀ w ∈ b.take k, w.y ∈ ys) ∧ (∀ z ∈ ys, ∀ w ∈ a.drop i, z < w.y) ∧ (∀ z ∈ ys, ∀ w ∈ b.drop k, z < w.y)
theorem opAt_start (f : Bool → Bool → Bool) (a b : List Row) : OpAt f a b 0 0 [] :=
  ⟨Nat.zero_le _, Nat.zero_le _, [], by simp, by simp [opOn], by simp, by simp, by simp, by simp, by simp⟩
theorem drop_min {R : List Row} (hR : validR R = true) {i : Nat} {v : Row} (h : R[i]? = some v) : (∀ w ∈ R.drop i, v.y ≤ w.y) ∧ v ∈ R.drop i := by
  obtain ⟨hi, hv⟩ := List.getElem?_eq_some_iff.1 h
  have hd : R.drop i = v :: R.drop (i + 1) := by rw [List.drop_eq_getElem_cons hi, hv]
  have hp := rows_pw hR
  rw [← List.take_append_drop i R, hd] at hp
  have hgt := (List.pairwise_cons.1 (List.pairwise_append.1 hp).2.1).1
  rw [hd]
  refine ⟨fun w hw => ?_, by simp⟩
  rcases List.mem_cons.1 hw with rfl | hw
  · exact Int.le_refl _
  · have := hgt w hw; omega
theorem stepI_le {R : List Row} {i : Nat} {y : Int} (h : i ≤ R.length) : stepI R i y ≤ R.length ∧ i ≤ stepI R i y ∧ stepI R i y ≤ i + 1 := by
  unfold stepI
  cases e : R[i]? with
  | none => exact ⟨h, Nat.le_refl _, Nat.le_succ _⟩
  | some v =>
    have := (List.getElem?_eq_some_iff.1 e).1
    simp only
    split <;> omega
theorem drop_none {R : List Row} {i : Nat} (h : R[i]? = none) : R.drop i = [] := List.drop_eq_nil_of_le (List.getElem?_eq_none_iff.1 h)
theorem opAt_step {f : Bool → Bool → Bool} {a b : List Row} (ha : validR a = true) (hb : validR b = true) {i k : Nat} {out : List Row} (h : OpAt f a b i k out) (hn : i < a.length ∨ k < b.length) :
    rowOf a (nextY a b i k) = runsAt a i (nextY a b i k) ∧ rowOf b (nextY a b i k) = runsAt b k (nextY a b i k) ∧ OpAt f a b (stepI a i (nextY a b i k)) (stepI b k (nextY a b i k)) (out ++ opRow f a b (nextY a b i k)) ∧ i + k < stepI a i (nextY a b i k) + stepI b k (nextY a b i k) := by
  obtain ⟨hi, hk, ys, p1, p2, p3, p4, p5, p6, p7⟩ := h
  have key : ∃ y, nextY a b i k = y ∧ (∀ w ∈ a.drop i, y ≤ w.y) ∧ (∀ w ∈ b.drop k, y ≤ w.y) ∧ (∀ z ∈ ys, z < y) ∧ i + k < stepI a i y + stepI b k y := by
    have m1 := @stepI_le a i
    have m2 := @stepI_le b k
    unfold nextY
    cases e1 : a[i]? with
    | none =>
      cases e2 : b[k]? with
      | none =>
        have := List.getElem?_eq_none_iff.1 e1
        have := List.getElem?_eq_none_iff.1 e2
        omega
      | some w =>
        obtain ⟨q1, q2⟩ := drop_min hb e2
        refine ⟨w.y, rfl, by rw [drop_none e1]; simp, q1, fun z hz => p7 z hz w q2, ?_⟩
        have : stepI b k w.y = k + 1 := by simp [stepI, e2]
        have := (m1 (y := w.y) hi).2.1; omega
    | some v =>
      obtain ⟨r1, r2⟩ := drop_min ha e1
      cases e2 : b[k]? with
      | none =>
        refine ⟨v.y, rfl, r1, by rw [drop_none e2]; simp, fun z hz => p6 z hz v r2, ?_⟩
        have : stepI a i v.y = i + 1 := by simp [stepI, e1]
        have := (m2 (y := v.y) hk).2.1; omega
      | some w =>
        obtain ⟨q1, q2⟩ := drop_min hb e2
        by_cases hvw : v.y ≤ w.y
        · refine ⟨v.y, by simp [hvw], r1, fun u hu => Int.le_trans hvw (q1 u hu), fun z hz => p6 z hz v r2, ?_⟩
          have : stepI a i v.y = i + 1 := by simp [stepI, e1]
          have := (m2 (y := v.y) hk).2.1; omega
        · refine ⟨w.y, by simp [hvw], fun u hu => Int.le_trans (by omega) (r1 u hu), q1, fun z hz => p7 z hz w q2, ?_⟩
          have : stepI b k w.y = k + 1 := by simp [stepI, e2]
          have := (m1 (y := w.y) hi).2.1; omega
  obtain ⟨y, e, h1, h2, h0, hprog⟩ := key
  rw [e]
  obtain ⟨s1, s2, s3⟩ := side ha p4 h0 h1
  obtain ⟨t1, t2, t3⟩ := side hb p5 h0 h2
  refine ⟨s1, t1, ⟨(stepI_le hi).1, (stepI_le hk).1, ys ++ [y], ?_, ?_, ?_, s2, t2, s3, t3⟩, hprog⟩
  · rw [List.pairwise_append]
    refine ⟨p1, by simp, fun z hz u hu => ?_⟩
    simp at hu; subst hu; exact h0 z hz
  · rw [p2]; simp [opOn]
  · simp; omega
theorem opAt_len {f : Bool → Bool → Bool} {a b : List Row} {i k : Nat} {out : List Row} (h : OpAt f a b i k out) : out.length ≤ a.length + b.length := by
  obtain ⟨hi, hk, ys, p1, p2, p3, p4, p5, p6, p7⟩ := h
  have : ∀ l : List Int, (opOn f a b l).length ≤ l.length := fun l => by
    induction l with
    | nil => simp [opOn]
    | cons y l ih =>
      simp only [opOn, List.flatMap_cons, List.length_append, List.length_cons] at *
      have : (opRow f a b y).length ≤ 1 := by unfold opRow; split <;> simp
      omega
  have := this ys
  rw [← p2] at this; omega
theorem opAt_end {f : Bool → Bool → Bool} (hf : f false false = false) {a b : List Row} (ha : validR a = true) (hb : validR b = true) {out : List Row} (h : OpAt f a b a.length b.length out) : out = opR f a b := by
  obtain ⟨hi, hk, ys, p1, p2, p3, p4, p5, p6, p7⟩ := h
  rw [List.take_length] at p4 p5
  rw [p2]
  exact opR_on hf ha hb p1 fun w hw => hw.elim (p4 w) (p5 w)
end Go.Proofs.Ytmfkfgonedgjnaa
