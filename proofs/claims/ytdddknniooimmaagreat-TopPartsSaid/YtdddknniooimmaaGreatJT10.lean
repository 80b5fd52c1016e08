/-
  Texts of this seat put together: Y1, Y2, Y3, Y4, X8, X7, Y5, M1.
-/
import Derived.Test.YtdddknniooimmaaGreatJT6
import Derived.Test.YtdddknniooimmaaGreatJT8
import Derived.Test.YtdddknniooimmaaGreatJT9
import Derived.Test.YtdddknniooimmaaGreatJT5
set_option linter.unusedVariables false
set_option linter.unusedSimpArgs false
set_option maxRecDepth 100000
namespace Go.Proofs.YtdddknniooimmaaGreat
open Go.Abs

def InsI (l : List Int) (i : Nat) (Z : List Int) (k : Nat) : Prop :=
 ∃ (P : List Int) (c : Int) (Q T : List Int), Z = P ++ c :: (Q ++ T) /\ P.length = k /\ P.length + Q.length = i /\ Z.Perm l /\ ((P ++ Q).Pairwise fun a b => a <= b) /\ ∀ q ∈ Q, c <= q
def UpI (l : List Int) (i : Nat) (Z : List Int) : Prop := Z.Perm l /\ ((Z.take i).Pairwise fun a b => a <= b)

theorem insI_start {l Z : List Int} {i : Nat} (h : UpI l i Z) (hi : i < Z.length) : InsI l i Z i := by
 refine ⟨Z.take i, Z[i], [], Z.drop (i + 1), ?_, by simp; omega, by simp; omega, h.1, by simpa using h.2, by simp⟩
 conv => lhs; rw [<- List.take_append_drop i Z, List.drop_eq_getElem_cons hi]
 simp
theorem insI_end {l Z : List Int} {i k : Nat} (h : InsI l i Z k) (hk : k = 0 \/ ∃ c p, Z[k]? = some c /\ Z[k - 1]? = some p /\ ¬ c < p) : UpI l (i + 1) Z := by
 obtain ⟨P, c, Q, T, rfl, hP, hQ, hp, hs, hq⟩ := h;refine ⟨hp, ?_⟩;have e : (P ++ c :: (Q ++ T)).take (i + 1) = P ++ c :: Q := by
  rw [show P ++ c :: (Q ++ T) = (P ++ c :: Q) ++ T from by simp, List.take_left' (by simp; omega)]
 rw [e];rw [List.pairwise_append] at hs ⊢;refine ⟨hs.1, List.pairwise_cons.2 ⟨hq, hs.2.1⟩, fun a ha b hb => ?_⟩;rcases List.mem_cons.1 hb with rfl | hb
 ·rcases hk with hk | ⟨c', p, h1, h2, h3⟩
  ·rw [hk] at hP;rw [List.length_eq_zero_iff.1 hP] at ha;cases ha
  ·have hc : c' = b := by
    rw [List.getElem?_append_right (by omega), hP, Nat.sub_self] at h1;exact (Option.some.inj h1).symm
   subst hc;rcases List.eq_nil_or_concat P with rfl | ⟨P', p', rfl⟩
   ·cases ha
   ·rw [List.concat_eq_append] at *;have hpp : p' = p := by
     rw [List.append_assoc, List.getElem?_append_right (by simp at hP; omega)] at h2;simp at hP;rw [show k - 1 - P'.length = 0 from by omega] at h2;exact Option.some.inj h2
    subst hpp;have h4 : p' <= c' := by omega
    rcases List.mem_append.1 ha with ha | ha
    ·exact Int.le_trans ((List.pairwise_append.1 hs.1).2.2 a ha p' (by simp)) h4
    ·simp at ha; subst ha; exact h4
 ·exact hs.2.2 a ha b hb
theorem insI_next {l Z : List Int} {i k : Nat} {c p : Int} (h : InsI l i Z (k + 1)) (hc : Z[k + 1]? = some c) (hp : Z[k]? = some p) (hb : c < p) : InsI l i ((Z.set (k + 1) p).set k c) k := by
 obtain ⟨P, c', Q, T, rfl, hP, hQ, hperm, hs, hq⟩ := h;rcases List.eq_nil_or_concat P with rfl | ⟨P', p', rfl⟩
 ·simp at hP
 ·rw [List.concat_eq_append] at *;simp at hP;have hcc : c' = c := by
   rw [List.getElem?_append_right (by simp; omega)] at hc;simp [hP] at hc;exact hc
  have hpp : p' = p := by
   rw [List.append_assoc, List.getElem?_append_right (by omega)] at hp;simp [hP] at hp;exact hp
  subst hcc hpp;have e : (((P' ++ [p']) ++ c' :: (Q ++ T)).set (k + 1) p').set k c' = P' ++ c' :: ((p' :: Q) ++ T) := by
   subst hP;simp
  rw [e];refine ⟨P', c', p' :: Q, T, rfl, hP, by simp at hQ ⊢; omega, ?_, ?_, ?_⟩
  ·refine List.Perm.trans ?_ hperm;simp only [List.append_assoc, List.singleton_append, List.cons_append];exact List.Perm.append_left _ (List.Perm.swap _ _ _)
  ·simpa using hs
  ·intro q hqm;rcases List.mem_cons.1 hqm with rfl | hqm
   ·omega
   ·exact hq q hqm
theorem upI_start (l : List Int) : UpI l 1 l := by
 refine ⟨List.Perm.refl l, ?_⟩;cases l with
 | nil => simp
 | cons a l => simp
theorem asc_uniq : ∀ {l l' : List Int}, l.Perm l' -> (l.Pairwise fun a b => a <= b) -> (l'.Pairwise fun a b => a <= b) -> l = l'
 | [], l', h, _, _ => by have := h.length_eq; simp at this; exact (List.length_eq_zero_iff.1 this.symm).symm
 | a :: l, [], h, _, _ => by have := h.length_eq; simp at this
 | a :: l, b :: l', h, h2, h3 => by
  have hab : a = b := by
   have ha : a ∈ b :: l' := h.subset (by simp);have hb : b ∈ a :: l := h.symm.subset (by simp);rcases List.mem_cons.1 ha with e | ha
   ·exact e
   ·rcases List.mem_cons.1 hb with e | hb
    ·exact e.symm
    ·have := (List.pairwise_cons.1 h2).1 b hb;have := (List.pairwise_cons.1 h3).1 a ha;omega
  subst hab;rw [asc_uniq h.cons_inv (List.pairwise_cons.1 h2).2 (List.pairwise_cons.1 h3).2]
def ascI (l : List Int) : List Int := l.mergeSort (fun x y => decide (x <= y))
theorem ascI_perm (l : List Int) : (ascI l).Perm l := List.mergeSort_perm _ _
theorem ascI_le (l : List Int) : (ascI l).Pairwise (· <= ·) := by
 have := List.pairwise_mergeSort (le := fun x y : Int => decide (x <= y)) (fun a b c h1 h2 => by simp at *; omega) (fun a b => by simp; omega) l;exact this.imp fun h => by simpa using h
theorem upI_end {l Z : List Int} {i : Nat} (h : UpI l i Z) (hi : Z.length <= i) : Z = ascI l := by
 have h2 := h.2;rw [List.take_of_length_le (by omega)] at h2;exact asc_uniq (h.1.trans (ascI_perm l).symm) h2 (ascI_le l)

def zkb (l : List Run) : List Int := l.flatMap fun r => [r.a, r.b]
theorem zjo (l : List Run) : (zkb l).length = 2 * l.length := by
 induction l with
 | nil => rfl
 | cons r l ih => simp only [zkb, List.flatMap_cons, List.length_append] at *; simp only [List.length_cons, List.length_nil]; omega
theorem ends_take {l : List Run} {k : Nat} {r : Run} (h : l[k]? = some r) : zkb (l.take (k + 1)) = zkb (l.take k) ++ [r.a, r.b] := by
 rw [zat h]; simp [zkb]
def zmv (a b : List Run) : List Int := ascI (zkb a ++ zkb b)
theorem bnds_len (a b : List Run) : (zmv a b).length = 2 * a.length + 2 * b.length := by
 unfold zmv;rw [(ascI_perm _).length_eq, List.length_append, zjo, zjo]
theorem zod {a b : List Run} {r : Run} (h : r ∈ a \/ r ∈ b) : r.a ∈ zmv a b /\ r.b ∈ zmv a b := by
 unfold zmv;constructor <;> rw [(ascI_perm _).mem_iff, List.mem_append] <;> rcases h with h | h
 ·exact .inl (List.mem_flatMap.2 ⟨r, h, by simp⟩)
 ·exact .inr (List.mem_flatMap.2 ⟨r, h, by simp⟩)
 ·exact .inl (List.mem_flatMap.2 ⟨r, h, by simp⟩)
 ·exact .inr (List.mem_flatMap.2 ⟨r, h, by simp⟩)
def Gap (a b : List Run) (X Y : Int) : Prop := ∀ r, r ∈ a \/ r ∈ b -> (r.a <= X \/ Y <= r.a) /\ (r.b <= X \/ Y <= r.b)
theorem gap_of {a b : List Run} {i : Nat} {X Y : Int} (hX : (zmv a b)[i]? = some X) (hY : (zmv a b)[i + 1]? = some Y) : Gap a b X Y /\ X <= Y := by
 have hs := ascI_le (zkb a ++ zkb b);have key : ∀ e ∈ zmv a b, e <= X \/ Y <= e := fun e he => by
  obtain ⟨k, hk, rfl⟩ := List.mem_iff_getElem.1 he;obtain ⟨hi, rfl⟩ := List.getElem?_eq_some_iff.1 hX;obtain ⟨hj, rfl⟩ := List.getElem?_eq_some_iff.1 hY;rcases Nat.lt_trichotomy k i with h | h | h
  ·exact .inl (List.pairwise_iff_getElem.1 hs k i hk hi h)
  ·subst h; exact .inl (Int.le_refl _)
  ·rcases Nat.lt_or_eq_of_le (show i + 1 <= k from h) with h | h
   ·exact .inr (List.pairwise_iff_getElem.1 hs (i + 1) k hj hk h)
   ·subst h; exact .inr (Int.le_refl _)
 refine ⟨fun r hr => ⟨key _ (zod hr).1, key _ (zod hr).2⟩, ?_⟩;obtain ⟨hi, rfl⟩ := List.getElem?_eq_some_iff.1 hX;obtain ⟨hj, rfl⟩ := List.getElem?_eq_some_iff.1 hY;exact List.pairwise_iff_getElem.1 hs i (i + 1) hi hj (by omega)
theorem gap_in {l : List Run} {X Y z : Int} (h : ∀ r ∈ l, (r.a <= X \/ Y <= r.a) /\ (r.b <= X \/ Y <= r.b)) (h1 : X <= z) (h2 : z < Y) : inR l z = inR l X := by
 rw [Bool.eq_iff_iff, zai, zai];constructor
 ·rintro ⟨r, hr, h3, h4⟩;have := h r hr;exact ⟨r, hr, by omega, by omega⟩
 ·rintro ⟨r, hr, h3, h4⟩;have := h r hr;exact ⟨r, hr, by omega, by omega⟩
def zlv (f : Bool -> Bool -> Bool) (a b : List Run) (X : Int) (out : List Run) : Prop :=
 zfn out /\ (∀ r ∈ out, r.b <= X) /\ ∀ z, inR out z = (decide (z < X) && f (inR a z) (inR b z))
theorem zvt {l : List Run} {z : Int} (h : ∀ r ∈ l, z < r.a \/ r.b <= z) : inR l z = false := by
 rw [Bool.eq_false_iff]; intro h2;obtain ⟨r, hr, h3, h4⟩ := zai.1 h2;have := h r hr;omega
theorem comb_start {f : Bool -> Bool -> Bool} (hf : f false false = false) {a b : List Run} {X : Int} (hX : (zmv a b)[0]? = some X) : zlv f a b X [] := by
 have hs := ascI_le (zkb a ++ zkb b);obtain ⟨hi, rfl⟩ := List.getElem?_eq_some_iff.1 hX;have key : ∀ e ∈ zmv a b, (zmv a b)[0] <= e := fun e he => by
  obtain ⟨k, hk, rfl⟩ := List.mem_iff_getElem.1 he;rcases Nat.eq_zero_or_pos k with h | h
  ·subst h; exact Int.le_refl _
  ·exact List.pairwise_iff_getElem.1 hs 0 k hi hk h
 refine ⟨⟨by simp, by simp⟩, by simp, fun z => ?_⟩;by_cases hz : z < (zmv a b)[0]
 ·rw [zvt (l := a) fun r hr => .inl (by have := key _ (zod (.inl hr)).1; omega), zvt (l := b) fun r hr => .inl (by have := key _ (zod (.inr hr)).1; omega), hf];simp [inR]
 ·simp [inR, hz]
theorem comb_skip {f : Bool -> Bool -> Bool} {a b : List Run} {X Y : Int} {out : List Run} (h : zlv f a b X out) (hg : Gap a b X Y) (hXY : X <= Y) (hk : X = Y \/ f (inR a X) (inR b X) = false) : zlv f a b Y out := by
 obtain ⟨h1, h2, h3⟩ := h;refine ⟨h1, fun r hr => Int.le_trans (h2 r hr) hXY, fun z => ?_⟩;rw [h3];by_cases hz : z < X
 ·rw [decide_eq_true hz, decide_eq_true (show z < Y by omega)]
 ·rw [decide_eq_false hz];by_cases hy : z < Y
  ·rcases hk with hk | hk
   ·omega
   ·rw [gap_in (fun r hr => hg r (.inl hr)) (by omega) hy, gap_in (fun r hr => hg r (.inr hr)) (by omega) hy, hk]; simp
  ·rw [decide_eq_false hy]
theorem comb_val {f : Bool -> Bool -> Bool} {a b : List Run} {X Y : Int} (hg : Gap a b X Y) (hXY : X <= Y) (hk : f (inR a X) (inR b X) = true) (z : Int) :
  (decide (z < Y) && f (inR a z) (inR b z)) = ((decide (z < X) && f (inR a z) (inR b z)) || (decide (X <= z) && decide (z < Y))) := by
 by_cases hz : z < X
 ·rw [decide_eq_true hz, decide_eq_true (show z < Y by omega), decide_eq_false (show ¬ X <= z by omega)]; simp
 ·rw [decide_eq_false hz, decide_eq_true (show X <= z by omega)];by_cases hy : z < Y
  ·rw [gap_in (fun r hr => hg r (.inl hr)) (by omega) hy, gap_in (fun r hr => hg r (.inr hr)) (by omega) hy, hk]; simp
  ·rw [decide_eq_false hy]; simp
theorem comb_app {f : Bool -> Bool -> Bool} {a b : List Run} {X Y : Int} {out : List Run} (h : zlv f a b X out) (hg : Gap a b X Y) (hXY : X < Y) (hk : f (inR a X) (inR b X) = true) (hl : ∀ r, out[out.length - 1]? = some r -> r.b ≠ X) : zlv f a b Y (out ++ [⟨X, Y⟩]) := by
 obtain ⟨h1, h2, h3⟩ := h;refine ⟨⟨fun r hr => ?_, ?_⟩, fun r hr => ?_, fun z => ?_⟩
 ·rcases List.mem_append.1 hr with hr | hr
  ·exact h1.1 r hr
  ·simp at hr; subst hr; exact hXY
 ·rw [List.pairwise_append];refine ⟨h1.2, by simp, fun r hr s hs => ?_⟩;simp at hs; subst hs;have hle := h2 r hr;rcases List.eq_nil_or_concat out with rfl | ⟨o, q, rfl⟩
  ·cases hr
  ·rw [List.concat_eq_append] at *;have hq := hl q (by simp);have hqX := h2 q (by simp);rcases List.mem_append.1 hr with hr | hr
   ·have hw := (List.pairwise_append.1 h1.2).2.2 r hr q (by simp);have hqq := h1.1 q (by simp);simp only; omega
   ·simp at hr; subst hr; simp only; omega
 ·rcases List.mem_append.1 hr with hr | hr
  ·exact Int.le_trans (h2 r hr) (by omega)
  ·simp at hr; subst hr; exact Int.le_refl _
 ·rw [inR_app, h3, comb_val hg (by omega) hk]
theorem comb_join {f : Bool -> Bool -> Bool} {a b : List Run} {X Y : Int} {o : List Run} {q : Run} (h : zlv f a b X (o ++ [q])) (hg : Gap a b X Y) (hXY : X < Y) (hk : f (inR a X) (inR b X) = true) (hq : q.b = X) : zlv f a b Y (o ++ [⟨q.a, Y⟩]) := by
 obtain ⟨h1, h2, h3⟩ := h;have hqq := h1.1 q (by simp);have hp := List.pairwise_append.1 h1.2;refine ⟨⟨fun r hr => ?_, ?_⟩, fun r hr => ?_, fun z => ?_⟩
 ·rcases List.mem_append.1 hr with hr | hr
  ·exact h1.1 r (by simp [hr])
  ·simp at hr; subst hr; simp only; omega
 ·rw [List.pairwise_append];refine ⟨hp.1, by simp, fun r hr s hs => ?_⟩;simp at hs; subst hs;exact hp.2.2 r hr q (by simp)
 ·rcases List.mem_append.1 hr with hr | hr
  ·have := h2 r (by simp [hr]); omega
  ·simp at hr; subst hr; exact Int.le_refl _
 ·rw [comb_val hg (by omega) hk, <- h3, inR_app, inR_app, Bool.or_assoc]
  congr 1
  rw [Bool.eq_iff_iff];simp;omega
theorem comb_end {f : Bool -> Bool -> Bool} (hf : f false false = false) {a b : List Run} (ha : zal a = true) (hb : zal b = true) {n : Nat} {X : Int} {out : List Run} (hn : (zmv a b).length = n + 1) (hX : (zmv a b)[n]? = some X) (h : zlv f a b X out) : out = sweep f a b := by
 obtain ⟨h1, h2, h3⟩ := h;obtain ⟨s1, s2⟩ := zda hf ha hb;refine zqe h1 s1 fun z => ?_;rw [h3, s2];have hs := ascI_le (zkb a ++ zkb b);obtain ⟨hi, rfl⟩ := List.getElem?_eq_some_iff.1 hX;have key : ∀ e ∈ zmv a b, e <= (zmv a b)[n] := fun e he => by
  obtain ⟨k, hk, rfl⟩ := List.mem_iff_getElem.1 he;rcases Nat.lt_or_eq_of_le (show k <= n by omega) with h | h
  ·exact List.pairwise_iff_getElem.1 hs k n hk hi h
  ·subst h; exact Int.le_refl _
 by_cases hz : z < (zmv a b)[n]
 ·rw [decide_eq_true hz]; simp
 ·rw [decide_eq_false hz, zvt (l := a) fun r hr => .inr (by have := key _ (zod (.inl hr)).2; omega), zvt (l := b) fun r hr => .inr (by have := key _ (zod (.inr hr)).2; omega), hf]; rfl
theorem sweep_nil {f : Bool -> Bool -> Bool} (hf : f false false = false) {a b : List Run} (ha : zal a = true) (hb : zal b = true) (hn : (zmv a b).length = 0) : sweep f a b = [] := by
 rw [bnds_len] at hn;have h1 : a = [] := List.eq_nil_of_length_eq_zero (by omega);have h2 : b = [] := List.eq_nil_of_length_eq_zero (by omega);subst h1 h2;obtain ⟨s1, s2⟩ := zda hf ha hb;exact zqe s1 ⟨by simp, by simp⟩ fun z => by rw [s2]; simp [inR, hf]

def zdz (R : List Row) (i : Nat) (y : Int) : Nat := match R[i]? with
 | some v => if v.y = y then i + 1 else i
 | none => i
def zif (R : List Row) (i : Nat) (y : Int) : List Run := match R[i]? with
 | some v => if v.y = y then v.runs else []
 | none => []
def zkg (a b : List Row) (i k : Nat) : Int := match a[i]?, b[k]? with
 | some v, some w => if v.y <= w.y then v.y else w.y
 | some v, none => v.y
 | none, some w => w.y
 | none, none => 0
theorem side {R : List Row} (hR : zo R = true) {i : Nat} {y : Int} {ys : List Int} (h1 : ∀ w ∈ R.take i, w.y ∈ ys) (h0 : ∀ z ∈ ys, z < y) (h2 : ∀ w ∈ R.drop i, y <= w.y) :
  zy R y = zif R i y /\ (∀ w ∈ R.take (zdz R i y), w.y ∈ ys ++ [y]) /\ (∀ z ∈ ys ++ [y], ∀ w ∈ R.drop (zdz R i y), z < w.y) := by
 unfold zdz zif;have hno : ∀ w ∈ R.take i, w.y ≠ y := fun w hw e => by have := h0 _ (h1 w hw); omega
 cases h : R[i]? with
 | none =>
  have hl : R.length <= i := List.getElem?_eq_none_iff.1 h;rw [List.take_of_length_le hl] at hno h1;simp only;refine ⟨?_, fun w hw => ?_, fun z hz w hw => ?_⟩
  ·rcases zdn hR y with ⟨w, hw, e, _⟩ | ⟨_, e⟩
   ·exact absurd e (hno w hw)
   ·exact e
  ·exact List.mem_append_left _ (h1 w (List.mem_of_mem_take hw))
  ·rw [List.drop_eq_nil_of_le hl] at hw; cases hw
 | some v =>
  obtain ⟨hi, hv⟩ := List.getElem?_eq_some_iff.1 h;have hd : R.drop i = v :: R.drop (i + 1) := by rw [List.drop_eq_getElem_cons hi, hv]
  have hvR : v ∈ R := List.mem_of_getElem? h;have hp := ziw hR;rw [<- List.take_append_drop i R, hd] at hp;have hgt := (List.pairwise_cons.1 (List.pairwise_append.1 hp).2.1).1;have hvy := h2 v (by rw [hd]; simp);simp only;by_cases e : v.y = y
  ·rw [if_pos e, if_pos e];refine ⟨by rw [<- e]; exact zfp hR hvR, fun w hw => ?_, fun z hz w hw => ?_⟩
   ·rw [zat h] at hw;rcases List.mem_append.1 hw with hw | hw
    ·exact List.mem_append_left _ (h1 w hw)
    ·simp at hw; subst hw; simp [e]
   ·have := hgt w hw;rcases List.mem_append.1 hz with hz | hz
    ·have := h0 z hz; omega
    ·simp at hz; subst hz; omega
  ·rw [if_neg e, if_neg e];refine ⟨?_, fun w hw => List.mem_append_left _ (h1 w hw), fun z hz w hw => ?_⟩
   ·rcases zdn hR y with ⟨w, hw, e', _⟩ | ⟨_, e'⟩
    ·rw [<- List.take_append_drop i R, hd] at hw;rcases List.mem_append.1 hw with hw | hw
     ·exact absurd e' (hno w hw)
     ·rcases List.mem_cons.1 hw with rfl | hw
      ·exact absurd e' e
      ·have := hgt w hw; omega
    ·exact e'
   ·have hw' : y < w.y := by
     rw [hd] at hw;rcases List.mem_cons.1 hw with rfl | hw
     ·omega
     ·have := hgt w hw; omega
    rcases List.mem_append.1 hz with hz | hz
    ·have := h0 z hz; omega
    ·simp at hz; subst hz; exact hw'
def OpAt (f : Bool -> Bool -> Bool) (a b : List Row) (i k : Nat) (out : List Row) : Prop :=
 i <= a.length /\ k <= b.length /\ ∃ ys : List Int, ys.Pairwise (· < ·) /\ out = zmq f a b ys /\ ys.length <= i + k /\ (∀ w ∈ a.take i, w.y ∈ ys) /\ (∀ w ∈ b.take k, w.y ∈ ys) /\ (∀ z ∈ ys, ∀ w ∈ a.drop i, z < w.y) /\ (∀ z ∈ ys, ∀ w ∈ b.drop k, z < w.y)
theorem opAt_start (f : Bool -> Bool -> Bool) (a b : List Row) : OpAt f a b 0 0 [] :=
 ⟨Nat.zero_le _, Nat.zero_le _, [], by simp, by simp [zmq], by simp, by simp, by simp, by simp, by simp⟩
theorem drop_min {R : List Row} (hR : zo R = true) {i : Nat} {v : Row} (h : R[i]? = some v) : (∀ w ∈ R.drop i, v.y <= w.y) /\ v ∈ R.drop i := by
 obtain ⟨hi, hv⟩ := List.getElem?_eq_some_iff.1 h;have hd : R.drop i = v :: R.drop (i + 1) := by rw [List.drop_eq_getElem_cons hi, hv]
 have hp := ziw hR;rw [<- List.take_append_drop i R, hd] at hp;have hgt := (List.pairwise_cons.1 (List.pairwise_append.1 hp).2.1).1;rw [hd];refine ⟨fun w hw => ?_, by simp⟩;rcases List.mem_cons.1 hw with rfl | hw
 ·exact Int.le_refl _
 ·have := hgt w hw; omega
theorem zvd {R : List Row} {i : Nat} {y : Int} (h : i <= R.length) : zdz R i y <= R.length /\ i <= zdz R i y /\ zdz R i y <= i + 1 := by
 unfold zdz;cases e : R[i]? with
 | none => exact ⟨h, Nat.le_refl _, Nat.le_succ _⟩
 | some v =>
  have := (List.getElem?_eq_some_iff.1 e).1;simp only;split <;> omega
theorem drop_none {R : List Row} {i : Nat} (h : R[i]? = none) : R.drop i = [] := List.drop_eq_nil_of_le (List.getElem?_eq_none_iff.1 h)
theorem opAt_step {f : Bool -> Bool -> Bool} {a b : List Row} (ha : zo a = true) (hb : zo b = true) {i k : Nat} {out : List Row} (h : OpAt f a b i k out) (hn : i < a.length \/ k < b.length) :
  zy a (zkg a b i k) = zif a i (zkg a b i k) /\ zy b (zkg a b i k) = zif b k (zkg a b i k) /\ OpAt f a b (zdz a i (zkg a b i k)) (zdz b k (zkg a b i k)) (out ++ znk f a b (zkg a b i k)) /\ i + k < zdz a i (zkg a b i k) + zdz b k (zkg a b i k) := by
 obtain ⟨hi, hk, ys, p1, p2, p3, p4, p5, p6, p7⟩ := h;have key : ∃ y, zkg a b i k = y /\ (∀ w ∈ a.drop i, y <= w.y) /\ (∀ w ∈ b.drop k, y <= w.y) /\ (∀ z ∈ ys, z < y) /\ i + k < zdz a i y + zdz b k y := by
  have m1 := @zvd a i;have m2 := @zvd b k;unfold zkg;cases e1 : a[i]? with
  | none =>
   cases e2 : b[k]? with
   | none =>
    have := List.getElem?_eq_none_iff.1 e1;have := List.getElem?_eq_none_iff.1 e2;omega
   | some w =>
    obtain ⟨q1, q2⟩ := drop_min hb e2;refine ⟨w.y, rfl, by rw [drop_none e1]; simp, q1, fun z hz => p7 z hz w q2, ?_⟩;have : zdz b k w.y = k + 1 := by simp [zdz, e2]
    have := (m1 (y := w.y) hi).2.1; omega
  | some v =>
   obtain ⟨r1, r2⟩ := drop_min ha e1;cases e2 : b[k]? with
   | none =>
    refine ⟨v.y, rfl, r1, by rw [drop_none e2]; simp, fun z hz => p6 z hz v r2, ?_⟩;have : zdz a i v.y = i + 1 := by simp [zdz, e1]
    have := (m2 (y := v.y) hk).2.1; omega
   | some w =>
    obtain ⟨q1, q2⟩ := drop_min hb e2;by_cases hvw : v.y <= w.y
    ·refine ⟨v.y, by simp [hvw], r1, fun u hu => Int.le_trans hvw (q1 u hu), fun z hz => p6 z hz v r2, ?_⟩;have : zdz a i v.y = i + 1 := by simp [zdz, e1]
     have := (m2 (y := v.y) hk).2.1; omega
    ·refine ⟨w.y, by simp [hvw], fun u hu => Int.le_trans (by omega) (r1 u hu), q1, fun z hz => p7 z hz w q2, ?_⟩;have : zdz b k w.y = k + 1 := by simp [zdz, e2]
     have := (m1 (y := w.y) hi).2.1; omega
 obtain ⟨y, e, h1, h2, h0, hprog⟩ := key;rw [e];obtain ⟨s1, s2, s3⟩ := side ha p4 h0 h1;obtain ⟨t1, t2, t3⟩ := side hb p5 h0 h2;refine ⟨s1, t1, ⟨(zvd hi).1, (zvd hk).1, ys ++ [y], ?_, ?_, ?_, s2, t2, s3, t3⟩, hprog⟩
 ·rw [List.pairwise_append];refine ⟨p1, by simp, fun z hz u hu => ?_⟩;simp at hu; subst hu; exact h0 z hz
 ·rw [p2]; simp [zmq]
 ·simp; omega
theorem opAt_len {f : Bool -> Bool -> Bool} {a b : List Row} {i k : Nat} {out : List Row} (h : OpAt f a b i k out) : out.length <= a.length + b.length := by
 obtain ⟨hi, hk, ys, p1, p2, p3, p4, p5, p6, p7⟩ := h;have : ∀ l : List Int, (zmq f a b l).length <= l.length := fun l => by
  induction l with
  | nil => simp [zmq]
  | cons y l ih =>
   simp only [zmq, List.flatMap_cons, List.length_append, List.length_cons] at *;have : (znk f a b y).length <= 1 := by unfold znk; split <;> simp
   omega
 have := this ys;rw [<- p2] at this; omega
theorem opAt_end {f : Bool -> Bool -> Bool} (hf : f false false = false) {a b : List Row} (ha : zo a = true) (hb : zo b = true) {out : List Row} (h : OpAt f a b a.length b.length out) : out = opR f a b := by
 obtain ⟨hi, hk, ys, p1, p2, p3, p4, p5, p6, p7⟩ := h;rw [List.take_length] at p4 p5;rw [p2];exact opR_on hf ha hb p1 fun w hw => hw.elim (p4 w) (p5 w)

theorem keptI (x y : Bool) : PC Tryz.prog 177 [.int .i64 1, .bool x, .bool y] (.p (.bool (fI x y))) := by
 cases x <;> cases y
 ·refine pw cx Tryz.func177 Tryz.ntmps177 ?_;iterate 3 refine rg cx ?_
  refine awp_cd false (fun hb => ?_) fun hb => ?_
  ·simp at hb
  ·refine rg cx ?_;refine awp_cd true (fun hb => ?_) fun hb => ?_
   ·refine rg cx ?_;simp [push_cast, fI]
   ·simp at hb
 ·refine pw cx Tryz.func177 Tryz.ntmps177 ?_;iterate 3 refine rg cx ?_
  refine awp_cd false (fun hb => ?_) fun hb => ?_
  ·simp at hb
  ·refine rg cx ?_;refine awp_cd true (fun hb => ?_) fun hb => ?_
   ·refine rg cx ?_;simp [push_cast, fI]
   ·simp at hb
 ·refine pw cx Tryz.func177 Tryz.ntmps177 ?_;iterate 3 refine rg cx ?_
  refine awp_cd false (fun hb => ?_) fun hb => ?_
  ·simp at hb
  ·refine rg cx ?_;refine awp_cd true (fun hb => ?_) fun hb => ?_
   ·refine rg cx ?_;simp [push_cast, fI]
   ·simp at hb
 ·refine pw cx Tryz.func177 Tryz.ntmps177 ?_;iterate 3 refine rg cx ?_
  refine awp_cd false (fun hb => ?_) fun hb => ?_
  ·simp at hb
  ·refine rg cx ?_;refine awp_cd true (fun hb => ?_) fun hb => ?_
   ·refine rg cx ?_;simp [push_cast, fI]
   ·simp at hb
set_option maxHeartbeats 4000000 in
theorem bounds_ok (a b : List Run) (ha : a.length <= 1000000) (hb0 : b.length <= 1000000) : PC Tryz.prog 176 [zm a, zm b] (.p (.sl ((zmv a b).map zbu))) := by
 refine pw cx Tryz.func176 Tryz.ntmps176 ?_;iterate 3 refine rg cx ?_
 refine zu (β := Nat × List Int) (fun s => ⟨90, [(0, .d (zm a)), (1, .d (zm b)), (5, .hs 0 0 s.2.length), (6, .d (.int .i64 s.1))], [(0, some ⟨3, 1, dr (s.2.map zbu)⟩)], 1⟩) (fun s => s.1 <= a.length /\ s.2 = zkb (a.take s.1)) (fun s => a.length - s.1) (0, []) ?_ ⟨Nat.zero_le _, by simp [zkb]⟩ ?_
 ·refine wk [(0, none)]
 ·rintro ⟨k, Z⟩ ⟨hk, hZ⟩;simp only at hk hZ;refine Nav.imp ?_;refine rg cx ?_;refine awp_cd (decide ((k : Int) < a.length)) (fun hb => ?_) fun hb => ?_
  ·have hlt : k < a.length := by simpa using hb
   obtain ⟨r, hr⟩ := zap hlt;have e0 := wI ((k : Int) + 1);have hZl : Z.length = 2 * k := by rw [hZ, zjo, List.length_take]; omega
   have hZ8 : (Z.length + 2) * 8 <= 140737488355328 := by omega
   have hnx : zkb (a.take (k + 1)) = Z ++ [r.a, r.b] := by rw [ends_take hr, hZ]
   obtain ⟨ra, rb⟩ := r;simp only at hnx;refine rd cx mixed [] (fun K hK => by simp [push_cast, hr, hZ8, Run.row]; (repeat refine ob ?_); exact hK) ?_;refine rx cx [] (fun K hK => by simp [push_cast, e0]; (repeat refine ob ?_); exact hK) ?_;refine ⟨(k + 1, Z ++ [ra, rb]), ⟨hlt, hnx.symm⟩, by simp only; omega, ?_⟩;refine wk [(0, some 17)]
  ·have hge : k = a.length := by simp at hb; omega
   subst hge;rw [List.take_length] at hZ;have hAl : Z.length = 2 * a.length := by rw [hZ, zjo]
   refine rg cx ?_;refine zu (β := Nat × List Int) (fun s => ⟨90, [(1, .d (zm b)), (5, .hs 0 0 s.2.length), (7, .d (.int .i64 s.1))], [(0, some ⟨3, 1, dr (s.2.map zbu)⟩)], 1⟩) (fun s => s.1 <= b.length /\ s.2 = zkb a ++ zkb (b.take s.1)) (fun s => b.length - s.1) (0, Z) ?_ ⟨Nat.zero_le _, by simp [zkb] at hZ ⊢; exact hZ⟩ ?_
   ·refine wk [(0, some 0)]
   ·rintro ⟨k, Y⟩ ⟨hk, hY⟩;simp only at hk hY;refine Nav.imp ?_;refine rg cx ?_;refine awp_cd (decide ((k : Int) < b.length)) (fun hb => ?_) fun hb => ?_
    ·have hlt : k < b.length := by simpa using hb
     obtain ⟨r, hr⟩ := zap hlt;have e0 := wI ((k : Int) + 1);have hYl : Y.length = 2 * a.length + 2 * k := by rw [hY, List.length_append, zjo, zjo, List.length_take]; omega
     have hY8 : (Y.length + 2) * 8 <= 140737488355328 := by omega
     have hnx : zkb a ++ zkb (b.take (k + 1)) = Y ++ [r.a, r.b] := by rw [ends_take hr, hY]; simp
     obtain ⟨ra, rb⟩ := r;simp only at hnx;refine rd cx mixed [] (fun K hK => by simp [push_cast, hr, hY8, Run.row]; (repeat refine ob ?_); exact hK) ?_;refine rx cx [] (fun K hK => by simp [push_cast, e0]; (repeat refine ob ?_); exact hK) ?_;refine ⟨(k + 1, Y ++ [ra, rb]), ⟨hlt, hnx.symm⟩, by simp only; omega, ?_⟩;refine wk [(0, some 17)]
    ·have hge : k = b.length := by simp at hb; omega
     subst hge;rw [List.take_length] at hY;have hB : zmv a b = ascI Y := by rw [hY]; rfl
     have hYl : Y.length <= 4000000 := by rw [hY, List.length_append, zjo, zjo]; omega
     rw [hB];clear hB hY hZ;refine rg cx ?_;refine zu (β := Nat × List Int) (fun b => ⟨90, [(5, .hs 0 0 b.2.length), (8, .d (.int .i64 b.1))], [(0, some ⟨3, 1, dr (b.2.map zbu)⟩)], 1⟩) (fun b => UpI Y b.1 b.2 /\ 0 < b.1 /\ b.1 <= 4000001) (fun b => Y.length - b.1) (1, Y) ?_ ⟨upI_start Y, by omega, by omega⟩ ?_
     ·refine wk [(0, some 0)]
     ·rintro ⟨i, Z⟩ ⟨hZ, hi, hib⟩;simp only at hZ hi hib;have hZl : Z.length = Y.length := hZ.1.length_eq;refine Nav.imp ?_;refine rg cx ?_;refine awp_cd (decide ((i : Int) < Z.length)) (fun hb => ?_) fun hb => ?_
      ·have hlt : i < Z.length := by simpa using hb
       have e0 := wI ((i : Int) + 1);refine rg cx ?_;refine zu (β := Nat × List Int) (fun b => ⟨90, [(5, .hs 0 0 b.2.length), (8, .d (.int .i64 i)), (9, .d (.int .i64 b.1))], [(0, some ⟨3, 1, dr (b.2.map zbu)⟩)], 1⟩) (fun b => InsI Y i b.2 b.1) (fun b => b.1) (i, Z) ?_ (insI_start hZ hlt) ?_
       ·refine wk [(0, some 0)]
       ·rintro ⟨k, W⟩ hW;simp only at hW;have hWl : W.length = Y.length := by obtain ⟨P, c, Q, T, _, _, _, h, _⟩ := hW; exact h.length_eq
        have hki : k <= i := by obtain ⟨P, c, Q, T, _, h1, h2, _⟩ := hW; omega
        refine Nav.imp ?_;obtain ⟨c, hc⟩ : ∃ c, W[k]? = some c := zap (by omega);cases k with
        | zero =>
         refine rd cx mixed [] (fun K hK => by simp [push_cast, hc]; (repeat refine ob ?_); exact hK) ?_;refine awp_cd false (fun hb => ?_) fun hb => ?_
         ·simp at hb
         ·refine rx cx [] (fun K hK => by simp [push_cast, e0]; (repeat refine ob ?_); exact hK) ?_;refine ⟨(i + 1, W), ⟨insI_end hW (.inl rfl), by simp only; omega, by simp only; omega⟩, by simp only; omega, ?_⟩;refine wk [(0, some 0)]
        | succ k =>
         obtain ⟨p, hp⟩ : ∃ c, W[k]? = some c := zap (by omega);have e1 := wI (((k + 1 : Nat) : Int) - 1);have e2 : (((k + 1 : Nat) : Int) - 1) = k := by omega
         rw [e2] at e1;have e3 : (((k + 1 : Nat) : Int) - 1).toNat = k := by omega
         have e4 : (0 : Int) < (k : Int) + 1 := by omega
         refine rd cx mixed [] (fun K hK => by simp [push_cast, hc, hp, e1, e2, e3, e4]; (repeat refine ob ?_); exact hK) ?_;refine awp_cn (decide (c < p)) (by simp [push_cast, e4]) (fun hb => ?_) fun hb => ?_
         ·have hcp : c < p := by simpa using hb
          have hnx := insI_next hW hc hp hcp;obtain ⟨Y1, hY1⟩ : ∃ Y1, Y1 = W.set (k + 1) p := ⟨_, rfl⟩
          have hr1 : (dr (W.map zbu)).set (k + 1) [.d (.int .i64 p)] = dr (Y1.map zbu) := by rw [hY1]; simp [dr, List.map_set]
          have hk1 : Y1[k]? = some p := by rw [hY1, List.getElem?_set_ne (by omega)]; exact hp
          rw [<- hY1] at hnx;have hl1 : Y1.length = W.length := by rw [hY1]; simp
          obtain ⟨Y2, hY2⟩ : ∃ Y2, Y2 = Y1.set k c := ⟨_, rfl⟩
          have hr2 : (dr (Y1.map zbu)).set k [.d (.int .i64 c)] = dr (Y2.map zbu) := by rw [hY2]; simp [dr, List.map_set]
          rw [<- hY2] at hnx;have hl2 : Y2.length = W.length := by rw [hY2]; simp [hl1]
          clear hY1 hY2;refine rx cx [] (fun K hK => by simp [push_cast, hc]; (repeat refine ob ?_); exact hK) ?_;refine rx cx [] (fun K hK => by simp [push_cast, hp, hc, e1, e2, e3, hr1]; (repeat refine ob ?_); exact hK) ?_;rw [<- hl1];refine rx cx [] (fun K hK => by simp [push_cast, e1, e2, hk1, hr2]; (repeat refine ob ?_); exact hK) ?_;rw [hl1, <- hl2];refine rx cx [] (fun K hK => by simp [push_cast, e1, e2]; (repeat refine ob ?_); exact hK) ?_;refine ⟨(k, Y2), hnx, by simp only; omega, ?_⟩;refine wk [(0, some 0)]
         ·have hcp : ¬ c < p := by simpa using hb
          refine rx cx [] (fun K hK => by simp [push_cast, e0]; (repeat refine ob ?_); exact hK) ?_;refine ⟨(i + 1, W), ⟨insI_end hW (.inr ⟨c, p, hc, hp, hcp⟩), by simp only; omega, by simp only; omega⟩, by simp only; omega, ?_⟩;refine wk [(0, some 0)]
      ·have hge : Y.length <= i := by simp at hb; omega
       have hs := upI_end hZ (by omega);rw [<- hs];refine rg cx ?_;have ht : List.take Z.length (Z.map zbu) = Z.map zbu := List.take_of_length_le (by simp);simp [push_cast, ht]

set_option maxHeartbeats 4000000 in
theorem combined_ok (op : Int) (f : Bool -> Bool -> Bool) (hf : f false false = false) (hkp : ∀ x y, PC Tryz.prog 177 [.int .i64 op, .bool x, .bool y] (.p (.bool (f x y)))) (a b : List Run) (ha : a.length <= 1000000) (hb0 : b.length <= 1000000) (va : zal a = true) (vb : zal b = true) :
  PC Tryz.prog 123 [.int .i64 op, zm a, zm b] (.p (zm (sweep f a b))) := by
 have c1 := bounds_ok a b ha hb0;have hbl := bnds_len a b;have hstart := fun X hX => @comb_start f hf a b X hX;have hend := fun n X out h1 h2 h3 => @comb_end f hf a b va vb n X out h1 h2 h3;have hgap := fun i X Y h1 h2 => @gap_of a b i X Y h1 h2;have hnil := @sweep_nil f hf a b va vb;generalize zmv a b = L at *;generalize sweep f a b = res at *;refine pw cx Tryz.func123 Tryz.ntmps123 ?_;refine rg cx ?_;refine rx cx [(2, .p (.sl (L.map zbu)))] (fun K hK => by simp [push_cast, c1]; (repeat refine ob ?_); exact hK) ?_;refine rg cx ?_;refine rg cx ?_;refine zu (β := Nat × List Run) (fun s => ⟨89, [(0, .d (.int .i64 op)), (1, .d (zm a)), (2, .d (zm b)), (7, .d (.sl (L.map zbu))), (8, .hs 0 0 s.2.length), (9, .d (.int .i64 s.1))], [(0, some ⟨85, 2, dr (s.2.map Run.row)⟩)], 1⟩) (fun s => s.2.length <= s.1 /\ (L.length = 0 -> s.2 = []) /\ (0 < L.length -> s.1 < L.length) /\ s.1 <= L.length /\ ∀ X, L[s.1]? = some X -> zlv f a b X s.2) (fun s => L.length - s.1) (0, []) ?_ ⟨by simp, by simp, by simp, by simp, hstart⟩ ?_
 ·refine wk [(0, none)]
 ·rintro ⟨i, out⟩ ⟨hol, ho0, hi, hile, hat⟩;simp only at hol ho0 hi hile hat;refine Nav.imp ?_;have e0 := wI ((i : Int) + 1);refine rx cx [] (fun K hK => by simp [push_cast, e0]; (repeat refine ob ?_); exact hK) ?_;refine awp_cd (decide ((i : Int) + 1 < L.length)) (fun hb => ?_) fun hb => ?_
  ·have hlt : i + 1 < L.length := by simp at hb; omega
   obtain ⟨X, hX⟩ : ∃ X, L[i]? = some X := zap (by omega);obtain ⟨Y, hY⟩ : ∃ Y, L[i + 1]? = some Y := zap hlt;obtain ⟨hg, hXY⟩ := hgap i X Y hX hY;have hcm := hat X hX;have hi1 : ((i : Int) + 1).toNat = i + 1 := by omega
   have hi2 : (0 : Int) <= (i : Int) + 1 := by omega
   have hlti : (i : Int) + 1 < L.length := by omega
   have hnext : ∀ out', out'.length <= i + 1 -> zlv f a b Y out' -> (out'.length <= i + 1 /\ (L.length = 0 -> out' = []) /\ (0 < L.length -> i + 1 < L.length) /\ i + 1 <= L.length /\ ∀ X, L[i + 1]? = some X -> zlv f a b X out') := fun out' h1 h2 => ⟨h1, fun h => by omega, fun _ => hlt, by omega, fun Z hZ => by rw [hY] at hZ; cases hZ; exact h2⟩
   clear hat hgap hstart;by_cases hne : X = Y
   ·have hn := hnext out (by omega) (comb_skip hcm hg hXY (.inl hne));subst hne;refine rd cx mixed [(17, .skip), (23, .skip), (24, .skip)] (fun K hK => by simp [push_cast, hX, hY, e0, hi1, hi2, hlti]; (repeat refine ob ?_); exact hK) ?_;refine awp_cd true (fun hb => ?_) fun hb => ?_
    ·refine rx cx [] (fun K hK => by simp [push_cast, e0]; (repeat refine ob ?_); exact hK) ?_;refine ⟨(i + 1, out), hn, by simp only; omega, ?_⟩;refine wk [(0, some 0)]
    ·simp at hb
   ·have c2 := inside18_ok a X ha;have c3 := inside18_ok b X hb0;have c4 := hkp (inR a X) (inR b X);generalize hv : f (inR a X) (inR b X) = v at c4;generalize inR a X = pa at c2 c4;generalize inR b X = pb at c3 c4;refine rd cx mixed [(17, .p (.bool pa)), (23, .p (.bool pb)), (24, .p (.bool v))] (fun K hK => by simp [push_cast, hX, hY, e0, hi1, hi2, hlti, hne, c2, c3, c4]; (repeat refine ob ?_); exact hK) ?_;refine awp_cn (!v) (by simp [push_cast, hne]) (fun hb => ?_) fun hb => ?_
    ·have hv2 : v = false := by simpa using hb
     rw [hv2] at hv;have hn := hnext out (by omega) (comb_skip hcm hg hXY (.inr hv));refine rx cx [] (fun K hK => by simp [push_cast, e0]; (repeat refine ob ?_); exact hK) ?_;refine ⟨(i + 1, out), hn, by simp only; omega, ?_⟩;refine wk [(0, some 0)]
    ·have hv2 : v = true := by simpa using hb
     rw [hv2] at hv;have hlt2 : X < Y := by omega
     have hO16 : (out.length + 1) * 16 <= 140737488355328 := by omega
     refine rg cx ?_;rcases List.eq_nil_or_concat out with rfl | ⟨o, q, rfl⟩
     ·have hn := hnext _ (by simp) (comb_app hcm hg hlt2 hv (by simp));refine rd cx mixed [] (fun K hK => by simp [push_cast, hX, hi1]; (repeat refine ob ?_); exact hK) ?_;refine awp_cd false (fun hb => ?_) fun hb => ?_
      ·simp at hb
      ·refine rd cx mixed [] (fun K hK => by simp [push_cast, hX, hY, e0, hi1, hi2, hlti]; (repeat refine ob ?_); exact hK) ?_;refine rx cx [] (fun K hK => by simp [push_cast, e0]; (repeat refine ob ?_); exact hK) ?_;refine ⟨(i + 1, [⟨X, Y⟩]), hn, by simp only; omega, ?_⟩;refine wq [(0, some 63)] (by simp [upT, upH, upR, upL, up, push_cast, Run.row])
     ·rw [List.concat_eq_append] at *;have hz : (o ++ [q])[o.length]? = some q := by simp
      have hlen : (o ++ [q]).length = o.length + 1 := by simp
      obtain ⟨qa, qb⟩ := q;have hset : (dr ((o ++ [(⟨qa, qb⟩ : Run)]).map Run.row)).set o.length [.d (.int .i64 qa), .d (.int .i64 Y)] = dr ((o ++ [(⟨qa, Y⟩ : Run)]).map Run.row) := by
       simp [dr, List.map_set, Run.row]
      have hjoin := fun h => @comb_join f a b X Y o ⟨qa, qb⟩ hcm hg hlt2 hv h;have happ := fun h => @comb_app f a b X Y (o ++ [⟨qa, qb⟩]) hcm hg hlt2 hv h;simp only at hjoin;have e1 := wI (((o.length + 1 : Nat) : Int) - 1);have e2 : (((o.length + 1 : Nat) : Int) - 1) = o.length := by omega
      rw [e2] at e1;have e3 : (0 : Int) < (o.length : Int) + 1 := by omega
      have hjl : (o ++ [(⟨qa, Y⟩ : Run)]).length = o.length + 1 := by simp
      generalize hJ : o ++ [(⟨qa, Y⟩ : Run)] = J at *;generalize hA : o ++ [(⟨qa, qb⟩ : Run)] = A at *;rw [hlen];refine rd cx mixed [] (fun K hK => by simp [push_cast, hX, hz, hi1, e1, e2, e3, Run.row]; (repeat refine ob ?_); exact hK) ?_;refine awp_cn (qb == X) (by simp [push_cast, e3]) (fun hb => ?_) fun hb => ?_
      ·have hq : qb = X := by simpa using hb
       have hn := hnext J (by omega) (hjoin hq);refine rx cx [] (fun K hK => by simp [push_cast, hY, hz, e0, e1, e2, e3, hi1, hi2, hlti, Run.row, hset]; (repeat refine ob ?_); exact hK) ?_;refine rx cx [] (fun K hK => by simp [push_cast, e0]; (repeat refine ob ?_); exact hK) ?_;refine ⟨(i + 1, J), hn, by simp only; omega, ?_⟩;refine wq [(0, some 0)] (by simp [upT, upH, upR, upL, up, push_cast, Run.row, hjl])
      ·have hq : ¬ qb = X := by simpa using hb
       have hn := hnext (A ++ [⟨X, Y⟩]) (by simp; omega) (happ (by
        intro r hr;rw [hlen, Nat.add_sub_cancel, hz] at hr;cases hr; exact hq))
       rw [<- hlen];refine rd cx mixed [] (fun K hK => by simp [push_cast, hX, hY, e0, hi1, hi2, hlti, hO16]; (repeat refine ob ?_); exact hK) ?_;refine rx cx [] (fun K hK => by simp [push_cast, e0]; (repeat refine ob ?_); exact hK) ?_;refine ⟨(i + 1, A ++ [⟨X, Y⟩]), hn, by simp only; omega, ?_⟩;refine wq [(0, some 63)] (by simp [upT, upH, upR, upL, up, push_cast, Run.row])
  ·have hge : L.length <= i + 1 := by simp at hb; omega
   have hres : out = res := by
    rcases Nat.eq_zero_or_pos L.length with h | h
    ·rw [ho0 h, hnil h]
    ·obtain ⟨X, hX⟩ : ∃ X, L[i]? = some X := zap (hi h);exact hend i X out (by have := hi h; omega) hX (hat X hX)
   subst hres;refine rg cx ?_;have ht : List.take out.length (out.map Run.row) = out.map Run.row := List.take_of_length_le (by simp);simp [push_cast, ht]

theorem sideAV (R : List Row) (i : Nat) (y : Int) : ∃ P : AV, ((R[i]? = none /\ P = .nl /\ zdz R i y = i) \/ (∃ v, R[i]? = some v /\ ¬ v.y = y /\ P = .nl /\ zdz R i y = i) \/ (∃ v, R[i]? = some v /\ v.y = y /\ P = .d (zm v.runs) /\ zdz R i y = i + 1)) /\ ((P = .nl /\ zif R i y = []) \/ P = .d (zm (zif R i y))) := by
 cases h : R[i]? with
 | none => exact ⟨.nl, .inl ⟨rfl, rfl, by simp [zdz, h]⟩, .inl ⟨rfl, by simp [zif, h]⟩⟩
 | some v =>
  by_cases e : v.y = y
  ·exact ⟨.d (zm v.runs), .inr (.inr ⟨v, rfl, e, rfl, by simp [zdz, h, e]⟩), .inr (by simp [zif, h, e])⟩
  ·exact ⟨.nl, .inr (.inl ⟨v, rfl, e, rfl, by simp [zdz, h, e]⟩), .inl ⟨rfl, by simp [zif, h, e]⟩⟩
theorem runsAt_len {R : List Row} (h : zbw R) (i : Nat) (y : Int) : (zif R i y).length <= 1000000 := by
 unfold zif;split
 ·rename_i v hv;split
  ·exact h.2 v (List.mem_of_getElem? hv)
  ·simp
 ·simp

set_option maxHeartbeats 4000000 in
theorem operated_big (op : Int) (f : Bool -> Bool -> Bool) (hf : f false false = false) (hkp : ∀ x y, PC Tryz.prog 177 [.int .i64 op, .bool x, .bool y] (.p (.bool (f x y)))) (a b : List Row) (hA : zqd a) (hB : zqd b) :
  PC Tryz.prog 60 [.int .i64 op, .agg (zp a), .agg (zp b)] (.p (.agg (zp (opR f a b)))) := by
 have c1 := zib a hA;have c2 := zib b hB;have hop : opR f a b = if zo a && zo b then zmq f a b (zki (zwx a b)) else [] := rfl
 cases ha : zo a with
 | false =>
  rw [ha] at c1;have h0 : opR f a b = [] := by rw [hop, ha]; simp
  rw [h0];refine pw cx Tryz.func60 Tryz.ntmps60 ?_;refine rg cx ?_;refine rg cx ?_;refine rx cx [(1, .p (.bool false)), (5, .skip)] (fun K hK => by simp [push_cast, c1]; (repeat refine ob ?_); exact hK) ?_;refine awp_cd true (fun hb => ?_) fun hb => ?_
  ·refine rg cx ?_;simp [push_cast]
  ·simp at hb
 | true =>
  rw [ha] at c1;cases hb0 : zo b with
  | false =>
   rw [hb0] at c2;have h0 : opR f a b = [] := by rw [hop, ha, hb0]; simp
   rw [h0];refine pw cx Tryz.func60 Tryz.ntmps60 ?_;refine rg cx ?_;refine rg cx ?_;refine rx cx [(1, .p (.bool true)), (5, .p (.bool false))] (fun K hK => by simp [push_cast, c1, c2]; (repeat refine ob ?_); exact hK) ?_;refine awp_cd true (fun hb => ?_) fun hb => ?_
   ·refine rg cx ?_;simp [push_cast]
   ·simp at hb
  | true =>
   replace hA := zbg ha
   replace hB := zbg hb0
   have hal := hA.1;have hbl := hB.1;rw [hb0] at c2;have hend := fun out h => @opAt_end f hf a b ha hb0 out h;have hstart := opAt_start f a b;clear hop;generalize opR f a b = res at *;refine pw cx Tryz.func60 Tryz.ntmps60 ?_;refine rg cx ?_;refine rg cx ?_;refine rx cx [(1, .p (.bool true)), (5, .p (.bool true))] (fun K hK => by simp [push_cast, c1, c2]; (repeat refine ob ?_); exact hK) ?_;refine awp_cd false (fun hb => ?_) fun hb => ?_
   ·simp at hb
   ·refine rg cx ?_;refine zu (β := Nat × Nat × List Row) (fun s => ⟨136, [(0, .d (.int .i64 op)), (4, .ptr 0 0 0), (5, .ptr 1 0 0), (6, .ptr 2 0 0), (7, .ptr 3 0 0), (8, .d (.int .i64 s.1)), (9, .d (.int .i64 s.2.1))], [(0, some ⟨24, 1, [(zp a).map .d]⟩), (1, some ⟨24, 1, [(zp b).map .d]⟩), (2, some ⟨24, 1, [[.nl]]⟩), (3, some ⟨24, 1, [[.hs 4 0 s.2.2.length]]⟩), (4, some ⟨65, 2, dr (s.2.2.map Row.row)⟩)], 5⟩) (fun s => OpAt f a b s.1 s.2.1 s.2.2) (fun s => a.length + b.length - (s.1 + s.2.1)) (0, 0, []) ?_ hstart ?_
    ·refine wk [(0, some 0), (1, some 1), (2, some 2), (3, some 3), (4, none)]
    ·rintro ⟨i, k, Z⟩ hat;simp only at hat;refine Nav.imp ?_;have hile := hat.1;have hkle := hat.2.1;have hZl : Z.length <= 2000000 := by have := opAt_len hat; omega
     have hZ32 : (Z.length + 1) * 32 <= 140737488355328 := by omega
     have e1 := wI ((i : Int) + 1);have e2 := wI ((k : Int) + 1);by_cases hn : i < a.length \/ k < b.length
     ·obtain ⟨s1, s2, s3, s4⟩ := opAt_step ha hb0 hat hn;obtain ⟨y, hy⟩ : ∃ y, zkg a b i k = y := ⟨_, rfl⟩
      rw [hy] at s1 s2 s3 s4;obtain ⟨P, hPs, hPp⟩ := sideAV a i y;obtain ⟨Q, hQs, hQp⟩ := sideAV b k y;have hlp := runsAt_len hA i y;have hlq := runsAt_len hB k y;have hvp := zdb ha y;have hvq := zdb hb0 y;have hor : znk f a b y = if sweep f (zy a y) (zy b y) = [] then [] else [⟨y, sweep f (zy a y) (zy b y)⟩] := rfl
      rw [s1] at hvp hor;rw [s2] at hvq hor;rw [hor] at s3;clear hor s1 s2;generalize zdz a i y = i' at *;generalize zdz b k y = k' at *;generalize zif a i y = p at *;generalize zif b k y = q at *;have g1 := combined_ok op f hf hkp p q hlp hlq hvp hvq;generalize sweep f p q = r at *;apply cut_
      ·intro key;cases hAi : a[i]? with
       | some v =>
        have hi1 : i < a.length := (List.getElem?_eq_some_iff.1 hAi).1;have hav := (List.getElem?_eq_some_iff.1 hAi).2;refine rx cx [] (fun K hK => by simp [push_cast, hi1]; (repeat refine ob ?_); exact hK) ?_;refine awp_cn true (by simp [push_cast, hi1]) (fun hb => ?_) fun hb => ?_
        ·refine rg cx ?_;refine rg cx ?_;cases hBk : b[k]? with
         | some w =>
          have hk1 : k < b.length := (List.getElem?_eq_some_iff.1 hBk).1;have hbw := (List.getElem?_eq_some_iff.1 hBk).2;have hk2 : ¬ k = b.length := by (try clear hPs); (try clear hQs); omega
          have hk3 : ((k : Int) == (b.length : Int)) = false := by (try clear hPs); (try clear hQs); simp; omega
          refine rd cx mixed [] (fun K hK => by simp [push_cast, hi1, hk1, hk2, hk3, hAi, hBk, hav, hbw, Row.row]; (repeat refine ob ?_); exact hK) ?_;refine awp_cn (decide (v.y <= w.y)) (by simp [push_cast, hi1, hk1, hk2, hk3]) (fun hb => ?_) fun hb => ?_
          ·have hvw : v.y <= w.y := by simpa using hb
           have hyv : v.y = y := by rw [<- hy]; simp [zkg, hAi, hBk, hvw]
           refine rx cx [] (fun K hK => by simp [push_cast, hi1, hAi, hav, Row.row]; (repeat refine ob ?_); exact hK) ?_;refine zbf (s' := ⟨136, [(0, .d (.int .i64 op)), (4, .ptr 0 0 0), (5, .ptr 1 0 0), (6, .ptr 2 0 0), (7, .ptr 3 0 0), (8, .d (.int .i64 i)), (9, .d (.int .i64 k)), (10, .d (.int .i64 y)), (11, .nl), (12, .nl)], [(0, some ⟨24, 1, [(zp a).map .d]⟩), (1, some ⟨24, 1, [(zp b).map .d]⟩), (2, some ⟨24, 1, [[.nl]]⟩), (3, some ⟨24, 1, [[.hs 4 0 Z.length]]⟩), (4, some ⟨65, 2, dr (Z.map Row.row)⟩)], 5⟩) ?_ key.h;refine wq [(0, some 0), (1, some 1), (2, some 2), (3, some 3), (4, some 4)] (by simp [upT, upH, upR, upL, up, push_cast, hyv])
          ·have hvw : ¬ v.y <= w.y := by simpa using hb
           have hyv : w.y = y := by rw [<- hy]; simp [zkg, hAi, hBk, hvw]
           refine rx cx [] (fun K hK => by simp [push_cast, hk1, hBk, hbw, Row.row]; (repeat refine ob ?_); exact hK) ?_;refine zbf (s' := ⟨136, [(0, .d (.int .i64 op)), (4, .ptr 0 0 0), (5, .ptr 1 0 0), (6, .ptr 2 0 0), (7, .ptr 3 0 0), (8, .d (.int .i64 i)), (9, .d (.int .i64 k)), (10, .d (.int .i64 y)), (11, .nl), (12, .nl)], [(0, some ⟨24, 1, [(zp a).map .d]⟩), (1, some ⟨24, 1, [(zp b).map .d]⟩), (2, some ⟨24, 1, [[.nl]]⟩), (3, some ⟨24, 1, [[.hs 4 0 Z.length]]⟩), (4, some ⟨65, 2, dr (Z.map Row.row)⟩)], 5⟩) ?_ key.h;refine wq [(0, some 0), (1, some 1), (2, some 2), (3, some 3), (4, some 4)] (by simp [upT, upH, upR, upL, up, push_cast, hyv])
         | none =>
          have hk1 : k = b.length := by have := List.getElem?_eq_none_iff.1 hBk; (try clear hPs); (try clear hQs); omega
          have hyv : v.y = y := by rw [<- hy]; simp [zkg, hAi, hBk]
          refine rd cx mixed [] (fun K hK => by simp [push_cast, hi1, hk1, hAi, hav, Row.row]; (repeat refine ob ?_); exact hK) ?_;refine awp_cn true (by simp [push_cast, hi1, hk1]) (fun hb => ?_) fun hb => ?_
          ·refine rx cx [] (fun K hK => by simp [push_cast, hi1, hAi, hav, Row.row]; (repeat refine ob ?_); exact hK) ?_;refine zbf (s' := ⟨136, [(0, .d (.int .i64 op)), (4, .ptr 0 0 0), (5, .ptr 1 0 0), (6, .ptr 2 0 0), (7, .ptr 3 0 0), (8, .d (.int .i64 i)), (9, .d (.int .i64 k)), (10, .d (.int .i64 y)), (11, .nl), (12, .nl)], [(0, some ⟨24, 1, [(zp a).map .d]⟩), (1, some ⟨24, 1, [(zp b).map .d]⟩), (2, some ⟨24, 1, [[.nl]]⟩), (3, some ⟨24, 1, [[.hs 4 0 Z.length]]⟩), (4, some ⟨65, 2, dr (Z.map Row.row)⟩)], 5⟩) ?_ key.h;refine wq [(0, some 0), (1, some 1), (2, some 2), (3, some 3), (4, some 4)] (by simp [upT, upH, upR, upL, up, push_cast, hyv, hk1])
          ·simp at hb
        ·simp at hb
       | none =>
        have hi1 : i = a.length := by have := List.getElem?_eq_none_iff.1 hAi; (try clear hPs); (try clear hQs); omega
        have hi2 : ¬ i < a.length := by (try clear hPs); (try clear hQs); omega
        have hk1 : k < b.length := by (try clear hPs); (try clear hQs); omega
        obtain ⟨w, hBk⟩ : ∃ w, b[k]? = some w := zap hk1;have hbw := (List.getElem?_eq_some_iff.1 hBk).2;have hk2 : ¬ k = b.length := by (try clear hPs); (try clear hQs); omega
        have hk3 : ((k : Int) == (b.length : Int)) = false := by (try clear hPs); (try clear hQs); simp; omega
        have hyv : w.y = y := by rw [<- hy]; simp [zkg, hAi, hBk]
        refine rx cx [] (fun K hK => by simp [push_cast, hi2, hk1]; (repeat refine ob ?_); exact hK) ?_;refine awp_cn true (by simp [push_cast, hi2, hk1]) (fun hb => ?_) fun hb => ?_
        ·refine rg cx ?_;refine rg cx ?_;refine rd cx mixed [] (fun K hK => by simp [push_cast, hi2, hk1, hk2, hk3]; (repeat refine ob ?_); exact hK) ?_;refine awp_cn false (by simp [push_cast, hi2, hk1, hk2, hk3]) (fun hb => ?_) fun hb => ?_
         ·simp at hb
         ·refine rx cx [] (fun K hK => by simp [push_cast, hk1, hBk, hbw, Row.row]; (repeat refine ob ?_); exact hK) ?_;refine zbf (s' := ⟨136, [(0, .d (.int .i64 op)), (4, .ptr 0 0 0), (5, .ptr 1 0 0), (6, .ptr 2 0 0), (7, .ptr 3 0 0), (8, .d (.int .i64 i)), (9, .d (.int .i64 k)), (10, .d (.int .i64 y)), (11, .nl), (12, .nl)], [(0, some ⟨24, 1, [(zp a).map .d]⟩), (1, some ⟨24, 1, [(zp b).map .d]⟩), (2, some ⟨24, 1, [[.nl]]⟩), (3, some ⟨24, 1, [[.hs 4 0 Z.length]]⟩), (4, some ⟨65, 2, dr (Z.map Row.row)⟩)], 5⟩) ?_ key.h;refine wq [(0, some 0), (1, some 1), (2, some 2), (3, some 3), (4, some 4)] (by simp [upT, upH, upR, upL, up, push_cast, hyv])
        ·simp at hb
      ·refine Nav.imp ?_;apply cut_
       ·intro key;rcases hPs with ⟨hAi, hP, hi'⟩ | ⟨v, hAi, hvy, hP, hi'⟩ | ⟨v, hAi, hvy, hP, hi'⟩
        ·have hi2 : ¬ i < a.length := by have := List.getElem?_eq_none_iff.1 hAi; (try clear hPs); (try clear hQs); omega
         refine rx cx [] (fun K hK => by simp [push_cast, hi2]; (repeat refine ob ?_); exact hK) ?_;refine awp_cn false (by simp [push_cast, hi2]) (fun hb => ?_) fun hb => ?_
         ·simp at hb
         ·refine zbf (s' := ⟨136, [(0, .d (.int .i64 op)), (4, .ptr 0 0 0), (5, .ptr 1 0 0), (6, .ptr 2 0 0), (7, .ptr 3 0 0), (8, .d (.int .i64 i')), (9, .d (.int .i64 k)), (10, .d (.int .i64 y)), (11, P), (12, .nl)], [(0, some ⟨24, 1, [(zp a).map .d]⟩), (1, some ⟨24, 1, [(zp b).map .d]⟩), (2, some ⟨24, 1, [[.nl]]⟩), (3, some ⟨24, 1, [[.hs 4 0 Z.length]]⟩), (4, some ⟨65, 2, dr (Z.map Row.row)⟩)], 5⟩) ?_ key.h;refine wq [(0, some 0), (1, some 1), (2, some 2), (3, some 3), (4, some 4)] (by simp [upT, upH, upR, upL, up, push_cast, hP, hi'])
        ·have hi1 : i < a.length := (List.getElem?_eq_some_iff.1 hAi).1;have hav := (List.getElem?_eq_some_iff.1 hAi).2;refine rx cx [] (fun K hK => by simp [push_cast, hi1, hAi, hav, hvy, Row.row]; (repeat refine ob ?_); exact hK) ?_;refine awp_cn false (by simp [push_cast, hi1, hvy]) (fun hb => ?_) fun hb => ?_
         ·simp at hb
         ·refine zbf (s' := ⟨136, [(0, .d (.int .i64 op)), (4, .ptr 0 0 0), (5, .ptr 1 0 0), (6, .ptr 2 0 0), (7, .ptr 3 0 0), (8, .d (.int .i64 i')), (9, .d (.int .i64 k)), (10, .d (.int .i64 y)), (11, P), (12, .nl)], [(0, some ⟨24, 1, [(zp a).map .d]⟩), (1, some ⟨24, 1, [(zp b).map .d]⟩), (2, some ⟨24, 1, [[.nl]]⟩), (3, some ⟨24, 1, [[.hs 4 0 Z.length]]⟩), (4, some ⟨65, 2, dr (Z.map Row.row)⟩)], 5⟩) ?_ key.h;refine wq [(0, some 0), (1, some 1), (2, some 2), (3, some 3), (4, some 4)] (by simp [upT, upH, upR, upL, up, push_cast, hP, hi'])
        ·have hi1 : i < a.length := (List.getElem?_eq_some_iff.1 hAi).1;have hav := (List.getElem?_eq_some_iff.1 hAi).2;refine rx cx [] (fun K hK => by simp [push_cast, hi1, hAi, hav, hvy, Row.row]; (repeat refine ob ?_); exact hK) ?_;refine awp_cn true (by simp [push_cast, hi1, hvy]) (fun hb => ?_) fun hb => ?_
         ·refine rx cx [] (fun K hK => by simp [push_cast, hi1, hAi, hav, Row.row]; (repeat refine ob ?_); exact hK) ?_;refine rx cx [] (fun K hK => by simp [push_cast, e1]; (repeat refine ob ?_); exact hK) ?_;refine zbf (s' := ⟨136, [(0, .d (.int .i64 op)), (4, .ptr 0 0 0), (5, .ptr 1 0 0), (6, .ptr 2 0 0), (7, .ptr 3 0 0), (8, .d (.int .i64 i')), (9, .d (.int .i64 k)), (10, .d (.int .i64 y)), (11, P), (12, .nl)], [(0, some ⟨24, 1, [(zp a).map .d]⟩), (1, some ⟨24, 1, [(zp b).map .d]⟩), (2, some ⟨24, 1, [[.nl]]⟩), (3, some ⟨24, 1, [[.hs 4 0 Z.length]]⟩), (4, some ⟨65, 2, dr (Z.map Row.row)⟩)], 5⟩) ?_ key.h;refine wq [(0, some 0), (1, some 1), (2, some 2), (3, some 3), (4, some 4)] (by simp [upT, upH, upR, upL, up, push_cast, hP, hi'])
         ·simp at hb
       ·refine Nav.imp ?_;apply cut_
        ·intro key;rcases hQs with ⟨hBk, hQ, hk'⟩ | ⟨v, hBk, hvy, hQ, hk'⟩ | ⟨v, hBk, hvy, hQ, hk'⟩
         ·have hi2 : ¬ k < b.length := by have := List.getElem?_eq_none_iff.1 hBk; (try clear hPs); (try clear hQs); omega
          refine rx cx [] (fun K hK => by simp [push_cast, hi2]; (repeat refine ob ?_); exact hK) ?_;refine awp_cn false (by simp [push_cast, hi2]) (fun hb => ?_) fun hb => ?_
          ·simp at hb
          ·refine zbf (s' := ⟨136, [(0, .d (.int .i64 op)), (4, .ptr 0 0 0), (5, .ptr 1 0 0), (6, .ptr 2 0 0), (7, .ptr 3 0 0), (8, .d (.int .i64 i')), (9, .d (.int .i64 k')), (10, .d (.int .i64 y)), (11, P), (12, Q)], [(0, some ⟨24, 1, [(zp a).map .d]⟩), (1, some ⟨24, 1, [(zp b).map .d]⟩), (2, some ⟨24, 1, [[.nl]]⟩), (3, some ⟨24, 1, [[.hs 4 0 Z.length]]⟩), (4, some ⟨65, 2, dr (Z.map Row.row)⟩)], 5⟩) ?_ key.h;rcases hPp with ⟨hP2, _⟩ | hP2
           ·refine wq [(0, some 0), (1, some 1), (2, some 2), (3, some 3), (4, some 4)] (by simp [upT, upH, upR, upL, up, push_cast, hQ, hk', hP2])
           ·refine wq [(0, some 0), (1, some 1), (2, some 2), (3, some 3), (4, some 4)] (by simp [upT, upH, upR, upL, up, push_cast, hQ, hk', hP2])
         ·have hi1 : k < b.length := (List.getElem?_eq_some_iff.1 hBk).1;have hav := (List.getElem?_eq_some_iff.1 hBk).2;refine rx cx [] (fun K hK => by simp [push_cast, hi1, hBk, hav, hvy, Row.row]; (repeat refine ob ?_); exact hK) ?_;refine awp_cn false (by simp [push_cast, hi1, hvy]) (fun hb => ?_) fun hb => ?_
          ·simp at hb
          ·refine zbf (s' := ⟨136, [(0, .d (.int .i64 op)), (4, .ptr 0 0 0), (5, .ptr 1 0 0), (6, .ptr 2 0 0), (7, .ptr 3 0 0), (8, .d (.int .i64 i')), (9, .d (.int .i64 k')), (10, .d (.int .i64 y)), (11, P), (12, Q)], [(0, some ⟨24, 1, [(zp a).map .d]⟩), (1, some ⟨24, 1, [(zp b).map .d]⟩), (2, some ⟨24, 1, [[.nl]]⟩), (3, some ⟨24, 1, [[.hs 4 0 Z.length]]⟩), (4, some ⟨65, 2, dr (Z.map Row.row)⟩)], 5⟩) ?_ key.h;rcases hPp with ⟨hP2, _⟩ | hP2
           ·refine wq [(0, some 0), (1, some 1), (2, some 2), (3, some 3), (4, some 4)] (by simp [upT, upH, upR, upL, up, push_cast, hQ, hk', hP2])
           ·refine wq [(0, some 0), (1, some 1), (2, some 2), (3, some 3), (4, some 4)] (by simp [upT, upH, upR, upL, up, push_cast, hQ, hk', hP2])
         ·have hi1 : k < b.length := (List.getElem?_eq_some_iff.1 hBk).1;have hav := (List.getElem?_eq_some_iff.1 hBk).2;refine rx cx [] (fun K hK => by simp [push_cast, hi1, hBk, hav, hvy, Row.row]; (repeat refine ob ?_); exact hK) ?_;refine awp_cn true (by simp [push_cast, hi1, hvy]) (fun hb => ?_) fun hb => ?_
          ·refine rx cx [] (fun K hK => by simp [push_cast, hi1, hBk, hav, Row.row]; (repeat refine ob ?_); exact hK) ?_;refine rx cx [] (fun K hK => by simp [push_cast, e2]; (repeat refine ob ?_); exact hK) ?_;refine zbf (s' := ⟨136, [(0, .d (.int .i64 op)), (4, .ptr 0 0 0), (5, .ptr 1 0 0), (6, .ptr 2 0 0), (7, .ptr 3 0 0), (8, .d (.int .i64 i')), (9, .d (.int .i64 k')), (10, .d (.int .i64 y)), (11, P), (12, Q)], [(0, some ⟨24, 1, [(zp a).map .d]⟩), (1, some ⟨24, 1, [(zp b).map .d]⟩), (2, some ⟨24, 1, [[.nl]]⟩), (3, some ⟨24, 1, [[.hs 4 0 Z.length]]⟩), (4, some ⟨65, 2, dr (Z.map Row.row)⟩)], 5⟩) ?_ key.h;rcases hPp with ⟨hP2, _⟩ | hP2
           ·refine wq [(0, some 0), (1, some 1), (2, some 2), (3, some 3), (4, some 4)] (by simp [upT, upH, upR, upL, up, push_cast, hQ, hk', hP2])
           ·refine wq [(0, some 0), (1, some 1), (2, some 2), (3, some 3), (4, some 4)] (by simp [upT, upH, upR, upL, up, push_cast, hQ, hk', hP2])
          ·simp at hb
        ·refine Nav.imp ?_;apply cut_
         ·intro key;rcases hPp with ⟨hP, hp⟩ | hP <;> rcases hQp with ⟨hQ, hq⟩ | hQ
          ·rw [hp, hq] at g1;simp only [zm, List.map_nil] at g1;refine rx cx [(3, .p (zm r))] (fun K hK => by simp [push_cast, g1, hP, hQ]; (repeat refine ob ?_); exact hK) ?_;refine zbf (s' := ⟨136, [(0, .d (.int .i64 op)), (4, .ptr 0 0 0), (5, .ptr 1 0 0), (6, .ptr 2 0 0), (7, .ptr 3 0 0), (8, .d (.int .i64 i')), (9, .d (.int .i64 k')), (10, .d (.int .i64 y)), (13, .d (zm r))], [(0, some ⟨24, 1, [(zp a).map .d]⟩), (1, some ⟨24, 1, [(zp b).map .d]⟩), (2, some ⟨24, 1, [[.nl]]⟩), (3, some ⟨24, 1, [[.hs 4 0 Z.length]]⟩), (4, some ⟨65, 2, dr (Z.map Row.row)⟩)], 5⟩) ?_ key.h;refine wk [(0, some 0), (1, some 1), (2, some 2), (3, some 3), (4, some 4)]
          ·rw [hp] at g1;have he : zm [] = .sl [] := rfl;rw [he] at g1;refine rx cx [(3, .p (zm r))] (fun K hK => by simp [push_cast, g1, hP, hQ]; (repeat refine ob ?_); exact hK) ?_;refine zbf (s' := ⟨136, [(0, .d (.int .i64 op)), (4, .ptr 0 0 0), (5, .ptr 1 0 0), (6, .ptr 2 0 0), (7, .ptr 3 0 0), (8, .d (.int .i64 i')), (9, .d (.int .i64 k')), (10, .d (.int .i64 y)), (13, .d (zm r))], [(0, some ⟨24, 1, [(zp a).map .d]⟩), (1, some ⟨24, 1, [(zp b).map .d]⟩), (2, some ⟨24, 1, [[.nl]]⟩), (3, some ⟨24, 1, [[.hs 4 0 Z.length]]⟩), (4, some ⟨65, 2, dr (Z.map Row.row)⟩)], 5⟩) ?_ key.h;refine wk [(0, some 0), (1, some 1), (2, some 2), (3, some 3), (4, some 4)]
          ·rw [hq] at g1;have he : zm [] = .sl [] := rfl;rw [he] at g1;refine rx cx [(3, .p (zm r))] (fun K hK => by simp [push_cast, g1, hP, hQ]; (repeat refine ob ?_); exact hK) ?_;refine zbf (s' := ⟨136, [(0, .d (.int .i64 op)), (4, .ptr 0 0 0), (5, .ptr 1 0 0), (6, .ptr 2 0 0), (7, .ptr 3 0 0), (8, .d (.int .i64 i')), (9, .d (.int .i64 k')), (10, .d (.int .i64 y)), (13, .d (zm r))], [(0, some ⟨24, 1, [(zp a).map .d]⟩), (1, some ⟨24, 1, [(zp b).map .d]⟩), (2, some ⟨24, 1, [[.nl]]⟩), (3, some ⟨24, 1, [[.hs 4 0 Z.length]]⟩), (4, some ⟨65, 2, dr (Z.map Row.row)⟩)], 5⟩) ?_ key.h;refine wk [(0, some 0), (1, some 1), (2, some 2), (3, some 3), (4, some 4)]
          ·refine rx cx [(3, .p (zm r))] (fun K hK => by simp [push_cast, g1, hP, hQ]; (repeat refine ob ?_); exact hK) ?_;refine zbf (s' := ⟨136, [(0, .d (.int .i64 op)), (4, .ptr 0 0 0), (5, .ptr 1 0 0), (6, .ptr 2 0 0), (7, .ptr 3 0 0), (8, .d (.int .i64 i')), (9, .d (.int .i64 k')), (10, .d (.int .i64 y)), (13, .d (zm r))], [(0, some ⟨24, 1, [(zp a).map .d]⟩), (1, some ⟨24, 1, [(zp b).map .d]⟩), (2, some ⟨24, 1, [[.nl]]⟩), (3, some ⟨24, 1, [[.hs 4 0 Z.length]]⟩), (4, some ⟨65, 2, dr (Z.map Row.row)⟩)], 5⟩) ?_ key.h;refine wk [(0, some 0), (1, some 1), (2, some 2), (3, some 3), (4, some 4)]
         ·refine Nav.imp ?_;refine rg cx ?_;refine awp_cd (decide (0 < (r.length : Int))) (fun hb => ?_) fun hb => ?_
          ·have hb : 0 < r.length := by simp at hb; omega
           have hne : r ≠ [] := List.length_pos_iff.1 hb;rw [if_neg hne] at s3;refine rx cx [] (fun K hK => by simp [push_cast, hZ32]; (repeat refine ob ?_); exact hK) ?_;refine ⟨(i', k', Z ++ [⟨y, r⟩]), s3, by (try clear hPs); (try clear hQs); simp only; omega, ?_⟩;refine wq [(0, some 0), (1, some 1), (2, some 2), (3, some 3), (4, some 14)] (by simp [upT, upH, upR, upL, up, push_cast, Row.row])
          ·have hb : r = [] := by simpa using hb
           rw [if_pos hb, List.append_nil] at s3;refine ⟨(i', k', Z), s3, by (try clear hPs); (try clear hQs); simp only; omega, ?_⟩;refine wq [(0, some 0), (1, some 1), (2, some 2), (3, some 3), (4, some 4)] (by simp [upT, upH, upR, upL, up, push_cast, Row.row])
     ·have hi : i = a.length := by omega
      have hk : k = b.length := by omega
      subst hi hk;have hz := hend Z hat;subst hz;refine rg cx ?_;refine awp_cd false (fun hb => ?_) fun hb => ?_
      ·simp at hb
      ·refine zaq 4 (Z.map Row.row) rfl (by simp [push_cast, Row.row]) fun K hK => ?_;simp [push_cast, St.fz, fzT, fzH, fzO, fz, fzL, fzR, zbx, zbo, zbn, zbm, Row.row];refine nx hK ?_; clear hK K;refine rg cx ?_;simp [push_cast]







theorem rintersect_big (a b : List Row) (hA : zqd a) (hB : zqd b) : PC Tryz.prog 17 [.agg (zp a), .agg (zp b)] (.p (.agg (zp (opR fI a b)))) := by
 have c1 := operated_big 1 fI rfl keptI a b hA hB;generalize opR fI a b = r at *;refine pw cx Tryz.func17 Tryz.ntmps17 ?_;refine rg cx ?_;refine rx cx [(2, .p (.agg (zp r)))] (fun K hK => by simp [push_cast, c1]; (repeat refine ob ?_); exact hK) ?_;simp [push_cast]


theorem ztn (a b : List Row) (hA : zbw a) (hB : zbw b) : PC Tryz.prog 17 [.agg (zp a), .agg (zp b)] (.p (.agg (zp (opR fI a b)))) := rintersect_big a b (zun hA) (zun hB)



def zmp (R : List Row) (k : Int) : Bool := decide (0 <= k) && decide (k <= 64) && zo R
theorem mvalid_big (R : List Row) (k : Int) (hR : zqd R) : PC Tryz.prog 61 [.agg (zp R), .int .i64 k] (.p (.bool (zmp R k))) := by
 have c1 := zsl R hR;unfold zmp;generalize zo R = v at *;by_cases h : 0 <= k /\ k <= 64
 ·have e1 : (0 : Int) <= k := h.1;have e2 : k <= 64 := h.2;refine pw cx Tryz.func61 Tryz.ntmps61 ?_;refine rg cx ?_;refine rx cx [(8, .p (.bool v))] (fun K hK => by simp [push_cast, c1, e1, e2]; (repeat refine ob ?_); exact hK) ?_;simp [push_cast, e1, e2]
 ·have e : (decide (0 <= k) && decide (k <= 64)) = false := by simp; omega
  rw [e];by_cases h0 : 0 <= k
  ·have e2 : ¬ k <= 64 := by omega
   refine pw cx Tryz.func61 Tryz.ntmps61 ?_;refine rg cx ?_;refine rx cx [(8, .skip)] (fun K hK => by simp [push_cast, h0, e2]; (repeat refine ob ?_); exact hK) ?_;simp [push_cast, h0, e2]
  ·refine pw cx Tryz.func61 Tryz.ntmps61 ?_;refine rg cx ?_;refine rx cx [(8, .skip)] (fun K hK => by simp [push_cast, h0]; (repeat refine ob ?_); exact hK) ?_;simp [push_cast, h0]

theorem zwd {α β : Type} {f : α -> List β} (h : ∀ x, (f x).length <= 1) : ∀ m : List α, (m.flatMap f).length <= m.length
 | [] => by simp
 | x :: m => by have := h x; have := zwd h m; rw [List.flatMap_cons, List.length_append, List.length_cons]; omega

end Go.Proofs.YtdddknniooimmaaGreat
