/-
  Texts of this seat put together: BW5, BD3, BD4, BD5, X3, X6, BW9, BW11.
-/
import Derived.Test.YtdddknniooimmaaGreatJF9
import Derived.Test.YtdddknniooimmaaGreatJF7
set_option linter.unusedVariables false
set_option linter.unusedSimpArgs false
set_option maxRecDepth 100000
set_option linter.unusedSectionVars false
namespace Go.Proofs.YtdddknniooimmaaGreat
open Go.Abs Go.Shelf

theorem zdy {e m : Nat} {A : KL} {q : Nat} {p : D × List (List D)} (h : A[q]? = some p) : ((SA A)[q]?).map (fun r => some (⟨e, m, dr r⟩ : Ob)) = some (some ⟨e, m, dr p.2⟩) := by simp [SA, h]
def eRun (y : Int) (r : Run) : List Crk := (List.range (r.b - r.a).toNat).map fun k : Nat => ⟨⟨r.a + k, y⟩, .e⟩
def zuc (y : Int) (r : Run) : List Crk := (List.range (r.b - r.a).toNat).map fun k : Nat => ⟨⟨r.a + k + 1, y + 1⟩, .w⟩
def vRun (y : Int) (r : Run) : List Crk := [⟨⟨r.b, y⟩, .n⟩, ⟨⟨r.a, y + 1⟩, .s⟩]
def zkf (R : List Row) (w : Row) : List Crk := (sweep fD w.runs (zab R (w.y - 1))).flatMap (eRun w.y) ++ ((sweep fD w.runs (zab R (w.y + 1))).flatMap (zuc w.y) ++ w.runs.flatMap (vRun w.y))
def zbk (R : List Row) : List Crk := R.flatMap (zkf R)
def addAll (A : List (ze × List Hd)) (l : List Crk) : List (ze × List Hd) := l.foldl zex A
def Acc (full : List Crk) (A : List (ze × List Hd)) (rest : List Crk) : Prop := ∃ pre, A = addAll [] pre /\ full = pre ++ rest
theorem Acc.next {full : List Crk} {A : List (ze × List Hd)} {c : Crk} {rest : List Crk} (h : Acc full A (c :: rest)) : Acc full (zex A c) rest := by
 obtain ⟨pre, rfl, rfl⟩ := h;exact ⟨pre ++ [c], by simp [addAll], by simp⟩
theorem putL_lenB {α β : Type} [DecidableEq α] (l : List (α × β)) (a : α) (b : β) : (zgj l a b).length <= l.length + 1 := by
 unfold zgj;cases zfb a l <;> simp
theorem putL_mem {α β : Type} [DecidableEq α] {l : List (α × β)} {a : α} {b : β} {x : α × β} (h : x ∈ zgj l a b) : x ∈ l \/ x = (a, b) := by
 unfold zgj at h;cases hp : zfb a l with
 | none => rw [hp] at h; simpa using h
 | some j => rw [hp] at h; exact List.mem_or_eq_of_mem_set h
theorem headsAt_len {A : List (ze × List Hd)} {n : Nat} (h : ∀ a ∈ A, a.2 ≠ [] /\ a.2.length <= n) (p : ze) : (zac A p).length <= n := by
 unfold zac;cases hg : zdp A p with
 | none => simp
 | some hs =>
  have hp := zes (a := p) A;cases hq : zfb p A with
  | none => rw [hq] at hp; rw [hp] at hg; cases hg
  | some j =>
   rw [hq] at hp;obtain ⟨b, h5, h6⟩ := hp;rw [h6] at hg; cases hg;exact (h _ (List.mem_of_getElem? h5)).2
theorem addAll_len : ∀ (l : List Crk) (A : List (ze × List Hd)) (n : Nat), (∀ a ∈ A, a.2 ≠ [] /\ a.2.length <= n) -> (addAll A l).length <= A.length + l.length /\ ∀ a ∈ addAll A l, a.2 ≠ [] /\ a.2.length <= n + l.length
 | [], A, n, h => ⟨by simp [addAll], h⟩
 | c :: l, A, n, h => by
  have h1 : ∀ a ∈ zex A c, a.2 ≠ [] /\ a.2.length <= n + 1 := fun a ha => by
   rcases putL_mem ha with ha | rfl
   ·have := h a ha; exact ⟨this.1, by omega⟩
   ·have := headsAt_len h c.p;exact ⟨by simp, by simp; omega⟩
  obtain ⟨h2, h3⟩ := addAll_len l (zex A c) (n + 1) h1;have h4 : (zex A c).length <= A.length + 1 := putL_lenB _ _ _;have e : addAll A (c :: l) = addAll (zex A c) l := rfl;rw [e];simp only [List.length_cons];refine ⟨by omega, fun a ha => ?_⟩;obtain ⟨h5, h6⟩ := h3 a ha;exact ⟨h5, by omega⟩
theorem zqw (l : List Crk) : (addAll [] l).length <= l.length /\ ∀ a ∈ addAll [] l, a.2 ≠ [] /\ a.2.length <= l.length := by
 have := addAll_len l [] 0 (by simp);simpa using this
theorem Acc.good {full : List Crk} {A : List (ze × List Hd)} {rest : List Crk} (h : Acc full A rest) (hf : full.length <= 10000000) : A.length <= 100000000 /\ (kl A).length <= 100000000 /\ ∀ a ∈ A, a.2 ≠ [] /\ a.2.length <= 100000000 := by
 obtain ⟨pre, rfl, rfl⟩ := h;obtain ⟨h1, h2⟩ := zqw pre;simp at hf;refine ⟨by omega, by rw [kl_length]; omega, fun a ha => ?_⟩;obtain ⟨h3, h4⟩ := h2 a ha;exact ⟨h3, by omega⟩
theorem eRun_drop (y : Int) (r : Run) {j : Nat} (hj : j < (r.b - r.a).toNat) : (eRun y r).drop j = ⟨⟨r.a + j, y⟩, .e⟩ :: (eRun y r).drop (j + 1) := zgd (by simp [eRun, hj])
theorem wRun_drop (y : Int) (r : Run) {j : Nat} (hj : j < (r.b - r.a).toNat) : (zuc y r).drop j = ⟨⟨r.a + j + 1, y + 1⟩, .w⟩ :: (zuc y r).drop (j + 1) := zgd (by simp [zuc, hj])
theorem eRun_end (y : Int) (r : Run) {j : Nat} (hj : (r.b - r.a).toNat <= j) : (eRun y r).drop j = [] := List.drop_eq_nil_iff.2 (by simpa [eRun] using hj)
theorem wRun_end (y : Int) (r : Run) {j : Nat} (hj : (r.b - r.a).toNat <= j) : (zuc y r).drop j = [] := List.drop_eq_nil_iff.2 (by simpa [zuc] using hj)

theorem around_ok (R : List Row) (i : Nat) (w : Row) (hv : zo R = true) (hR : zdi R) (hw : R[i]? = some w) : PC Tryz.prog 54 [.agg (zt R), .int .i64 i] (.p (.tup [zn (zab R (w.y - 1)), zn (zab R (w.y + 1))])) := by
 have hl := hR.1;have hi := (List.getElem?_eq_some_iff.1 hw).1;have hwb := zcq hv hw;have b1 : ∀ p, 0 < i -> R[i - 1]? = some p -> p.y = w.y - 1 -> zab R (w.y - 1) = p.runs := fun p h0 hp e => by rw [<- e]; exact zfn hv (List.mem_of_getElem? hp)
 have b2 : (i = 0 \/ ∃ p, R[i - 1]? = some p /\ p.y ≠ w.y - 1) -> zab R (w.y - 1) = [] := fun h => by
  refine zhx fun v hm e => ?_;obtain ⟨k, hk⟩ := List.mem_iff_getElem?.1 hm;have pw := zlf hv;have lt : ∀ a b (x y : Row), R[a]? = some x -> R[b]? = some y -> a < b -> x.y < y.y := fun a b x y hx hy hab => by
   obtain ⟨h1, rfl⟩ := List.getElem?_eq_some_iff.1 hx;obtain ⟨h2, rfl⟩ := List.getElem?_eq_some_iff.1 hy;exact List.pairwise_iff_getElem.1 pw a b h1 h2 hab
  have hki : k < i := by
   rcases Nat.lt_trichotomy k i with h | h | h
   ·exact h
   ·subst h; rw [hw] at hk; cases hk; omega
   ·have := lt i k w v hw hk h; omega
  rcases h with rfl | ⟨p, hp, hne⟩
  ·omega
  ·rcases Nat.lt_trichotomy k (i - 1) with h | h | h
   ·have h1 := lt k (i - 1) v p hk hp h;have h2 := lt (i - 1) i p w hp hw (by omega);omega
   ·subst h; rw [hp] at hk; cases hk; exact hne e
   ·omega
 have a1 : ∀ p, R[i + 1]? = some p -> p.y = w.y + 1 -> zab R (w.y + 1) = p.runs := fun p hp e => by rw [<- e]; exact zfn hv (List.mem_of_getElem? hp)
 have a2 : (R.length <= i + 1 \/ ∃ p, R[i + 1]? = some p /\ p.y ≠ w.y + 1) -> zab R (w.y + 1) = [] := fun h => by
  refine zhx fun v hm e => ?_;obtain ⟨k, hk⟩ := List.mem_iff_getElem?.1 hm;have hkl := (List.getElem?_eq_some_iff.1 hk).1;have pw := zlf hv;have lt : ∀ a b (x y : Row), R[a]? = some x -> R[b]? = some y -> a < b -> x.y < y.y := fun a b x y hx hy hab => by
   obtain ⟨h1, rfl⟩ := List.getElem?_eq_some_iff.1 hx;obtain ⟨h2, rfl⟩ := List.getElem?_eq_some_iff.1 hy;exact List.pairwise_iff_getElem.1 pw a b h1 h2 hab
  have hki : i < k := by
   rcases Nat.lt_trichotomy k i with h | h | h
   ·have := lt k i v w hk hw h; omega
   ·subst h; rw [hw] at hk; cases hk; omega
   ·exact h
  rcases h with h | ⟨p, hp, hne⟩
  ·omega
  ·rcases Nat.lt_trichotomy k (i + 1) with h | h | h
   ·omega
   ·subst h; rw [hp] at hk; cases hk; exact hne e
   ·have h1 := lt (i + 1) k p v hp hk h;have h2 := lt i (i + 1) w p hw hp (by omega);omega
 have hwy := hwb.1;generalize zab R (w.y - 1) = B at *;generalize zab R (w.y + 1) = U at *;have e1 := wI (w.y - 1);have e2 := wI (w.y + 1);have e3 := wI ((i : Int) + 1);have e4 := wI ((i : Int) - 1);have i1 : ∀ (x : Row), R[i]? = some x -> (zu R) = zu R := fun _ _ => rfl;obtain ⟨y, rs⟩ := w;simp only at *;refine pw cx Tryz.func54 Tryz.ntmps54 ?_;refine rg cx ?_;refine rx cx [] (fun K hK => by simp [push_cast, hw]; (repeat refine ob ?_); exact hK) ?_;by_cases h0 : 0 < i
 ·obtain ⟨p, hp⟩ : ∃ p, R[i - 1]? = some p := zak (by omega);have g0 : ((0 : Int) < i) := by omega
  have g1 : (((i : Int) - 1).toNat) = i - 1 := by omega
  have g3 : (0 : Int) <= (i : Int) - 1 := by omega
  have g4 : (i : Int) - 1 < R.length := by omega
  by_cases e : p.y = y - 1
  ·have hB := b1 p h0 hp e;obtain ⟨py, pr⟩ := p;simp only at e hB;subst e;subst hB;refine rx cx [] (fun K hK => by simp [push_cast, hp, e1, e4, g1, g3, g4, g0]; (repeat refine ob ?_); exact hK) ?_;refine awp_cn true (by simp [push_cast, g0, h0]) (fun hb => ?_) fun hb => ?_
   ·refine rx cx [] (fun K hK => by simp [push_cast, hp, e4, g1, g3, g4]; (repeat refine ob ?_); exact hK) ?_;by_cases hlt : i + 1 < R.length
    ·obtain ⟨q, hq⟩ : ∃ q, R[i + 1]? = some q := zak hlt;have g2 : ((i : Int) + 1 < R.length) := by omega
     by_cases e : q.y = y + 1
     ·have hB2 := a1 q hq e;obtain ⟨qy, qr⟩ := q;simp only at e hB2;subst e;subst hB2;refine rx cx [] (fun K hK => by simp [push_cast, hq, e3, e2, g2]; (repeat refine ob ?_); exact hK) ?_;refine awp_cn true (by simp [push_cast, g2]) (fun hb => ?_) fun hb => ?_
      ·refine rx cx [] (fun K hK => by simp [push_cast, hq, e3]; (repeat refine ob ?_); exact hK) ?_;refine rg cx ?_;simp [push_cast]
      ·simp at hb
     ·have hB2 := a2 (.inr ⟨q, hq, e⟩);obtain ⟨qy, qr⟩ := q;simp only at e;subst hB2;refine rx cx [] (fun K hK => by simp [push_cast, hq, e3, e2, g2]; (repeat refine ob ?_); exact hK) ?_;refine awp_cn false (by simp [push_cast, g2, e]) (fun hb => ?_) fun hb => ?_
      ·simp at hb
      ·refine rg cx ?_;simp [push_cast]
    ·have hB2 := a2 (.inl (by omega));subst hB2;have g2 : ¬ ((i : Int) + 1 < R.length) := by omega
     refine rx cx [(7, .skip), (8, .skip), (9, .skip), (10, .skip), (11, .skip), (12, .skip), (13, .skip), (14, .skip), (15, .skip), (16, .skip)] (fun K hK => by simp [push_cast, e3, g2]; (repeat refine ob ?_); exact hK) ?_;refine awp_cn false (by simp [push_cast, g2]) (fun hb => ?_) fun hb => ?_
     ·simp at hb
     ·refine rg cx ?_;simp [push_cast]
   ·simp at hb
  ·have hB := b2 (.inr ⟨p, hp, e⟩);obtain ⟨py, pr⟩ := p;simp only at e;subst hB;refine rx cx [] (fun K hK => by simp [push_cast, hp, e1, e4, g1, g3, g4, g0]; (repeat refine ob ?_); exact hK) ?_;refine awp_cn false (by simp [push_cast, g0, h0, e]) (fun hb => ?_) fun hb => ?_
   ·simp at hb
   ·by_cases hlt : i + 1 < R.length
    ·obtain ⟨q, hq⟩ : ∃ q, R[i + 1]? = some q := zak hlt;have g2 : ((i : Int) + 1 < R.length) := by omega
     by_cases e : q.y = y + 1
     ·have hB2 := a1 q hq e;obtain ⟨qy, qr⟩ := q;simp only at e hB2;subst e;subst hB2;refine rx cx [] (fun K hK => by simp [push_cast, hq, e3, e2, g2]; (repeat refine ob ?_); exact hK) ?_;refine awp_cn true (by simp [push_cast, g2]) (fun hb => ?_) fun hb => ?_
      ·refine rx cx [] (fun K hK => by simp [push_cast, hq, e3]; (repeat refine ob ?_); exact hK) ?_;refine rg cx ?_;simp [push_cast]
      ·simp at hb
     ·have hB2 := a2 (.inr ⟨q, hq, e⟩);obtain ⟨qy, qr⟩ := q;simp only at e;subst hB2;refine rx cx [] (fun K hK => by simp [push_cast, hq, e3, e2, g2]; (repeat refine ob ?_); exact hK) ?_;refine awp_cn false (by simp [push_cast, g2, e]) (fun hb => ?_) fun hb => ?_
      ·simp at hb
      ·refine rg cx ?_;simp [push_cast]
    ·have hB2 := a2 (.inl (by omega));subst hB2;have g2 : ¬ ((i : Int) + 1 < R.length) := by omega
     refine rx cx [(7, .skip), (8, .skip), (9, .skip), (10, .skip), (11, .skip), (12, .skip), (13, .skip), (14, .skip), (15, .skip), (16, .skip)] (fun K hK => by simp [push_cast, e3, g2]; (repeat refine ob ?_); exact hK) ?_;refine awp_cn false (by simp [push_cast, g2]) (fun hb => ?_) fun hb => ?_
     ·simp at hb
     ·refine rg cx ?_;simp [push_cast]
 ·have hi0 : i = 0 := by omega
  have hB := b2 (.inl hi0);subst hB;subst hi0;have e3 : IntKind.wrap .i64 (1 : Int) = 1 := wrap_i64 (by omega) (by omega);simp only [Nat.zero_add] at a1 a2;refine rx cx [(3, .skip), (4, .skip), (5, .skip), (6, .skip), (7, .skip), (8, .skip), (9, .skip), (10, .skip), (11, .skip), (12, .skip)] (fun K hK => by simp [push_cast]; (repeat refine ob ?_); exact hK) ?_;refine awp_cd false (fun hb => ?_) fun hb => ?_
  ·simp at hb
  ·by_cases hlt : 1 < R.length
   ·obtain ⟨q, hq⟩ : ∃ q, R[1]? = some q := zak hlt;have g2 : ((1 : Int) < R.length) := by omega
    by_cases e : q.y = y + 1
    ·have hB2 := a1 q hq e;obtain ⟨qy, qr⟩ := q;simp only at e hB2;subst e;subst hB2;refine rx cx [] (fun K hK => by simp [push_cast, hq, e3, e2, g2]; (repeat refine ob ?_); exact hK) ?_;refine awp_cn true (by simp [push_cast, g2]) (fun hb => ?_) fun hb => ?_
     ·refine rx cx [] (fun K hK => by simp [push_cast, hq, e3]; (repeat refine ob ?_); exact hK) ?_;refine rg cx ?_;simp [push_cast]
     ·simp at hb
    ·have hB2 := a2 (.inr ⟨q, hq, e⟩);obtain ⟨qy, qr⟩ := q;simp only at e;subst hB2;refine rx cx [] (fun K hK => by simp [push_cast, hq, e3, e2, g2]; (repeat refine ob ?_); exact hK) ?_;refine awp_cn false (by simp [push_cast, g2, e]) (fun hb => ?_) fun hb => ?_
     ·simp at hb
     ·refine rg cx ?_;simp [push_cast]
   ·have hB2 := a2 (.inl (by omega));subst hB2;have g2 : ¬ ((1 : Int) < R.length) := by omega
    refine rx cx [(7, .skip), (8, .skip), (9, .skip), (10, .skip), (11, .skip), (12, .skip), (13, .skip), (14, .skip), (15, .skip), (16, .skip)] (fun K hK => by simp [push_cast, e3, g2]; (repeat refine ob ?_); exact hK) ?_;refine awp_cn false (by simp [push_cast, g2]) (fun hb => ?_) fun hb => ?_
    ·simp at hb
    ·refine rg cx ?_;simp [push_cast]
end Go.Proofs.YtdddknniooimmaaGreat

namespace Go.Proofs.YtdddknniooimmaaGreat
open Go.Abs

def Sof (R : List Row) (c : ze) : Bool := inR (zab R c.y) c.x
theorem zmr {y : Int} {r : Run} (hr : r.a < r.b) {c : Crk} : c ∈ eRun y r ↔ c.h = .e /\ c.p.y = y /\ r.a <= c.p.x /\ c.p.x < r.b := by
 unfold eRun;simp only [List.mem_map, List.mem_range];obtain ⟨⟨u, v⟩, h⟩ := c;simp only [Crk.mk.injEq, ze.mk.injEq];constructor
 ·rintro ⟨k, h1, ⟨rfl, rfl⟩, rfl⟩; refine ⟨rfl, rfl, ?_, ?_⟩ <;> omega
 ·rintro ⟨rfl, rfl, h1, h2⟩; exact ⟨(u - r.a).toNat, by omega, ⟨by omega, rfl⟩, rfl⟩
theorem zmq {y : Int} {r : Run} (hr : r.a < r.b) {c : Crk} : c ∈ zuc y r ↔ c.h = .w /\ c.p.y = y + 1 /\ r.a <= c.p.x - 1 /\ c.p.x - 1 < r.b := by
 unfold zuc;simp only [List.mem_map, List.mem_range];obtain ⟨⟨u, v⟩, h⟩ := c;simp only [Crk.mk.injEq, ze.mk.injEq];constructor
 ·rintro ⟨k, h1, ⟨rfl, rfl⟩, rfl⟩; refine ⟨rfl, rfl, ?_, ?_⟩ <;> omega
 ·rintro ⟨rfl, rfl, h1, h2⟩; exact ⟨(u - 1 - r.a).toNat, by omega, ⟨by omega, rfl⟩, rfl⟩
theorem zpz {y : Int} {r : Run} {c : Crk} : c ∈ vRun y r ↔ (c.h = .n /\ c.p.y = y /\ c.p.x = r.b) \/ (c.h = .s /\ c.p.y = y + 1 /\ c.p.x = r.a) := by
 obtain ⟨⟨u, v⟩, h⟩ := c;simp only [vRun, List.mem_cons, List.not_mem_nil, or_false, Crk.mk.injEq, ze.mk.injEq];constructor
 ·rintro (⟨⟨rfl, rfl⟩, rfl⟩ | ⟨⟨rfl, rfl⟩, rfl⟩) <;> simp
 ·rintro (⟨rfl, rfl, rfl⟩ | ⟨rfl, rfl, rfl⟩) <;> simp
theorem apart_right {l : List Run} (h : zfm l) (x : Int) : (inR l (x - 1) = true /\ inR l x = false) ↔ ∃ r ∈ l, r.b = x := by
 constructor
 ·rintro ⟨h1, h2⟩;obtain ⟨r, hr, h3, h4⟩ := zbe.1 h1;refine ⟨r, hr, ?_⟩;have : ¬ (r.a <= x /\ x < r.b) := fun k => by rw [zbe.2 ⟨r, hr, k⟩] at h2; cases h2
  omega
 ·rintro ⟨r, hr, rfl⟩;have hr1 := h.1 r hr;refine ⟨zbe.2 ⟨r, hr, by omega, by omega⟩, ?_⟩;rw [Bool.eq_false_iff];intro k;obtain ⟨p, hp, h3, h4⟩ := zbe.1 k;obtain ⟨i, hi⟩ := List.mem_iff_getElem?.1 hr;obtain ⟨j, hj⟩ := List.mem_iff_getElem?.1 hp;have pw := fun a b (x y : Run) (hx : l[a]? = some x) (hy : l[b]? = some y) (hab : a < b) => (by
   obtain ⟨h1, rfl⟩ := List.getElem?_eq_some_iff.1 hx;obtain ⟨h2, rfl⟩ := List.getElem?_eq_some_iff.1 hy;exact List.pairwise_iff_getElem.1 h.2 a b h1 h2 hab : x.b < y.a)
  rcases Nat.lt_trichotomy i j with e | e | e
  ·have := pw i j r p hi hj e; omega
  ·subst e; rw [hi] at hj; cases hj; omega
  ·have := pw j i p r hj hi e; omega
theorem apart_left {l : List Run} (h : zfm l) (x : Int) : (inR l x = true /\ inR l (x - 1) = false) ↔ ∃ r ∈ l, r.a = x := by
 constructor
 ·rintro ⟨h1, h2⟩;obtain ⟨r, hr, h3, h4⟩ := zbe.1 h1;refine ⟨r, hr, ?_⟩;have : ¬ (r.a <= x - 1 /\ x - 1 < r.b) := fun k => by rw [zbe.2 ⟨r, hr, k⟩] at h2; cases h2
  omega
 ·rintro ⟨r, hr, rfl⟩;have hr1 := h.1 r hr;refine ⟨zbe.2 ⟨r, hr, by omega, by omega⟩, ?_⟩;rw [Bool.eq_false_iff];intro k;obtain ⟨p, hp, h3, h4⟩ := zbe.1 k;obtain ⟨i, hi⟩ := List.mem_iff_getElem?.1 hr;obtain ⟨j, hj⟩ := List.mem_iff_getElem?.1 hp;have pw := fun a b (x y : Run) (hx : l[a]? = some x) (hy : l[b]? = some y) (hab : a < b) => (by
   obtain ⟨h1, rfl⟩ := List.getElem?_eq_some_iff.1 hx;obtain ⟨h2, rfl⟩ := List.getElem?_eq_some_iff.1 hy;exact List.pairwise_iff_getElem.1 h.2 a b h1 h2 hab : x.b < y.a)
  rcases Nat.lt_trichotomy i j with e | e | e
  ·have := pw i j r p hi hj e; omega
  ·subst e; rw [hi] at hj; cases hj; omega
  ·have := pw j i p r hj hi e; omega
theorem rowOf_ap {R : List Row} (hv : zo R = true) (y : Int) : zfm (zab R y) := by
 rcases zdw hv y with ⟨w, hw, _, e⟩ | ⟨_, e⟩
 ·rw [e]; exact (zdl.1 (zbx hv hw).2).2.1
 ·rw [e]; exact ⟨by simp, by simp⟩
theorem zju {R : List Row} (hv : zo R = true) (y z : Int) : zfm (sweep fD (zab R y) (zab R z)) /\ ∀ x, inR (sweep fD (zab R y) (zab R z)) x = (inR (zab R y) x && !inR (zab R z) x) := by
 obtain ⟨h1, h2⟩ := zdt (f := fD) rfl (zed hv y) (zed hv z);exact ⟨h1, fun x => by rw [h2]; rfl⟩
theorem ziw {R : List Row} (hv : zo R = true) (c : Crk) : c ∈ zbk R ↔ isC (Sof R) c = true := by
 obtain ⟨⟨x, y⟩, h⟩ := c;have inrow : ∀ {w : Row} {z t : Int}, w ∈ R -> w.y = z -> inR (zab R z) t = inR w.runs t := fun {w z t} hw e => by rw [<- e, zfn hv hw]
 have has : ∀ {z t : Int}, inR (zab R z) t = true -> ∃ w ∈ R, w.y = z /\ zab R z = w.runs := fun {z t} h => by
  rcases zdw hv z with h1 | ⟨_, h1⟩
  ·exact h1
  ·rw [h1] at h; simp [inR] at h
 have key : ∀ w ∈ R, (⟨⟨x, y⟩, h⟩ : Crk) ∈ zkf R w ↔ (h = .e /\ y = w.y /\ inR (zab R w.y) x = true /\ inR (zab R (w.y - 1)) x = false) \/ (h = .w /\ y = w.y + 1 /\ inR (zab R w.y) (x - 1) = true /\ inR (zab R (w.y + 1)) (x - 1) = false) \/ (h = .n /\ y = w.y /\ inR (zab R w.y) (x - 1) = true /\ inR (zab R w.y) x = false) \/ (h = .s /\ y = w.y + 1 /\ inR (zab R w.y) x = true /\ inR (zab R w.y) (x - 1) = false) := by
  intro w hw;unfold zkf;rw [<- zfn hv hw];obtain ⟨a1, a2⟩ := zju hv w.y (w.y - 1);obtain ⟨b1, b2⟩ := zju hv w.y (w.y + 1);have ap := rowOf_ap hv w.y;have e1 := a2 x;have e2 := b2 (x - 1);have e3 := apart_right ap x;have e4 := apart_left ap x;simp only [List.mem_append, List.mem_flatMap];generalize sweep fD (zab R w.y) (zab R (w.y - 1)) = L1 at *;generalize sweep fD (zab R w.y) (zab R (w.y + 1)) = L2 at *;have f1 : (∃ r ∈ L1, (⟨⟨x, y⟩, h⟩ : Crk) ∈ eRun w.y r) ↔ h = .e /\ y = w.y /\ inR L1 x = true := by
   rw [zbe];constructor
   ·rintro ⟨r, hr, hm⟩;obtain ⟨q1, q2, q3, q4⟩ := (zmr (a1.1 r hr)).1 hm;exact ⟨q1, q2, r, hr, q3, q4⟩
   ·rintro ⟨q1, q2, r, hr, q3, q4⟩;exact ⟨r, hr, (zmr (a1.1 r hr)).2 ⟨q1, q2, q3, q4⟩⟩
  have f2 : (∃ r ∈ L2, (⟨⟨x, y⟩, h⟩ : Crk) ∈ zuc w.y r) ↔ h = .w /\ y = w.y + 1 /\ inR L2 (x - 1) = true := by
   rw [zbe];constructor
   ·rintro ⟨r, hr, hm⟩;obtain ⟨q1, q2, q3, q4⟩ := (zmq (b1.1 r hr)).1 hm;exact ⟨q1, q2, r, hr, q3, q4⟩
   ·rintro ⟨q1, q2, r, hr, q3, q4⟩;exact ⟨r, hr, (zmq (b1.1 r hr)).2 ⟨q1, q2, q3, q4⟩⟩
  have f3 : (∃ r ∈ zab R w.y, (⟨⟨x, y⟩, h⟩ : Crk) ∈ vRun w.y r) ↔ (h = .n /\ y = w.y /\ ∃ r ∈ zab R w.y, r.b = x) \/ (h = .s /\ y = w.y + 1 /\ ∃ r ∈ zab R w.y, r.a = x) := by
   simp only [zpz];constructor
   ·rintro ⟨r, hr, ⟨q1, q2, q3⟩ | ⟨q1, q2, q3⟩⟩
    ·exact .inl ⟨q1, q2, r, hr, q3.symm⟩
    ·exact .inr ⟨q1, q2, r, hr, q3.symm⟩
   ·rintro (⟨q1, q2, r, hr, q3⟩ | ⟨q1, q2, r, hr, q3⟩)
    ·exact ⟨r, hr, .inl ⟨q1, q2, q3.symm⟩⟩
    ·exact ⟨r, hr, .inr ⟨q1, q2, q3.symm⟩⟩
  rw [f1, f2, f3, <- e3, <- e4, e1, e2];simp only [Bool.and_eq_true, Bool.not_eq_true']
 unfold zbk;simp only [List.mem_flatMap];have k2 : (∃ w ∈ R, (⟨⟨x, y⟩, h⟩ : Crk) ∈ zkf R w) ↔ (h = .e /\ inR (zab R y) x = true /\ inR (zab R (y - 1)) x = false) \/ (h = .w /\ inR (zab R (y - 1)) (x - 1) = true /\ inR (zab R y) (x - 1) = false) \/ (h = .n /\ inR (zab R y) (x - 1) = true /\ inR (zab R y) x = false) \/ (h = .s /\ inR (zab R (y - 1)) x = true /\ inR (zab R (y - 1)) (x - 1) = false) := by
  constructor
  ·rintro ⟨w, hw, hm⟩;rcases (key w hw).1 hm with ⟨q1, rfl, q3, q4⟩ | ⟨q1, rfl, q3, q4⟩ | ⟨q1, rfl, q3, q4⟩ | ⟨q1, rfl, q3, q4⟩
   ·exact .inl ⟨q1, q3, q4⟩
   ·refine .inr (.inl ⟨q1, ?_, q4⟩); rw [show w.y + 1 - 1 = w.y by omega]; exact q3
   ·exact .inr (.inr (.inl ⟨q1, q3, q4⟩))
   ·refine .inr (.inr (.inr ⟨q1, ?_⟩)); rw [show w.y + 1 - 1 = w.y by omega]; exact ⟨q3, q4⟩
  ·rintro (⟨q1, q3, q4⟩ | ⟨q1, q3, q4⟩ | ⟨q1, q3, q4⟩ | ⟨q1, q3, q4⟩)
   ·obtain ⟨w, hw, e, _⟩ := has q3;subst e;exact ⟨w, hw, (key w hw).2 (.inl ⟨q1, rfl, q3, q4⟩)⟩
   ·obtain ⟨w, hw, e, _⟩ := has q3;have e : y = w.y + 1 := by omega
    subst e;rw [show w.y + 1 - 1 = w.y by omega] at q3;exact ⟨w, hw, (key w hw).2 (.inr (.inl ⟨q1, rfl, q3, q4⟩))⟩
   ·obtain ⟨w, hw, e, _⟩ := has q3;subst e;exact ⟨w, hw, (key w hw).2 (.inr (.inr (.inl ⟨q1, rfl, q3, q4⟩)))⟩
   ·obtain ⟨w, hw, e, _⟩ := has q3;have e : y = w.y + 1 := by omega
    subst e;rw [show w.y + 1 - 1 = w.y by omega] at q3 q4;exact ⟨w, hw, (key w hw).2 (.inr (.inr (.inr ⟨q1, rfl, q3, q4⟩)))⟩
 rw [k2];cases h <;> simp [isC, zae, zfg, Sof]
theorem zcx {R : List Row} (hv : zo R = true) : zdg (Sof R) (zbk R) := ziw hv

theorem run_nodup {f : Nat -> Crk} (hf : ∀ i j, f i = f j -> i = j) (n : Nat) : ((List.range n).map f).Nodup := by
 unfold List.Nodup;rw [List.pairwise_map];exact List.nodup_range.imp fun {a b} h e => h (hf _ _ e)
theorem rowCr_nodup {R : List Row} (hv : zo R = true) {w : Row} (hw : w ∈ R) : (zkf R w).Nodup := by
 unfold zkf;rw [<- zfn hv hw];obtain ⟨a1, _⟩ := zju hv w.y (w.y - 1);obtain ⟨b1, _⟩ := zju hv w.y (w.y + 1);have ap := rowOf_ap hv w.y;generalize sweep fD (zab R w.y) (zab R (w.y - 1)) = L1 at *;generalize sweep fD (zab R w.y) (zab R (w.y + 1)) = L2 at *;have hE : ∀ c ∈ L1.flatMap (eRun w.y), c.h = .e := fun c hc => by
  obtain ⟨r, hr, hm⟩ := List.mem_flatMap.1 hc;exact ((zmr (a1.1 r hr)).1 hm).1
 have hW : ∀ c ∈ L2.flatMap (zuc w.y), c.h = .w := fun c hc => by
  obtain ⟨r, hr, hm⟩ := List.mem_flatMap.1 hc;exact ((zmq (b1.1 r hr)).1 hm).1
 have hV : ∀ c ∈ (zab R w.y).flatMap (vRun w.y), c.h = .n \/ c.h = .s := fun c hc => by
  obtain ⟨r, hr, hm⟩ := List.mem_flatMap.1 hc;rcases zpz.1 hm with h | h
  ·exact .inl h.1
  ·exact .inr h.1
 rw [List.nodup_append, List.nodup_append];refine ⟨?_, ⟨?_, ?_, fun a ha b hb e => ?_⟩, fun a ha b hb e => ?_⟩
 ·unfold List.Nodup;rw [List.pairwise_flatMap];refine ⟨fun r hr => run_nodup (fun i j e => by simp at e; omega) _, List.Pairwise.imp_of_mem (fun {r p} hr hp h => ?_) a1.2⟩;intro x hx y hy e;obtain ⟨_, _, _, k1⟩ := (zmr (a1.1 r hr)).1 hx;obtain ⟨_, _, k2, _⟩ := (zmr (a1.1 p hp)).1 hy;rw [e] at k1; omega
 ·unfold List.Nodup;rw [List.pairwise_flatMap];refine ⟨fun r hr => run_nodup (fun i j e => by simp at e; omega) _, List.Pairwise.imp_of_mem (fun {r p} hr hp h => ?_) b1.2⟩;intro x hx y hy e;obtain ⟨_, _, _, k1⟩ := (zmq (b1.1 r hr)).1 hx;obtain ⟨_, _, k2, _⟩ := (zmq (b1.1 p hp)).1 hy;rw [e] at k1; omega
 ·unfold List.Nodup;rw [List.pairwise_flatMap];refine ⟨fun r hr => by simp [vRun], List.Pairwise.imp_of_mem (fun {r p} hr hp h => ?_) ap.2⟩;intro x hx y hy e;have l1 := ap.1 r hr;have l2 := ap.1 p hp;rw [e] at hx;rcases zpz.1 hx with ⟨k1, _, k2⟩ | ⟨k1, _, k2⟩ <;> rcases zpz.1 hy with ⟨k3, _, k4⟩ | ⟨k3, _, k4⟩
  ·omega
  ·rw [k1] at k3; cases k3
  ·rw [k1] at k3; cases k3
  ·omega
 ·have h1 := hW a ha;have h2 := hV b hb;rw [e] at h1; rw [h1] at h2; simp at h2
 ·have h1 := hE a ha;rw [e] at h1;rcases List.mem_append.1 hb with hb | hb
  ·have h2 := hW b hb; rw [h1] at h2; cases h2
  ·have h2 := hV b hb; rw [h1] at h2; simp at h2
theorem rowCr_y {R : List Row} (hv : zo R = true) {w : Row} (hw : w ∈ R) {c : Crk} (hc : c ∈ zkf R w) : c.p.y = (match c.h with | .e => w.y | .n => w.y | .w => w.y + 1 | .s => w.y + 1) := by
 unfold zkf at hc;rw [<- zfn hv hw] at hc;obtain ⟨a1, _⟩ := zju hv w.y (w.y - 1);obtain ⟨b1, _⟩ := zju hv w.y (w.y + 1);simp only [List.mem_append, List.mem_flatMap] at hc;rcases hc with ⟨r, hr, h⟩ | ⟨r, hr, h⟩ | ⟨r, hr, h⟩
 ·obtain ⟨h1, h2, _⟩ := (zmr (a1.1 r hr)).1 h; rw [h1]; exact h2
 ·obtain ⟨h1, h2, _⟩ := (zmq (b1.1 r hr)).1 h; rw [h1]; exact h2
 ·rcases zpz.1 h with ⟨h1, h2, _⟩ | ⟨h1, h2, _⟩ <;> rw [h1] <;> exact h2
theorem zeu {R : List Row} (hv : zo R = true) : (zbk R).Nodup := by
 unfold zbk List.Nodup;rw [List.pairwise_flatMap];refine ⟨fun w hw => rowCr_nodup hv hw, List.Pairwise.imp_of_mem (fun {w v} hw hv' h => ?_) (zlf hv)⟩;intro x hx y hy e;have h1 := rowCr_y hv hw hx;have h2 := rowCr_y hv hv' hy;rw [<- e] at h2;rw [h1] at h2;cases hh : x.h <;> simp only [hh] at h2 <;> omega
theorem zoo {R : List Row} (hv : zo R = true) {c : Crk} (hc : c ∈ zbk R) : (-4096 <= c.p.x /\ c.p.x <= 4096) /\ -4096 <= c.p.y /\ c.p.y <= 4096 := by
 have h := (ziw hv c).1 hc;simp only [isC, Bool.and_eq_true] at h;obtain ⟨⟨x, y⟩, k⟩ := c;have h1 := zpq hv h.1;cases k <;> simp only [zae] at h1 ⊢ <;> omega
def crks (c : ze) : List Crk := [⟨c, .e⟩, ⟨⟨c.x + 1, c.y⟩, .n⟩, ⟨⟨c.x + 1, c.y + 1⟩, .w⟩, ⟨⟨c.x, c.y + 1⟩, .s⟩]
theorem mem_crks {c : Crk} {d : ze} : c ∈ crks d ↔ zae c.h c.p = d := by
 obtain ⟨⟨x, y⟩, k⟩ := c;obtain ⟨u, v⟩ := d;cases k <;> simp [crks, zae] <;> omega
theorem flat4_len : ∀ (l : List ze), (l.flatMap crks).length = 4 * l.length
 | [] => rfl
 | c :: l => by rw [List.flatMap_cons, List.length_append, flat4_len l]; simp [crks]; omega
theorem collect_len {R : List Row} (hv : zo R = true) : (zbk R).length <= 4 * (zk R).length := by
 rw [<- flat4_len];refine zlw (zeu hv) fun c hc => ?_;have h := (ziw hv c).1 hc;simp only [isC, Bool.and_eq_true] at h;exact List.mem_flatMap.2 ⟨_, (zke hv _).2 h.1, mem_crks.2 rfl⟩

theorem zec.nil : zec [] fun _ => False := ⟨by simp, by simp [zdp], by simp [zdp]⟩
theorem zec.add {A : List (ze × List Hd)} {rem : Crk -> Prop} (h : zec A rem) {c : Crk} (hc : ¬ rem c) : zec (zex A c) fun d => rem d \/ d = c := by
 unfold zex;refine ⟨keys_put h.keys _ _, fun p hs hp => ?_, fun p k => ?_⟩
 ·rw [zjw] at hp;split at hp
  ·cases hp;refine ⟨by simp, ?_⟩;have hn : (zac A c.p).Nodup := by
    unfold zac;cases hg : zdp A c.p with
    | none => exact List.nodup_nil
    | some hs => exact (h.some _ _ hg).2
   rw [List.nodup_append];refine ⟨hn, by simp, fun a ha b hb e => ?_⟩;simp at hb; subst hb; subst e;exact hc ((h.heads _ _).1 ha)
  ·exact h.some _ _ hp
 ·rw [zjw];by_cases e : p = c.p
  ·subst e;rw [if_pos rfl];simp only [Option.some.injEq, exists_eq_left', List.mem_append, List.mem_singleton, h.heads];constructor
   ·rintro (h1 | h1)
    ·exact .inl h1
    ·right; exact congrArg Crk.h h1
   ·rintro (h1 | h1)
    ·exact .inl h1
    ·right; rw [h1]
  ·rw [if_neg e, <- h.mem];constructor
   ·rintro (h1 | h1)
    ·exact h1
    ·exact absurd (congrArg Crk.p h1) e
   ·exact .inl
theorem zec.addAll : ∀ {l : List Crk} {A : List (ze × List Hd)} {rem : Crk -> Prop}, zec A rem -> l.Nodup -> (∀ c ∈ l, ¬ rem c) -> zec (addAll A l) fun d => rem d \/ d ∈ l
 | [], A, rem, h, _, _ => h.congr fun c => by simp
 | c :: l, A, rem, h, hn, hl => by
  obtain ⟨h1, h2⟩ := List.nodup_cons.1 hn;have := zec.addAll (h.add (hl c (by simp))) h2 fun d hd k => by
   rcases k with k | k
   ·exact hl d (by simp [hd]) k
   ·exact h1 (k ▸ hd)
  exact this.congr fun d => by simp [or_assoc]
theorem collect_map {R : List Row} (hv : zo R = true) : zec (addAll [] (zbk R)) fun c => isC (Sof R) c = true :=
 (zec.nil.addAll (zeu hv) (by simp)).congr fun c => by simp [ziw hv]

structure TInv (S : ze -> Bool) (P : List ze) (j : Nat) (Fs : List (List Crk)) (A : List (ze × List Hd)) : Prop where
 fam : Fam S Fs
 map : zec A fun c => isC S c = true /\ ¬ onF Fs c
 rem : ∀ c, isC S c = true -> ¬ onF Fs c -> ∃ i, j <= i /\ P[i]? = some c.p
 hd : ∀ L ∈ Fs, ∃ c i, L.head? = some c /\ i < j /\ P[i]? = some c.p
 len : Fs.length <= j
theorem onF_app {Fs : List (List Crk)} {L : List Crk} {c : Crk} : onF (Fs ++ [L]) c ↔ onF Fs c \/ c ∈ L := by
 unfold onF;constructor
 ·rintro ⟨M, hM, hc⟩;rcases List.mem_append.1 hM with hM | hM
  ·exact .inl ⟨M, hM, hc⟩
  ·simp at hM; subst hM; exact .inr hc
 ·rintro (⟨M, hM, hc⟩ | hc)
  ·exact ⟨M, by simp [hM], hc⟩
  ·exact ⟨L, by simp, hc⟩
theorem pw_get {α : Type} {r : α -> α -> Prop} {P : List α} (h : P.Pairwise r) {i j : Nat} {a b : α} (ha : P[i]? = some a) (hb : P[j]? = some b) (hij : i < j) : r a b := by
 obtain ⟨h1, rfl⟩ := List.getElem?_eq_some_iff.1 ha;obtain ⟨h2, rfl⟩ := List.getElem?_eq_some_iff.1 hb;exact List.pairwise_iff_getElem.1 h i j h1 h2 hij
theorem TInv.skip {S : ze -> Bool} {P : List ze} {j : Nat} {Fs : List (List Crk)} {A : List (ze × List Hd)} (h : TInv S P j Fs A) {p : ze} (hp : P[j]? = some p) (h0 : zac A p = []) : TInv S P (j + 1) Fs A := by
 refine ⟨h.fam, h.map, fun c hc hn => ?_, fun L hL => ?_, by have := h.len; omega⟩
 ·obtain ⟨i, hi, e⟩ := h.rem c hc hn;refine ⟨i, ?_, e⟩;rcases Nat.lt_or_ge j i with hl | hl
  ·exact hl
  ·have : i = j := by omega
   subst this;rw [hp] at e; cases e;have := (h.map.heads c.p c.h).2 ⟨hc, hn⟩;rw [h0] at this; cases this
 ·obtain ⟨c, i, e1, e2, e3⟩ := h.hd L hL;exact ⟨c, i, e1, by omega, e3⟩
theorem TInv.go {S : ze -> Bool} {C : List Crk} (hC : zdg S C) {P : List ze} (hP : P.Pairwise zdq) {j : Nat} {Fs : List (List Crk)} {A : List (ze × List Hd)} (h : TInv S P j Fs A) {p : ze} (hp : P[j]? = some p) {k : Hd} {hs0 : List Hd} (h0 : zac A p = k :: hs0) :
  ∃ n, Per (suc S) ⟨p, k⟩ n /\ n <= C.length /\ (∀ i, i < n -> isC S (itn (suc S) i ⟨p, k⟩) = true /\ ¬ onF Fs (itn (suc S) i ⟨p, k⟩)) /\ (∀ d ∈ orb (suc S) n ⟨p, k⟩, d ≠ ⟨p, k⟩ -> zdq p d.p) /\ TInv S P (j + 1) (Fs ++ [orb (suc S) n ⟨p, k⟩]) (zde A (orb (suc S) n ⟨p, k⟩)) := by
 obtain ⟨hc, hn⟩ := (h.map.heads p k).1 (by rw [h0]; simp);obtain ⟨n, pn, hle⟩ := per_ex hC.cl hC.inj ((hC _).2 hc);have off := h.fam.off hC hc hn;have hr : ∀ i, i < n -> isC S (itn (suc S) i ⟨p, k⟩) = true /\ ¬ onF Fs (itn (suc S) i ⟨p, k⟩) := fun i _ => ⟨(off i).2, (off i).1⟩
 have low : ∀ d, isC S d = true -> ¬ onF Fs d -> ¬ zdq d.p p := fun d h1 h2 => by
  obtain ⟨i, hi, e⟩ := h.rem d h1 h2;rcases Nat.lt_or_ge j i with hl | hl
  ·exact zet (pw_get hP hp e hl)
  ·have : i = j := by omega
   subst this;rw [hp] at e; cases e;exact zms _
 have lc : ∀ d ∈ orb (suc S) n ⟨p, k⟩, d ≠ ⟨p, k⟩ -> zdq p d.p := fun d hd hne => by
  obtain ⟨i, hi, rfl⟩ := zbt.1 hd;obtain ⟨h1, h2⟩ := hr i hi;rcases zqb p (itn (suc S) i ⟨p, k⟩).p with e | e | e
  ·exact e
  ·exfalso
   refine hne (zrm h1 hc e.symm ?_ ?_)
   ·have := off (i + 1);rw [zdk] at this;rw [<- e];exact low _ this.2 this.1
   ·have := off 1;exact low _ this.2 this.1
  ·exact absurd e (low _ h1 h2)
 have hnd := zmo hC.cl hC.inj ((hC _).2 hc) pn.least;refine ⟨n, pn, hle, hr, lc, ⟨⟨fun L hL => ?_, ?_⟩, ?_, fun c h1 h2 => ?_, fun L hL => ?_, by have := h.len; simp; omega⟩⟩
 ·rcases List.mem_append.1 hL with hL | hL
  ·exact h.fam.each L hL
  ·simp at hL; subst hL;exact ⟨_, n, hc, pn, rfl, lc⟩
 ·rw [List.pairwise_append];refine ⟨h.fam.sorted, by simp, fun L hL M hM => ?_⟩;simp at hM; subst hM;obtain ⟨c, i, e1, e2, e3⟩ := h.hd L hL;exact ⟨c, _, e1, zki pn.pos, pw_get hP e3 hp e2⟩
 ·refine (h.map.walk hr hnd n (Nat.le_refl _)).congr fun c => ?_;rw [onF_app, not_or];simp only [and_assoc]
 ·rw [onF_app, not_or] at h2;obtain ⟨i, hi, e⟩ := h.rem c h1 h2.1;refine ⟨i, ?_, e⟩;rcases Nat.lt_or_ge j i with hl | hl
  ·exact hl
  ·exfalso
   have : i = j := by omega
   subst this;rw [hp] at e;have e : p = c.p := by injection e
   have hoc := h.fam.off hC h1 h2.1 1;have ho1 := off 1;refine h2.2 ?_;have : c = ⟨p, k⟩ := zrm h1 hc e.symm (by rw [<- e]; exact low _ hoc.2 hoc.1) (low _ ho1.2 ho1.1);rw [this];exact zfh pn.pos
 ·rcases List.mem_append.1 hL with hL | hL
  ·obtain ⟨c, i, e1, e2, e3⟩ := h.hd L hL;exact ⟨c, i, e1, by omega, e3⟩
  ·simp at hL; subst hL;exact ⟨_, j, zki pn.pos, by omega, hp⟩
theorem TInv.done {S : ze -> Bool} {P : List ze} {j : Nat} {Fs : List (List Crk)} {A : List (ze × List Hd)} (h : TInv S P j Fs A) (hj : P.length <= j) : Lps S Fs := by
 refine ⟨h.fam.each, fun c hc => ?_, h.fam.sorted⟩;apply Classical.byContradiction
 intro hn;obtain ⟨i, hi, e⟩ := h.rem c hc hn;have := (List.getElem?_eq_some_iff.1 e).1;omega
theorem TInv.init {S : ze -> Bool} {A : List (ze × List Hd)} (hA : zec A fun c => isC S c = true) {P : List ze} (hP : P.Perm (A.map (·.1))) : TInv S P 0 [] A := by
 refine ⟨⟨by simp, by simp⟩, hA.congr fun c => by simp [onF], fun c hc _ => ?_, by simp, by simp⟩;obtain ⟨hs, e, hm⟩ := (hA.mem c.p c.h).1 hc;have hp := zes (a := c.p) A;have : c.p ∈ P := by
  rw [hP.mem_iff];apply Classical.byContradiction
  intro hn;rw [zpu.2 hn] at hp;rw [hp] at e; cases e
 obtain ⟨i, hi⟩ := List.mem_iff_getElem?.1 this;exact ⟨i, Nat.zero_le _, hi⟩
theorem heads_near {A : List (ze × List Hd)} {C : List Crk} {S : ze -> Bool} (hC : zdg S C) (hA : zec A fun c => isC S c = true) {p : ze} (hp : p ∈ A.map (·.1)) : ∃ c ∈ C, c.p = p := by
 have := zes (a := p) A;cases hq : zfb p A with
 | none => exact absurd hp (zpu.1 hq)
 | some j =>
  rw [hq] at this;obtain ⟨hs, _, e⟩ := this;obtain ⟨h1, h2⟩ := hA.some _ _ e;obtain ⟨k, hk⟩ := List.exists_mem_of_ne_nil _ h1;exact ⟨⟨p, k⟩, (hC _).2 ((hA.mem p k).2 ⟨hs, e, hk⟩), rfl⟩
theorem lps_ex {S : ze -> Bool} {C : List Crk} (hC : zdg S C) : ∃ Ls, Lps S Ls := by
 have key : ∀ l : List Crk, (∀ c ∈ l, isC S c = true) -> ∃ Ls, Fam S Ls /\ ∀ c ∈ l, onF Ls c := by
  intro l;induction l with
  | nil => exact fun _ => ⟨[], ⟨by simp, by simp⟩, by simp⟩
  | cons c l ih =>
   intro h;obtain ⟨Ls, h1, h2⟩ := ih fun d hd => h d (by simp [hd]);by_cases hc : onF Ls c
   ·exact ⟨Ls, h1, fun d hd => by rcases List.mem_cons.1 hd with rfl | hd; exact hc; exact h2 d hd⟩
   ·obtain ⟨e, n, k, he, pe, hk, hn, hce, _, le⟩ := lp_ex hC (h c (by simp));have hL : zsh S (orb (suc S) n e) := ⟨e, n, he, pe, rfl, le⟩
    have hcm : c ∈ orb (suc S) n e := zbt.2 ⟨k, hk, hce⟩;obtain ⟨Ms, m1, _, m3⟩ := h1.ins hL fun x hx ⟨M, hM, hm⟩ => hc ⟨M, hM, by rw [<- lp_uniq hL (h1.each M hM) hx hm hC]; exact hcm⟩;refine ⟨Ms, m1, fun d hd => ?_⟩;rcases List.mem_cons.1 hd with rfl | hd
    ·exact ⟨_, (m3 _).2 (.inl rfl), hcm⟩
    ·obtain ⟨M, hM, hm⟩ := h2 d hd;exact ⟨M, (m3 _).2 (.inr hM), hm⟩
 obtain ⟨Ls, h1, h2⟩ := key C fun c hc => (hC c).1 hc;exact ⟨Ls, h1.each, fun c hc => h2 c ((hC c).2 hc), h1.sorted⟩


def LbAt (R : List Row) (y : Int) (i : Nat) : Prop := i <= R.length /\ (∀ j w, R[j]? = some w -> (j < i ↔ w.y < y))
theorem lb_exists : ∀ {R : List Row}, (R.Pairwise fun a b => a.y < b.y) -> ∀ y, ∃ i, LbAt R y i
 | [], _, y => ⟨0, by simp, fun j w h => by simp at h⟩
 | w :: R, h, y => by
  have h1 := List.pairwise_cons.1 h;by_cases e : w.y < y
  ·obtain ⟨i, hi, hp⟩ := lb_exists h1.2 y;refine ⟨i + 1, by simp; exact hi, fun j v hv => ?_⟩;cases j with
   | zero => simp at hv; subst hv; simp [e]
   | succ j => simp at hv; have := hp j v hv; omega
  ·refine ⟨0, by simp, fun j v hv => ?_⟩;cases j with
   | zero => simp at hv; subst hv; simp; omega
   | succ j => simp at hv; have := h1.1 v (List.mem_of_getElem? hv); omega

theorem rowcmp_ok (w : Row) (y : Int) : PC Tryz.prog 175 [.agg w.row, .int .i64 y] (.p (.int .i64 (zhj w.y y))) := by
 have c1 := ztv w.y y;obtain ⟨wy, wr⟩ := w;simp only at c1;generalize zhj wy y = z at *;refine pw cx Tryz.func175 Tryz.ntmps175 ?_;refine rx cx [] (fun K hK => by simp [push_cast, Row.row]; (repeat refine ob ?_); exact hK) ?_;refine rx cx [(3, .p (.int .i64 z))] (fun K hK => by simp [push_cast, c1, Row.row]; (repeat refine ob ?_); exact hK) ?_;simp [push_cast]

theorem cmpI_lt {a b : Int} : (zhj a b < 0) ↔ a < b := by unfold zhj; split <;> (try split) <;> omega
theorem cmpI_eq {a b : Int} : (zhj a b = 0) ↔ a = b := by unfold zhj; split <;> (try split) <;> omega

set_option maxHeartbeats 1000000 in
theorem bsearch_ok (R : List Row) (y : Int) (i : Nat) (hl : R.length <= 1000000) (hi : LbAt R y i) : PC Tryz.prog 174 [zu R, .int .i64 y, .fn (.func 175) []] (.p (.tup [.int .i64 i, .bool (match R[i]? with | some w => decide (w.y = y) | none => false)])) := by
 obtain ⟨hil, hip⟩ := hi;refine pw cx Tryz.func174 Tryz.ntmps174 ?_;iterate 3 refine rg cx ?_
 refine zz (β := Nat × Nat) (fun b => ⟨49, [(0, .d (zu R)), (1, .d (.int .i64 y)), (2, .d (.fn (.func 175) [])), (8, .d (.int .i64 R.length)), (9, .d (.int .i64 b.1)), (10, .d (.int .i64 b.2))], [], 0⟩) (fun b => b.1 <= i /\ i <= b.2 /\ b.2 <= R.length) (fun b => b.2 - b.1) (0, R.length) ?_ ⟨Nat.zero_le _, hil, Nat.le_refl _⟩ ?_
 ·refine wk []
 ·rintro ⟨lo, hi⟩ ⟨h1, h2, h3⟩;simp only at h1 h2 h3;refine Nav.imp ?_;refine rg cx ?_;refine awp_cd (decide (lo < hi)) (fun hb => ?_) fun hb => ?_
  ·have hlh : lo < hi := by simpa using hb
   have e1 := wI ((lo : Int) + hi);have e2 : IntKind.u64.wrap ((lo : Int) + hi) = (lo : Int) + hi := by rw [IntKind.wrap_u64]; omega
   obtain ⟨h, hh⟩ : ∃ h : Nat, h = (lo + hi) / 2 := ⟨_, rfl⟩
   have e3 : ((lo : Int) + hi).fdiv (2 ^ min 1 IntKind.u64.bits) = h := by
    have : (2 : Int) ^ min 1 IntKind.u64.bits = 2 := by decide
    rw [this, Int.fdiv_eq_ediv_of_nonneg _ (by omega)]; omega
   have e4 := wI ((h : Int));have hhl : h < R.length := by omega
   obtain ⟨w, hw⟩ := zak hhl;have hip' := hip h w hw;have c1 := rowcmp_ok w y;have hz : (decide (zhj w.y y < 0)) = decide (w.y < y) := by rw [Bool.eq_iff_iff]; simp [cmpI_lt]
   have e5 := wI ((h : Int) + 1);generalize zhj w.y y = z at *;refine rx cx [] (fun K hK => by simp [push_cast, e1, e2, e3, e4]; (repeat refine ob ?_); exact hK) ?_;refine rx cx [(6, .p (.int .i64 z))] (fun K hK => by simp [push_cast, hw, c1, hz]; (repeat refine ob ?_); exact hK) ?_;refine awp_cd (decide (w.y < y)) (fun hb => ?_) fun hb => ?_
   ·have hb : w.y < y := by simpa using hb
    refine rx cx [] (fun K hK => by simp [push_cast, e5]; (repeat refine ob ?_); exact hK) ?_;refine ⟨(h + 1, hi), ⟨by simp only; omega, h2, h3⟩, by simp only; omega, ?_⟩;refine wk []
   ·have hb : ¬ w.y < y := by simpa using hb
    refine rg cx ?_;refine ⟨(lo, h), ⟨h1, by simp only; omega, by simp only; omega⟩, by simp only; omega, ?_⟩;refine wk []
  ·have hlh : ¬ lo < hi := by simpa using hb
   have : lo = i := by omega
   subst this;cases hw : R[lo]? with
   | none =>
    have hge : ¬ lo < R.length := fun h => by rw [List.getElem?_eq_getElem h] at hw; cases hw
    have hge' : ¬ (lo : Int) < R.length := by omega
    refine rx cx [(11, .skip)] (fun K hK => by simp [push_cast, hw, hge, hge']; (repeat refine ob ?_); exact hK) ?_;simp [push_cast, hw]
   | some w =>
    have hlt := (List.getElem?_eq_some_iff.1 hw).1;have hlt' : (lo : Int) < R.length := by omega
    have c1 := rowcmp_ok w y;have hz : (zhj w.y y == 0) = decide (w.y = y) := by rw [Bool.eq_iff_iff]; simp [cmpI_eq]
    generalize zhj w.y y = z at *;refine rx cx [(11, .p (.int .i64 z))] (fun K hK => by simp [push_cast, hw, c1, hlt', Row.row, hz]; (repeat refine ob ?_); exact hK) ?_;simp [push_cast, hlt, hz]

theorem row_ok (R : List Row) (y : Int) (hR : zdi R) (hv : zo R = true) : PC Tryz.prog 122 [.agg (zt R), .int .i64 y] (.p (zn (zab R y))) := by
 obtain ⟨i, hi⟩ := lb_exists (zlf hv) y;have c1 := bsearch_ok R y i hR.1 hi;have hl := hR.1;cases hw : R[i]? with
 | none =>
  rw [hw] at c1;simp only at c1;have hn : zab R y = [] := by
   refine zhx fun w hwm hy => ?_;obtain ⟨j, hj⟩ := List.mem_iff_getElem?.1 hwm;have h1 := (List.getElem?_eq_some_iff.1 hj).1;have h2 : ¬ i < R.length := fun h => by rw [List.getElem?_eq_getElem h] at hw; cases hw
   have := (hi.2 j w hj).1 (by omega);omega
  rw [hn];refine pw cx Tryz.func122 Tryz.ntmps122 ?_;refine rg cx ?_;refine rx cx [(3, .p (.tup [.int .i64 i, .bool false]))] (fun K hK => by simp [push_cast, c1]; (repeat refine ob ?_); exact hK) ?_;refine rg cx ?_;refine awp_cd true (fun hb => ?_) fun hb => ?_
  ·refine rg cx ?_;simp [push_cast]
  ·simp at hb
 | some w =>
  rw [hw] at c1;simp only at c1;have hwm := List.mem_of_getElem? hw;by_cases e : w.y = y
  ·rw [decide_eq_true e] at c1;have hn : zab R y = w.runs := by rw [<- e]; exact zfn hv hwm
   rw [hn];obtain ⟨wy, wr⟩ := w;refine pw cx Tryz.func122 Tryz.ntmps122 ?_;refine rg cx ?_;refine rx cx [(3, .p (.tup [.int .i64 i, .bool true]))] (fun K hK => by simp [push_cast, c1]; (repeat refine ob ?_); exact hK) ?_;refine rg cx ?_;refine awp_cd false (fun hb => ?_) fun hb => ?_
   ·simp at hb
   ·refine rx cx [] (fun K hK => by simp [push_cast, hw, Row.row]; (repeat refine ob ?_); exact hK) ?_;simp [push_cast]
  ·rw [decide_eq_false e] at c1;have hn : zab R y = [] := by
    refine zhx fun v hvm hy => ?_;obtain ⟨j, hj⟩ := List.mem_iff_getElem?.1 hvm;have h1 := hi.2 j v hj;have h2 := hi.2 i w hw;rcases Nat.lt_trichotomy j i with h | h | h
    ·have := h1.1 h; omega
    ·subst h; rw [hw] at hj; cases hj; exact e hy
    ·have := zul hv j i v w h hj hw; omega
   rw [hn];refine pw cx Tryz.func122 Tryz.ntmps122 ?_;refine rg cx ?_;refine rx cx [(3, .p (.tup [.int .i64 i, .bool false]))] (fun K hK => by simp [push_cast, c1]; (repeat refine ob ?_); exact hK) ?_;refine rg cx ?_;refine awp_cd true (fun hb => ?_) fun hb => ?_
   ·refine rg cx ?_;simp [push_cast]
   ·simp at hb


def Hd.dx : Hd -> Int | .e => 1 | .n => 0 | .w => -1 | .s => 0
def Hd.dy : Hd -> Int | .e => 0 | .n => 1 | .w => 0 | .s => -1

end Go.Proofs.YtdddknniooimmaaGreat
