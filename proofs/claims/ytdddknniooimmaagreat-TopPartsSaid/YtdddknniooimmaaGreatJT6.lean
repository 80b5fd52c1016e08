/-
  Texts of this seat put together: T1, T2, T3, T4, G2, G3, X1, X2.
-/
import Derived.Test.YtdddknniooimmaaGreatJT5
set_option linter.unusedVariables false
set_option linter.unusedSimpArgs false
set_option maxRecDepth 100000
namespace Go.Proofs.YtdddknniooimmaaGreat
open Go.Abs

def zhu (a b : Int) : Int := if a < b then -1 else if b < a then 1 else 0
def intRow (x : Int) : List D := [.int .i64 x]
abbrev encInts (l : List Int) : D := .sl (l.map intRow)
def orI (a b : Int) : Int := if a ≠ 0 then a else b

theorem isNaN_ok (a : Int) : PC Tryz.prog 166 [.int .i64 a] (.p (.bool false)) := by
 refine pw cx Tryz.func166 Tryz.ntmps166 ?_;refine rg cx ?_;refine rg cx ?_;simp [push_cast]

theorem zul (a b : Int) : PC Tryz.prog 117 [.int .i64 a, .int .i64 b] (.p (.int .i64 (zhu a b))) := by
 have c1 := isNaN_ok a;have c2 := isNaN_ok b;refine pw cx Tryz.func117 Tryz.ntmps117 ?_;refine rg cx ?_;refine rx cx [(1, .p (.bool false))] (fun K hK => by simp [push_cast, c1]; (repeat refine ob ?_); exact hK) ?_;refine rx cx [(1, .p (.bool false))] (fun K hK => by simp [push_cast, c2]; (repeat refine ob ?_); exact hK) ?_;refine rg cx ?_;refine awp_cd false (fun hb => ?_) fun hb => ?_
 ·simp at hb
 ·refine rg cx ?_;refine awp_cd false (fun hb => ?_) fun hb => ?_
  ·simp at hb
  ·refine rg cx ?_;refine awp_cd (decide (a < b)) (fun hb => ?_) fun hb => ?_
   ·have hb : a < b := by simpa using hb
    refine rg cx ?_;simp [push_cast, zhu, hb]
   ·have hb : ¬ a < b := by simpa using hb
    refine rg cx ?_;refine awp_cd (decide (b < a)) (fun hb => ?_) fun hb => ?_
    ·have hb2 : b < a := by simpa using hb
     refine rg cx ?_;simp [push_cast, zhu, hb, hb2];try omega
    ·have hb2 : ¬ b < a := by simp at hb; omega
     refine rg cx ?_;simp [push_cast, zhu, hb, hb2];try omega

theorem or_ok (a b : Int) : PC Tryz.prog 116 [encInts [a, b]] (.p (.int .i64 (orI a b))) := by
 have hlen : (encInts [a, b]) = .sl [[.int .i64 a], [.int .i64 b]] := rfl;refine pw cx Tryz.func116 Tryz.ntmps116 ?_;iterate 3 refine rg cx ?_
 refine zu (β := Nat) (fun k => ⟨18, [(3, .d (.int .i64 0)), (6, .d (encInts [a, b])), (7, .d (.int .i64 2)), (8, .d (.int .i64 k))], [], 0⟩) (fun k => k <= 2 /\ (0 < k -> a = 0) /\ (1 < k -> b = 0)) (fun k => 2 - k) 0 ?_ ⟨by omega, by omega, by omega⟩ ?_
 ·refine wk []
 ·rintro k ⟨hk, h1, h2⟩;refine Nav.imp ?_;by_cases e0 : k = 0
  ·subst e0;refine rg cx ?_;refine awp_cd true (fun hb => ?_) fun hb => ?_
   ·refine rx cx [] (fun K hK => by simp [push_cast, intRow]; (repeat refine ob ?_); exact hK) ?_;refine rg cx ?_;refine ze (by simp [push_cast] <;> exact rfl) (fun hb => ?_) (fun hb => ?_) <;> (refine Nav.imp ?_)
    ·simp at hb;refine rg cx ?_;simp [push_cast, orI, hb]
    ·simp at hb;refine rg cx ?_;refine ⟨1, ⟨by omega, fun _ => hb, by omega⟩, by omega, ?_⟩;refine wk []
   ·simp at hb
  ·by_cases e1 : k = 1
   ·subst e1;have h1 := h1 (by omega);refine rg cx ?_;refine awp_cd true (fun hb => ?_) fun hb => ?_
    ·refine rx cx [] (fun K hK => by simp [push_cast, intRow]; (repeat refine ob ?_); exact hK) ?_;refine rg cx ?_;refine ze (by simp [push_cast] <;> exact rfl) (fun hb => ?_) (fun hb => ?_) <;> (refine Nav.imp ?_)
     ·simp at hb;refine rg cx ?_;simp [push_cast, orI, hb, h1]
     ·simp at hb;refine rg cx ?_;refine ⟨2, ⟨by omega, fun _ => h1, fun _ => hb⟩, by omega, ?_⟩;refine wk []
    ·simp at hb
   ·have e2 : k = 2 := by omega
    subst e2;have h1 := h1 (by omega);have h2 := h2 (by omega);refine rg cx ?_;refine awp_cd false (fun hb => ?_) fun hb => ?_
    ·simp at hb
    ·refine rg cx ?_;simp [push_cast, orI, h1, h2]

def cfO (a b : zf) : Int := orI (zhu a.y b.y) (zhu a.x b.x)
theorem ofCmp_ok (a b : zf) : PC Tryz.prog 115 [.agg a.row, .agg b.row] (.p (.int .i64 (cfO a b))) := by
 have c1 := zul a.y b.y;have c2 := zul a.x b.x;have c3 := or_ok (zhu a.y b.y) (zhu a.x b.x);have hc : cfO a b = orI (zhu a.y b.y) (zhu a.x b.x) := rfl;rw [hc];generalize orI (zhu a.y b.y) (zhu a.x b.x) = z at *;generalize zhu a.y b.y = x at *;generalize zhu a.x b.x = y at *;refine pw cx Tryz.func115 Tryz.ntmps115 ?_;refine rg cx ?_;refine rd cx mixed [(4, .p (.int .i64 x)), (9, .p (.int .i64 y)), (10, .f (encInts [x, y])), (11, .p (.int .i64 z))] (fun K hK => by simp [push_cast, c1, c2, c3, intRow]; (repeat refine ob ?_); exact hK) ?_;simp [push_cast]

theorem clone_ok (l : List zf) (hl : l.length <= 1000000) : PC Tryz.prog 114 [zaj l] (.o 67 2 (l.map zf.row)) := by
 have h16 : l.length * 16 <= 140737488355328 := by omega
 refine pw cx Tryz.func114 Tryz.ntmps114 ?_;refine rg cx ?_;refine rg cx ?_;refine awp_ub 4 (by simp [push_cast]; exact ⟨rfl, rfl⟩) fun bu hu1 hu2 => ?_;refine awp_cd bu (fun hb => ?_) fun hb => ?_
 ·have hl0 : l = [] := by simpa using hu1 hb
  subst hl0;refine rg cx ?_;simp [push_cast]
 ·refine rx cx [] (fun K hK => by simp [push_cast, h16]; (repeat refine ob ?_); exact hK) ?_;simp [push_cast]

def bef (a b : zf) : Bool := decide (a.y < b.y) || (decide (a.y = b.y) && decide (a.x < b.x))
theorem bef_leY {a b : zf} (h : bef a b = false) : leY b a = true := by simp [bef, leY] at *; omega


def ofR (l : List zf) : List Row := if l.all onG then build (ztm l) else []
def ofE (l : List zf) : Int := if l.all onG then 0 else 8
abbrev ofD (l : List zf) : D := .tup [.agg (zp (ofR l)), .int .i64 (ofE l)]

theorem addC_small {R : List Row} {n : Nat} (c : zf) (h1 : R.length <= n) (h2 : ∀ w ∈ R, w.runs.length <= n) : (zti R c).length <= n + 1 /\ ∀ w ∈ zti R c, w.runs.length <= n + 1 := by
 refine ⟨Nat.le_trans (addC_len R c) (by omega), fun w hw => ?_⟩;rcases List.eq_nil_or_concat R with rfl | ⟨P, v, rfl⟩
 ·rw [zwy] at hw; simp at hw; subst hw; simp
 ·rw [List.concat_eq_append] at *;rw [zom] at hw;split at hw
  ·rcases List.mem_append.1 hw with hw | hw
   ·have := h2 w (by simp [hw]); omega
   ·simp at hw;subst hw;have hv := h2 v (by simp);simp only;rcases List.eq_nil_or_concat v.runs with e | ⟨L, r, e⟩
    ·rw [e, addRun_nil]; simp
    ·rw [List.concat_eq_append] at e;rw [e] at hv ⊢;rw [zqf];split <;> simp at hv ⊢ <;> omega
  ·rcases List.mem_append.1 hw with hw | hw
   ·have := h2 w hw; omega
   ·simp at hw; subst hw; simp
theorem build_small (l : List zf) : (build l).length <= l.length /\ ∀ w ∈ build l, w.runs.length <= l.length := by
 have : ∀ k, k <= l.length -> (build (l.take k)).length <= k /\ ∀ w ∈ build (l.take k), w.runs.length <= k := by
  intro k;induction k with
  | zero => intro _; simp [build]
  | succ k ih =>
   intro hk;obtain ⟨c, hc⟩ := zap (show k < l.length by omega);rw [build_take hc];have := ih (by omega);exact addC_small c this.1 this.2
 have := this l.length (Nat.le_refl _)
 rwa [List.take_length] at this


theorem ltY_uniq : ∀ {l l' : List zf}, l.Pairwise ltY -> l'.Pairwise ltY -> (∀ c, c ∈ l ↔ c ∈ l') -> l = l' := by
 intro l l' h1 h2 h;refine zos ?_ (h1.imp fun h => leY_of_lt h) (h2.imp fun h => leY_of_lt h);exact (List.perm_ext_iff_of_nodup (zpc h1) (zpc h2)).2 h
theorem region_uniq {R S : List Row} (hR : zo R = true) (hS : zo S = true) (h : ∀ c, c ∈ zl R ↔ c ∈ zl S) : R = S := by
 rw [<- zsd hR, <- zsd hS, ltY_uniq (zhv hR) (zhv hS) h]

def inR (l : List Run) (x : Int) : Bool := l.any fun r => decide (r.a <= x) && decide (x < r.b)
theorem zai {l : List Run} {x : Int} : inR l x = true ↔ ∃ r ∈ l, r.a <= x /\ x < r.b := by simp [inR]
def zfn (l : List Run) : Prop := (∀ r ∈ l, r.a < r.b) /\ l.Pairwise fun p r => p.b < r.a
theorem rv_gap {l : List Run} (h : zal l = true) {k : Nat} {r p : Run} (hr : l[k + 1]? = some r) (hp : l[k]? = some p) : p.b < r.a := by
 have hk := (List.getElem?_eq_some_iff.1 hr).1;have := zcc h hk;rw [zhd hr (by simpa using hp)] at this;simp at this;omega
theorem rv_lt {l : List Run} (h : zal l = true) : ∀ (j i : Nat) (r p : Run), i < j -> l[j]? = some r -> l[i]? = some p -> p.b < r.a
 | 0, i, r, p, hij, _, _ => by omega
 | j + 1, i, r, p, hij, hr, hp => by
  by_cases e : i = j
  ·subst e; exact rv_gap h hr hp
  ·have hj := (List.getElem?_eq_some_iff.1 hr).1;obtain ⟨q, hq⟩ : ∃ q, l[j]? = some q := zap (by omega);have h1 := rv_lt h j i q p (by omega) hq hp;have h2 := rv_gap h hr hq;have h3 := zem h hq;omega
theorem zox {l : List Run} : zal l = true ↔ zfn l /\ ∀ r ∈ l, zjn r = true := by
 constructor
 ·intro h;refine ⟨⟨fun r hr => ?_, ?_⟩, fun r hr => ?_⟩
  ·obtain ⟨i, hi⟩ := List.mem_iff_getElem?.1 hr; exact (zem h hi).1
  ·rw [List.pairwise_iff_getElem];intro i j hi hj hij;exact rv_lt h j i l[j] l[i] hij (List.getElem?_eq_getElem hj) (List.getElem?_eq_getElem hi)
  ·obtain ⟨i, hi⟩ := List.mem_iff_getElem?.1 hr; exact (zem h hi).2
 ·rintro ⟨⟨h1, h2⟩, h3⟩;apply List.all_eq_true.2
  intro i hi;have hi : i < l.length := by simpa using hi
  obtain ⟨r, hr⟩ := zap hi;obtain ⟨p, hp⟩ : ∃ q, l[i - 1]? = some q := zap (by omega);rw [zhd hr hp];have hm := List.mem_of_getElem? hr;simp only [Bool.and_eq_true, decide_eq_true_eq, Bool.or_eq_true, beq_iff_eq];refine ⟨⟨h1 r hm, h3 r hm⟩, ?_⟩;by_cases e : i = 0
  ·exact .inl e
  ·right
   obtain ⟨hi', rfl⟩ := List.getElem?_eq_some_iff.1 hr;obtain ⟨hp', rfl⟩ := List.getElem?_eq_some_iff.1 hp;exact List.pairwise_iff_getElem.1 h2 (i - 1) i hp' hi' (by omega)
theorem zfd {l : List Run} : zfm l = true ↔ l ≠ [] /\ zfn l /\ ∀ r ∈ l, -4096 <= r.a /\ r.b <= 4096 := by
 constructor
 ·intro h;have hne : l ≠ [] := by rintro rfl; simp [zfm] at h
  refine ⟨hne, (zox.1 (zfc h)).1, fun r hr => ?_⟩;obtain ⟨i, hi⟩ := List.mem_iff_getElem?.1 hr;have := ziy h hi;omega
 ·rintro ⟨hne, h1, h2⟩;have hrv : zal l = true := zox.2 ⟨h1, fun r hr => by
   have := h2 r hr; have := h1.1 r hr; simp [zjn]; omega⟩
  have hlp := List.length_pos_iff.2 hne;obtain ⟨f, hf⟩ : ∃ f, l[0]? = some f := zap hlp;obtain ⟨z, hz⟩ : ∃ f, l[l.length - 1]? = some f := zap (by omega);rw [fine_iff hf hz, hrv];have a1 := h2 f (List.mem_of_getElem? hf);have a2 := h1.1 f (List.mem_of_getElem? hf);have a3 := h2 z (List.mem_of_getElem? hz);have a4 := h1.1 z (List.mem_of_getElem? hz);simp [okB]; omega

def bnd (l : List Run) (i : Nat) : Int := match l[i / 2]? with
 | some r => if i % 2 = 1 then r.b else r.a
 | none => 1048577
theorem zwu {l : List Run} {k : Nat} {r : Run} (h : l[k]? = some r) : bnd l (2 * k) = r.a := by
 have e : 2 * k / 2 = k := by omega
 have e2 : ¬ 2 * k % 2 = 1 := by omega
 simp only [bnd, e, h, if_neg e2]
theorem bnd_odd {l : List Run} {k : Nat} {r : Run} (h : l[k]? = some r) : bnd l (2 * k + 1) = r.b := by
 have e : (2 * k + 1) / 2 = k := by omega
 have e2 : (2 * k + 1) % 2 = 1 := by omega
 simp only [bnd, e, h, if_pos e2]
theorem zlt (l : List Run) : bnd l (2 * l.length) = 1048577 := by
 have e : 2 * l.length / 2 = l.length := by omega
 simp [bnd, e]
theorem bnd_cases {l : List Run} {i : Nat} (h : i < 2 * l.length) : ∃ k r, l[k]? = some r /\ (i = 2 * k /\ bnd l i = r.a \/ i = 2 * k + 1 /\ bnd l i = r.b) := by
 obtain ⟨r, hr⟩ : ∃ r, l[i / 2]? = some r := zap (by omega);refine ⟨i / 2, r, hr, ?_⟩;by_cases e : i % 2 = 1
 ·right
  have e1 : i = 2 * (i / 2) + 1 := by omega
  exact ⟨e1, (congrArg (bnd l) e1).trans (bnd_odd hr)⟩
 ·left
  have e1 : i = 2 * (i / 2) := by omega
  exact ⟨e1, (congrArg (bnd l) e1).trans (zwu hr)⟩
theorem bnd_step {l : List Run} (h : zal l = true) {i : Nat} (hi : i < 2 * l.length) : bnd l i < bnd l (i + 1) := by
 obtain ⟨k, r, hr, ⟨e1, e2⟩ | ⟨e1, e2⟩⟩ := bnd_cases hi
 ·rw [e2, e1, bnd_odd hr]; exact (zem h hr).1
 ·by_cases hk : k + 1 < l.length
  ·obtain ⟨s, hs⟩ := zap hk;rw [e2, e1, show 2 * k + 1 + 1 = 2 * (k + 1) from by omega, zwu hs];exact rv_gap h hs hr
  ·have := (List.getElem?_eq_some_iff.1 hr).1;rw [e2, e1, show 2 * k + 1 + 1 = 2 * l.length from by omega, zlt];have := zln (zem h hr).2;omega
theorem bnd_asc {l : List Run} (h : zal l = true) : ∀ (n i : Nat), i + n <= 2 * l.length -> bnd l i <= bnd l (i + n)
 | 0, i, _ => Int.le_refl _
 | n + 1, i, hi => by
  have h1 := bnd_asc h n i (by omega);have h2 := bnd_step h (i := i + n) (by omega);rw [show i + (n + 1) = i + n + 1 from by omega];omega
theorem zjr {l : List Run} (h : zal l = true) {i : Nat} (hi : i < 2 * l.length) : -1048576 <= bnd l i /\ bnd l i <= 1048576 := by
 obtain ⟨k, r, hr, ⟨e1, e2⟩ | ⟨e1, e2⟩⟩ := bnd_cases hi <;>
 ·have := zln (zem h hr).2;omega
theorem zmg {l : List Run} (h : zal l = true) {p : Nat} {y : Int} (hp : p <= 2 * l.length) (h1 : ∀ i, i < p -> bnd l i <= y) (h2 : p < 2 * l.length -> y < bnd l p) : inR l y = (p % 2 == 1) := by
 apply Bool.eq_iff_iff.2
 rw [zai];simp only [beq_iff_eq];constructor
 ·rintro ⟨r, hr, h3, h4⟩;obtain ⟨k, hk⟩ := List.mem_iff_getElem?.1 hr;have hkl := (List.getElem?_eq_some_iff.1 hk).1;apply Classical.byContradiction
  intro he;have e : p = 2 * (p / 2) := by omega
  by_cases hlt : k < p / 2
  ·have := h1 (2 * k + 1) (by omega);rw [bnd_odd hk] at this;omega
  ·have h5 := h2 (by omega);have h6 := bnd_asc h (2 * k - p) p (by omega);rw [show p + (2 * k - p) = 2 * k from by omega, zwu hk] at h6;omega
 ·intro he;have e : p = 2 * (p / 2) + 1 := by omega
  obtain ⟨r, hr⟩ : ∃ r, l[p / 2]? = some r := zap (by omega);refine ⟨r, List.mem_of_getElem? hr, ?_, ?_⟩
  ·have := h1 (2 * (p / 2)) (by omega)
   rwa [zwu hr] at this
  ·have := h2 (by omega);rw [e, bnd_odd hr] at this;exact this

def swX (a b : List Run) (p q : Nat) : Int := min (bnd a p) (bnd b q)
def swP (a : List Run) (x : Int) (p : Nat) : Nat := if bnd a p = x then p + 1 else p
def zkf (now o : Bool) (out : List Run) (x : Int) : List Run :=
 if now && !o then out ++ [⟨x, 0⟩] else if !now && o then out.dropLast ++ [⟨(out.getLast?.getD ⟨0, 0⟩).a, x⟩] else out
def swF (f : Bool -> Bool -> Bool) (a b : List Run) : Nat -> Nat -> Nat -> List Run -> Bool -> List Run
 | 0, _, _, out, _ => out
 | n + 1, p, q, out, o =>
  if p = 2 * a.length /\ q = 2 * b.length then out else
   swF f a b n (swP a (swX a b p q) p) (swP b (swX a b p q) q)
    (zkf (f (swP a (swX a b p q) p % 2 == 1) (swP b (swX a b p q) q % 2 == 1)) o out (swX a b p q)) (f (swP a (swX a b p q) p % 2 == 1) (swP b (swX a b p q) q % 2 == 1))
def sweep (f : Bool -> Bool -> Bool) (a b : List Run) : List Run := if zal a && zal b then swF f a b (2 * a.length + 2 * b.length) 0 0 [] false else []

structure SwAt (f : Bool -> Bool -> Bool) (a b : List Run) (p q : Nat) (out : List Run) (o : Bool) (X : Int) (C : List Run) (s : Int) : Prop where
 hp : p <= 2 * a.length
 hq : q <= 2 * b.length
 p1 : ∀ i, i < p -> bnd a i <= X
 p2 : p < 2 * a.length -> X < bnd a p
 q1 : ∀ i, i < q -> bnd b i <= X
 q2 : q < 2 * b.length -> X < bnd b q
 eout : out = if o then C ++ [⟨s, 0⟩] else C
 ap : zfn C
 le : ∀ r ∈ C, r.b <= X
 so : o = true -> s <= X /\ ∀ r ∈ C, r.b < s
 eo : o = f (p % 2 == 1) (q % 2 == 1)
 mem : ∀ y, y <= X -> (f (inR a y) (inR b y) = true ↔ (inR C y = true \/ (o = true /\ s <= y)))

theorem swP_facts {a : List Run} (ha : zal a = true) {p : Nat} {X x : Int} (hp : p <= 2 * a.length) (p1 : ∀ i, i < p -> bnd a i <= X) (hX : X < x) (hx : x <= bnd a p) (hb : x <= 1048576) :
  swP a x p <= 2 * a.length /\ (∀ i, i < swP a x p -> bnd a i <= x) /\ (swP a x p < 2 * a.length -> x < bnd a (swP a x p)) := by
 unfold swP;split
 ·rename_i e;have hlt : p < 2 * a.length := by
   apply Classical.byContradiction
   intro h;have h3 : bnd a p = 1048577 := by rw [show p = 2 * a.length from by omega]; exact zlt a
   omega
  refine ⟨hlt, fun i hi => ?_, fun h => ?_⟩
  ·by_cases e2 : i = p
   ·subst e2; omega
   ·have := p1 i (by omega); omega
  ·have := bnd_step ha hlt; omega
 ·rename_i e;refine ⟨hp, fun i hi => by have := p1 i hi; omega, fun h => by omega⟩

theorem inR_app (C : List Run) (r : Run) (y : Int) : inR (C ++ [r]) y = (inR C y || (decide (r.a <= y) && decide (y < r.b))) := by simp [inR]
theorem sw_step {f : Bool -> Bool -> Bool} {a b : List Run} (ha : zal a = true) (hb : zal b = true) {p q : Nat} {out : List Run} {o : Bool} {X : Int} {C : List Run} {s : Int} (h : SwAt f a b p q out o X C s) (hn : ¬ (p = 2 * a.length /\ q = 2 * b.length)) :
  X < swX a b p q /\ ∃ C' s', SwAt f a b (swP a (swX a b p q) p) (swP b (swX a b p q) q) (zkf (f (swP a (swX a b p q) p % 2 == 1) (swP b (swX a b p q) q % 2 == 1)) o out (swX a b p q)) (f (swP a (swX a b p q) p % 2 == 1) (swP b (swX a b p q) q % 2 == 1)) (swX a b p q) C' s' := by
 obtain ⟨hp, hq, p1, p2, q1, q2, hout, hap, hle, hso, ho, hmem⟩ := h;have x1 : swX a b p q <= bnd a p := Int.min_le_left _ _;have x2 : swX a b p q <= bnd b q := Int.min_le_right _ _;have x3 : swX a b p q = bnd a p \/ swX a b p q = bnd b q := by unfold swX; omega
 have hXb : swX a b p q <= 1048576 := by
  by_cases e : p < 2 * a.length
  ·have := zjr ha e; omega
  ·have := zjr hb (i := q) (by omega); omega
 have hX : X < swX a b p q := by
  rcases x3 with e | e
  ·rw [e];refine p2 ?_;apply Classical.byContradiction
   intro h;have h3 : bnd a p = 1048577 := by rw [show p = 2 * a.length from by omega]; exact zlt a
   omega
  ·rw [e];refine q2 ?_;apply Classical.byContradiction
   intro h;have h3 : bnd b q = 1048577 := by rw [show q = 2 * b.length from by omega]; exact zlt b
   omega
 obtain ⟨P1, P2, P3⟩ := swP_facts ha hp p1 hX x1 hXb;obtain ⟨Q1, Q2, Q3⟩ := swP_facts hb hq q1 hX x2 hXb;generalize swX a b p q = x at *;generalize swP a x p = p' at *;generalize swP b x q = q' at *;have hbet : ∀ y, X <= y -> y < x -> f (inR a y) (inR b y) = o := fun y h1 h2 => by
  rw [zmg ha hp (fun i hi => Int.le_trans (p1 i hi) h1) (fun _ => by omega), zmg hb hq (fun i hi => Int.le_trans (q1 i hi) h1) (fun _ => by omega)];exact ho.symm
 have hat : f (inR a x) (inR b x) = f (p' % 2 == 1) (q' % 2 == 1) := by rw [zmg ha P1 P2 P3, zmg hb Q1 Q2 Q3]
 generalize hnow : f (p' % 2 == 1) (q' % 2 == 1) = now at *;have hnoC : ∀ y, X <= y -> inR C y = false := fun y h1 => by
  rw [Bool.eq_false_iff];intro hc;obtain ⟨r, hr, h2, h3⟩ := zai.1 hc;have := hle r hr;omega
 refine ⟨hX, ?_⟩;have dich : ∀ y, y <= x -> y <= X \/ (X < y /\ y < x) \/ y = x := fun y hy => by omega
 cases hnw : now <;> cases hoo : o
 ·-- neither
  refine ⟨C, s, P1, Q1, P2, P3, Q2, Q3, ?_, hap, fun r hr => by have := hle r hr; omega, fun h => (by cases h), by rw [hnow, hnw], fun y hy => ?_⟩
  ·simp [zkf, hout, hoo]
  ·rcases dich y hy with h | ⟨h1, h2⟩ | h
   ·rw [hmem y h, hoo]
   ·rw [hbet y (by omega) h2, hoo, hnoC y (by omega)]; simp
   ·rw [h, hat, hnw, hnoC x (by omega)]; simp
 ·-- the run zkb
  have ⟨hs1, hs2⟩ := hso hoo;refine ⟨C ++ [⟨s, x⟩], 0, P1, Q1, P2, P3, Q2, Q3, ?_, ⟨?_, ?_⟩, ?_, fun h => (by cases h), by rw [hnow, hnw], fun y hy => ?_⟩
  ·simp [zkf, hout, hoo]
  ·intro r hr;rcases List.mem_append.1 hr with hr | hr
   ·exact hap.1 r hr
   ·simp at hr; subst hr; simp only; omega
  ·rw [List.pairwise_append];refine ⟨hap.2, by simp, fun r hr t ht => ?_⟩;simp at ht; subst ht; exact hs2 r hr
  ·intro r hr;rcases List.mem_append.1 hr with hr | hr
   ·have := hle r hr; omega
   ·simp at hr; subst hr; simp
  ·rw [inR_app];rcases dich y hy with h | ⟨h1, h2⟩ | h
   ·have : y < x := by omega
    rw [hmem y h, hoo]; simp [this]
   ·rw [hbet y (by omega) h2, hoo, hnoC y (by omega)]; simp; omega
   ·rw [h, hat, hnw, hnoC x (by omega)]; simp
 ·-- a run begins
  refine ⟨C, x, P1, Q1, P2, P3, Q2, Q3, ?_, hap, fun r hr => by have := hle r hr; omega, fun _ => ⟨Int.le_refl _, fun r hr => by have := hle r hr; omega⟩, by rw [hnow, hnw], fun y hy => ?_⟩
  ·simp [zkf, hout, hoo]
  ·rcases dich y hy with h | ⟨h1, h2⟩ | h
   ·rw [hmem y h, hoo]; simp; omega
   ·rw [hbet y (by omega) h2, hoo, hnoC y (by omega)]; simp; omega
   ·rw [h, hat, hnw]; simp
 ·-- the run goes on
  have ⟨hs1, hs2⟩ := hso hoo;refine ⟨C, s, P1, Q1, P2, P3, Q2, Q3, ?_, hap, fun r hr => by have := hle r hr; omega, fun _ => ⟨by omega, hs2⟩, by rw [hnow, hnw], fun y hy => ?_⟩
  ·simp [zkf, hout, hoo]
  ·rcases dich y hy with h | ⟨h1, h2⟩ | h
   ·rw [hmem y h, hoo]
   ·rw [hbet y (by omega) h2, hoo]; simp; omega
   ·rw [h, hat, hnw]; simp; omega
theorem sw_all {f : Bool -> Bool -> Bool} (hf : f false false = false) {a b : List Run} (ha : zal a = true) (hb : zal b = true) : ∀ (n p q : Nat) (out : List Run) (o : Bool) (X : Int) (C : List Run) (s : Int), SwAt f a b p q out o X C s -> 2 * a.length + 2 * b.length <= n + (p + q) ->
  zfn (swF f a b n p q out o) /\ ∀ y, inR (swF f a b n p q out o) y = f (inR a y) (inR b y) := by
 have fin : ∀ (p q : Nat) (out : List Run) (o : Bool) (X : Int) (C : List Run) (s : Int), SwAt f a b p q out o X C s -> p = 2 * a.length /\ q = 2 * b.length -> zfn out /\ ∀ y, inR out y = f (inR a y) (inR b y) := by
  rintro p q out o X C s ⟨hp, hq, p1, p2, q1, q2, hout, hap, hle, hso, ho, hmem⟩ ⟨e1, e2⟩;have ho0 : o = false := by
   rw [ho, e1, e2];have h1 : (2 * a.length % 2 == 1) = false := by simp
   have h2 : (2 * b.length % 2 == 1) = false := by simp
   rw [h1, h2, hf]
  subst ho0;simp only [Bool.false_eq_true, if_false] at hout;subst hout;refine ⟨hap, fun y => ?_⟩;by_cases hy : y <= X
  ·have := hmem y hy;simp only [Bool.false_eq_true, false_and, or_false] at this;exact (Bool.eq_iff_iff.2 this).symm
  ·have h1 := zmg ha hp (fun i hi => Int.le_trans (p1 i hi) (by omega : X <= y)) (fun h => by omega);have h2 := zmg hb hq (fun i hi => Int.le_trans (q1 i hi) (by omega : X <= y)) (fun h => by omega);rw [h1, h2, <- ho, Bool.eq_false_iff];intro hc;obtain ⟨r, hr, h3, h4⟩ := zai.1 hc;have := hle r hr;omega
 intro n;induction n with
 | zero =>
  intro p q out o X C s h hn;exact fin p q out o X C s h ⟨by have := h.hp; have := h.hq; omega, by have := h.hp; have := h.hq; omega⟩
 | succ n ih =>
  intro p q out o X C s h hn;unfold swF;split
  ·rename_i e; exact fin p q out o X C s h e
  ·rename_i e;obtain ⟨hX, C', s', h'⟩ := sw_step ha hb h e;refine ih _ _ _ _ _ C' s' h' ?_;have : p + q + 1 <= swP a (swX a b p q) p + swP b (swX a b p q) q := by
    unfold swP swX;split <;> split <;> omega
   omega
theorem zda {f : Bool -> Bool -> Bool} (hf : f false false = false) {a b : List Run} (ha : zal a = true) (hb : zal b = true) : zfn (sweep f a b) /\ ∀ y, inR (sweep f a b) y = f (inR a y) (inR b y) := by
 have e : sweep f a b = swF f a b (2 * a.length + 2 * b.length) 0 0 [] false := by simp [sweep, ha, hb]
 rw [e];refine sw_all hf ha hb _ 0 0 [] false (-1048577) [] 0 ⟨Nat.zero_le _, Nat.zero_le _, fun i hi => by omega, fun h => ?_, fun i hi => by omega, fun h => ?_, rfl, ⟨by simp, List.Pairwise.nil⟩, by simp, fun h => (by cases h), by simp [hf], fun y hy => ?_⟩ (by omega)
 ·have := zjr ha h; omega
 ·have := zjr hb h; omega
 ·have h1 := zmg ha (p := 0) (y := y) (Nat.zero_le _) (fun i hi => by omega) (fun h => by have := zjr ha h; omega);have h2 := zmg hb (p := 0) (y := y) (Nat.zero_le _) (fun i hi => by omega) (fun h => by have := zjr hb h; omega);rw [h1, h2];simp [hf, inR]
theorem zfi {l : List Run} (h : zfn l) {lo hi : Int} (hm : ∀ y, inR l y = true -> lo <= y /\ y < hi) : ∀ r ∈ l, lo <= r.a /\ r.b <= hi := fun r hr => by
 have h1 := h.1 r hr;have h2 := hm r.a (zai.2 ⟨r, hr, Int.le_refl _, h1⟩);have h3 := hm (r.b - 1) (zai.2 ⟨r, hr, by omega, by omega⟩);omega
theorem inR_fits {l : List Run} (h : zal l = true) {y : Int} (hy : inR l y = true) : -1048576 <= y /\ y < 1048576 := by
 obtain ⟨r, hr, h1, h2⟩ := zai.1 hy;obtain ⟨i, hi⟩ := List.mem_iff_getElem?.1 hr;have := zln (zem h hi).2;omega
theorem sweep_valid {f : Bool -> Bool -> Bool} (hf : f false false = false) {a b : List Run} (ha : zal a = true) (hb : zal b = true) : zal (sweep f a b) = true := by
 obtain ⟨h1, h2⟩ := zda hf ha hb;refine zox.2 ⟨h1, fun r hr => ?_⟩;have h0 := h1.1 r hr;have := zfi h1 (lo := -1048576) (hi := 1048576) (fun y hy => by
  rw [h2] at hy;cases e1 : inR a y with
  | true => exact inR_fits ha e1
  | false =>
   cases e2 : inR b y with
   | true => exact inR_fits hb e2
   | false => rw [e1, e2, hf] at hy; cases hy) r hr
 simp [zjn]; omega

theorem zqe : ∀ {l l' : List Run}, zfn l -> zfn l' -> (∀ y, inR l y = inR l' y) -> l = l'
 | [], [], _, _, _ => rfl
 | [], s :: l', _, h', h => by
  have := h s.a;have h1 : inR (s :: l') s.a = true := zai.2 ⟨s, by simp, Int.le_refl _, h'.1 s (by simp)⟩;rw [h1] at this; simp [inR] at this
 | r :: l, [], h', _, h => by
  have := h r.a;have h1 : inR (r :: l) r.a = true := zai.2 ⟨r, by simp, Int.le_refl _, h'.1 r (by simp)⟩;rw [h1] at this; simp [inR] at this
 | r :: l, s :: l', h1, h2, h => by
  have p1 := List.pairwise_cons.1 h1.2;have p2 := List.pairwise_cons.1 h2.2;have r0 := h1.1 r (by simp);have s0 := h2.1 s (by simp);have a1 : s.a <= r.a := by
   have : inR (s :: l') r.a = true := by rw [<- h]; exact zai.2 ⟨r, by simp, Int.le_refl _, r0⟩
   obtain ⟨t, ht, h3, h4⟩ := zai.1 this;rcases List.mem_cons.1 ht with rfl | ht
   ·exact h3
   ·have := p2.1 t ht; omega
  have a2 : r.a <= s.a := by
   have : inR (r :: l) s.a = true := by rw [h]; exact zai.2 ⟨s, by simp, Int.le_refl _, s0⟩
   obtain ⟨t, ht, h3, h4⟩ := zai.1 this;rcases List.mem_cons.1 ht with rfl | ht
   ·exact h3
   ·have := p1.1 t ht; omega
  have b1 : ¬ r.b < s.b := by
   intro hlt;have : inR (r :: l) r.b = true := by rw [h]; exact zai.2 ⟨s, by simp, by omega, hlt⟩
   obtain ⟨t, ht, h3, h4⟩ := zai.1 this;rcases List.mem_cons.1 ht with rfl | ht
   ·omega
   ·have := p1.1 t ht; omega
  have b2 : ¬ s.b < r.b := by
   intro hlt;have : inR (s :: l') s.b = true := by rw [<- h]; exact zai.2 ⟨r, by simp, by omega, hlt⟩
   obtain ⟨t, ht, h3, h4⟩ := zai.1 this;rcases List.mem_cons.1 ht with rfl | ht
   ·omega
   ·have := p2.1 t ht; omega
  have e : r = s := by cases r; cases s; simp at *; omega
  subst e;have ih : l = l' := by
   refine zqe ⟨fun t ht => h1.1 t (by simp [ht]), p1.2⟩ ⟨fun t ht => h2.1 t (by simp [ht]), p2.2⟩ fun y => ?_;have hy := h y;simp only [inR, List.any_cons] at hy;by_cases hin : r.a <= y /\ y < r.b
   ·have n1 : inR l y = false := by
     rw [Bool.eq_false_iff]; intro hc;obtain ⟨t, ht, h3, h4⟩ := zai.1 hc;have := p1.1 t ht; omega
    have n2 : inR l' y = false := by
     rw [Bool.eq_false_iff]; intro hc;obtain ⟨t, ht, h3, h4⟩ := zai.1 hc;have := p2.1 t ht; omega
    rw [n1, n2]
   ·have e : (decide (r.a <= y) && decide (y < r.b)) = false := by
     rw [Bool.eq_false_iff]; intro hc; simp at hc; exact hin hc
    rw [e] at hy;simpa [inR] using hy
  rw [ih]

def zy (R : List Row) (y : Int) : List Run := match R.find? (fun w => decide (w.y = y)) with
 | some w => w.runs
 | none => []
theorem zfp {R : List Row} (h : zo R = true) {w : Row} (hw : w ∈ R) : zy R w.y = w.runs := by
 unfold zy;cases hf : R.find? (fun v => decide (v.y = w.y)) with
 | none => have := List.find?_eq_none.1 hf w hw; simp at this
 | some v =>
  have h1 := List.mem_of_find?_eq_some hf;have h2 := List.find?_some hf;have := rows_eq h h1 hw (by simpa using h2);rw [this]
theorem zih {R : List Row} {y : Int} (h : ∀ w ∈ R, w.y ≠ y) : zy R y = [] := by
 unfold zy;cases hf : R.find? (fun v => decide (v.y = y)) with
 | none => rfl
 | some v => exact absurd (by simpa using List.find?_some hf) (h v (List.mem_of_find?_eq_some hf))
theorem zdn {R : List Row} (h : zo R = true) (y : Int) : (∃ w ∈ R, w.y = y /\ zy R y = w.runs) \/ ((∀ w ∈ R, w.y ≠ y) /\ zy R y = []) := by
 by_cases e : ∃ w ∈ R, w.y = y
 ·obtain ⟨w, hw, rfl⟩ := e;exact .inl ⟨w, hw, rfl, zfp h hw⟩
 ·have : ∀ w ∈ R, w.y ≠ y := fun w hw hy => e ⟨w, hw, hy⟩;exact .inr ⟨this, zih this⟩
theorem zdb {R : List Row} (h : zo R = true) (y : Int) : zal (zy R y) = true := by
 rcases zdn h y with ⟨w, hw, _, e⟩ | ⟨_, e⟩
 ·rw [e]; exact zfc (zbs h hw).2
 ·rw [e]; rfl
theorem znf {R : List Row} (h : zo R = true) (c : zf) : c ∈ zl R ↔ inR (zy R c.y) c.x = true := by
 rw [zdk, zai];constructor
 ·rintro ⟨w, hw, hy, r, hr, h1, h2⟩;rw [hy, zfp h hw];exact ⟨r, hr, h1, h2⟩
 ·rintro ⟨r, hr, h1, h2⟩;rcases zdn h c.y with ⟨w, hw, hy, e⟩ | ⟨_, e⟩
  ·rw [e] at hr; exact ⟨w, hw, hy.symm, r, hr, h1, h2⟩
  ·rw [e] at hr; cases hr
theorem zrb {R : List Row} (h : zo R = true) {y x : Int} (hx : inR (zy R y) x = true) : -4096 <= y /\ y < 4096 /\ -4096 <= x /\ x < 4096 := by
 have := cells_on h ((znf h ⟨x, y⟩).2 hx);simp [onG] at this; omega
theorem zsm {R : List Row} : zo R = true ↔ (∀ w ∈ R, (-4096 <= w.y /\ w.y < 4096) /\ zfm w.runs = true) /\ R.Pairwise fun a b => a.y < b.y := by
 constructor
 ·intro h; exact ⟨fun w hw => zbs h hw, ziw h⟩
 ·rintro ⟨h1, h2⟩;apply List.all_eq_true.2
  intro i hi;have hi : i < R.length := by simpa using hi
  obtain ⟨r, hr⟩ := zap hi;obtain ⟨p, hp⟩ : ∃ q, R[i - 1]? = some q := zap (by omega);obtain ⟨h3, h4⟩ := h1 r (List.mem_of_getElem? hr);rw [zfv hr hp, h4];simp only [Bool.and_true, Bool.and_eq_true, Bool.or_eq_true, beq_iff_eq, decide_eq_true_eq];refine ⟨by simp [okB]; omega, ?_⟩;by_cases e : i = 0
  ·exact .inl e
  ·right
   obtain ⟨hi', rfl⟩ := List.getElem?_eq_some_iff.1 hr;obtain ⟨hp', rfl⟩ := List.getElem?_eq_some_iff.1 hp;exact List.pairwise_iff_getElem.1 h2 (i - 1) i hp' hi' (by omega)

def znk (f : Bool -> Bool -> Bool) (a b : List Row) (y : Int) : List Row := if sweep f (zy a y) (zy b y) = [] then [] else [⟨y, sweep f (zy a y) (zy b y)⟩]
def zmq (f : Bool -> Bool -> Bool) (a b : List Row) (ys : List Int) : List Row := ys.flatMap (znk f a b)
theorem zss {f : Bool -> Bool -> Bool} {a b : List Row} {y : Int} {w : Row} (h : w ∈ znk f a b y) : w.y = y /\ w.runs = sweep f (zy a y) (zy b y) /\ w.runs ≠ [] := by
 unfold znk at h;split at h
 ·cases h
 ·rename_i e; simp at h; subst h; exact ⟨rfl, rfl, e⟩
theorem zpb {f : Bool -> Bool -> Bool} (hf : f false false = false) {a b : List Row} (ha : zo a = true) (hb : zo b = true) {ys : List Int} (hp : ys.Pairwise (· < ·)) : zo (zmq f a b ys) = true := by
 refine zsm.2 ⟨fun w hw => ?_, ?_⟩
 ·obtain ⟨y, hy, hw⟩ := List.mem_flatMap.1 hw;obtain ⟨e1, e2, e3⟩ := zss hw;obtain ⟨h1, h2⟩ := zda hf (zdb ha y) (zdb hb y);rw [<- e2] at h1 h2;have key : ∀ x, inR w.runs x = true -> -4096 <= y /\ y < 4096 /\ -4096 <= x /\ x < 4096 := fun x hx => by
   rw [h2] at hx;cases e : inR (zy a y) x with
   | true => exact zrb ha e
   | false =>
    cases e' : inR (zy b y) x with
    | true => exact zrb hb e'
    | false => rw [e, e', hf] at hx; cases hx
  have hbd := zfi h1 (lo := -4096) (hi := 4096) (fun x hx => ⟨(key x hx).2.2.1, (key x hx).2.2.2⟩);refine ⟨?_, zfd.2 ⟨e3, h1, hbd⟩⟩;obtain ⟨r, hr⟩ := List.exists_mem_of_ne_nil _ e3;have := key r.a (zai.2 ⟨r, hr, Int.le_refl _, h1.1 r hr⟩);rw [e1]; omega
 ·unfold zmq;rw [List.pairwise_flatMap];refine ⟨fun y _ => by unfold znk; split <;> simp, hp.imp fun {y z} hyz u hu v hv => ?_⟩;rw [(zss hu).1, (zss hv).1]; exact hyz
theorem zty {f : Bool -> Bool -> Bool} (hf : f false false = false) {a b : List Row} (ha : zo a = true) (hb : zo b = true) {ys : List Int} (hp : ys.Pairwise (· < ·)) (hys : ∀ w, w ∈ a \/ w ∈ b -> w.y ∈ ys) (c : zf) :
  decide (c ∈ zl (zmq f a b ys)) = f (decide (c ∈ zl a)) (decide (c ∈ zl b)) := by
 have hv := zpb hf ha hb hp;have e1 : decide (c ∈ zl a) = inR (zy a c.y) c.x := by rw [Bool.eq_iff_iff]; simp [znf ha]
 have e2 : decide (c ∈ zl b) = inR (zy b c.y) c.x := by rw [Bool.eq_iff_iff]; simp [znf hb]
 rw [e1, e2, <- (zda hf (zdb ha c.y) (zdb hb c.y)).2];rw [Bool.eq_iff_iff, decide_eq_true_eq, zdk, zai];constructor
 ·rintro ⟨w, hw, hy, r, hr, h1, h2⟩;obtain ⟨y, hym, hw⟩ := List.mem_flatMap.1 hw;obtain ⟨q1, q2, q3⟩ := zss hw;rw [hy, q1];rw [q2] at hr;exact ⟨r, hr, h1, h2⟩
 ·rintro ⟨r, hr, h1, h2⟩;have hne : sweep f (zy a c.y) (zy b c.y) ≠ [] := by rintro e; rw [e] at hr; cases hr
  have hym : c.y ∈ ys := by
   have hin : f (inR (zy a c.y) c.x) (inR (zy b c.y) c.x) = true := by
    rw [<- (zda hf (zdb ha c.y) (zdb hb c.y)).2]; exact zai.2 ⟨r, hr, h1, h2⟩
   rcases zdn ha c.y with ⟨w, hw, hy, _⟩ | ⟨_, e⟩
   ·rw [<- hy]; exact hys w (.inl hw)
   ·rcases zdn hb c.y with ⟨w, hw, hy, _⟩ | ⟨_, e'⟩
    ·rw [<- hy]; exact hys w (.inr hw)
    ·rw [e, e'] at hin; simp [inR, hf] at hin
  refine ⟨⟨c.y, sweep f (zy a c.y) (zy b c.y)⟩, List.mem_flatMap.2 ⟨c.y, hym, ?_⟩, rfl, r, hr, h1, h2⟩;unfold znk;rw [if_neg hne]; simp
theorem opOn_uniq {f : Bool -> Bool -> Bool} (hf : f false false = false) {a b : List Row} (ha : zo a = true) (hb : zo b = true) {ys zs : List Int} (hp : ys.Pairwise (· < ·)) (hq : zs.Pairwise (· < ·)) (hys : ∀ w, w ∈ a \/ w ∈ b -> w.y ∈ ys) (hzs : ∀ w, w ∈ a \/ w ∈ b -> w.y ∈ zs) : zmq f a b ys = zmq f a b zs := by
 refine region_uniq (zpb hf ha hb hp) (zpb hf ha hb hq) fun c => ?_;have h1 := zty hf ha hb hp hys c;have h2 := zty hf ha hb hq hzs c;rw [<- h2] at h1;exact decide_eq_decide.1 h1
def zwx (a b : List Row) : List Int := (a.map Row.y ++ b.map Row.y).mergeSort (fun x y => decide (x <= y))
def zki : List Int -> List Int
 | [] => []
 | [x] => [x]
 | x :: y :: l => if x = y then zki (y :: l) else x :: zki (y :: l)
theorem ztb : ∀ (l : List Int) (y : Int), y ∈ zki l ↔ y ∈ l
 | [], _ => by simp [zki]
 | [x], _ => by simp [zki]
 | x :: z :: l, y => by
  simp only [zki];split
  ·rename_i e; subst e; rw [ztb (x :: l) y]; simp
  ·rw [List.mem_cons, ztb (z :: l) y]; simp
theorem zsb : ∀ (l : List Int), l.Pairwise (· <= ·) -> (zki l).Pairwise (· < ·)
 | [], _ => by simp [zki]
 | [x], _ => by simp [zki]
 | x :: z :: l, h => by
  have h1 := List.pairwise_cons.1 h;simp only [zki];split
  ·exact zsb (z :: l) h1.2
  ·rename_i e;refine List.pairwise_cons.2 ⟨fun y hy => ?_, zsb (z :: l) h1.2⟩;rw [ztb] at hy;have h2 := h1.1 z (by simp);rcases List.mem_cons.1 hy with rfl | hy
   ·omega
   ·have := (List.pairwise_cons.1 h1.2).1 y hy; omega
theorem allY_perm (a b : List Row) : (zwx a b).Perm (a.map Row.y ++ b.map Row.y) := List.mergeSort_perm _ _
theorem allY_le (a b : List Row) : (zwx a b).Pairwise (· <= ·) := by
 have := List.pairwise_mergeSort (le := fun x y : Int => decide (x <= y)) (fun a b c h1 h2 => by simp at *; omega) (fun a b => by simp; omega) (a.map Row.y ++ b.map Row.y);exact this.imp fun h => by simpa using h
theorem allY_mem {a b : List Row} (w : Row) (h : w ∈ a \/ w ∈ b) : w.y ∈ zki (zwx a b) := by
 rw [ztb, (allY_perm a b).mem_iff, List.mem_append];rcases h with h | h
 ·exact .inl (List.mem_map_of_mem h)
 ·exact .inr (List.mem_map_of_mem h)
def opR (f : Bool -> Bool -> Bool) (a b : List Row) : List Row := if zo a && zo b then zmq f a b (zki (zwx a b)) else []
theorem zst {f : Bool -> Bool -> Bool} (hf : f false false = false) {a b : List Row} (ha : zo a = true) (hb : zo b = true) : zo (opR f a b) = true /\ ∀ c, decide (c ∈ zl (opR f a b)) = f (decide (c ∈ zl a)) (decide (c ∈ zl b)) := by
 have e : opR f a b = zmq f a b (zki (zwx a b)) := by simp [opR, ha, hb]
 rw [e];exact ⟨zpb hf ha hb (zsb _ (allY_le a b)), zty hf ha hb (zsb _ (allY_le a b)) allY_mem⟩
theorem opR_on {f : Bool -> Bool -> Bool} (hf : f false false = false) {a b : List Row} (ha : zo a = true) (hb : zo b = true) {ys : List Int} (hp : ys.Pairwise (· < ·)) (hys : ∀ w, w ∈ a \/ w ∈ b -> w.y ∈ ys) : zmq f a b ys = opR f a b := by
 have e : opR f a b = zmq f a b (zki (zwx a b)) := by simp [opR, ha, hb]
 rw [e];exact opOn_uniq hf ha hb hp (zsb _ (allY_le a b)) hys allY_mem
theorem zte : ∀ {l : List Run} {lo hi : Int}, zfn l -> (∀ r ∈ l, lo <= r.a /\ r.b <= hi) -> l.length <= (hi - lo).toNat
 | [], _, _, _, _ => by simp
 | r :: l, lo, hi, h, hb => by
  have h1 := h.1 r (by simp);have h2 := List.pairwise_cons.1 h.2;have h3 := hb r (by simp);have ih := zte (l := l) (lo := r.b) (hi := hi) ⟨fun q hq => h.1 q (by simp [hq]), h2.2⟩ (fun q hq => ⟨by have := h2.1 q hq; omega, (hb q (by simp [hq])).2⟩);simp only [List.length_cons];omega

theorem valid_runs {R : List Row} (hv : zo R = true) {w : Row} (hw : w ∈ R) : w.runs.length <= 8192 := by
 obtain ⟨_, h1, h2⟩ := zfd.1 (zbs hv hw).2;have := zte h1 (lo := -4096) (hi := 4096) h2;omega

theorem rows_len : ∀ {R : List Row} {lo hi : Int}, (R.Pairwise fun a b => a.y < b.y) -> (∀ w ∈ R, lo <= w.y /\ w.y < hi) -> R.length <= (hi - lo).toNat
 | [], _, _, _, _ => by simp
 | w :: R, lo, hi, h, hb => by
  have h2 := List.pairwise_cons.1 h;have h3 := hb w (by simp);have ih := rows_len (R := R) (lo := w.y + 1) (hi := hi) h2.2 (fun v hv => ⟨by have := h2.1 v hv; omega, (hb v (by simp [hv])).2⟩);simp only [List.length_cons];omega
theorem zbg {R : List Row} (hv : zo R = true) : zbw R := by
 obtain ⟨h1, h2⟩ := zsm.1 hv;have := rows_len h2 (lo := -4096) (hi := 4096) fun w hw => (h1 w hw).1;exact ⟨by omega, fun w hw => by have := valid_runs hv hw; omega⟩

abbrev zbq (l : List Run) (p : Nat) : List D := [zm l, .int .i64 p]
theorem over_ok (l : List Run) (p : Nat) (hl : l.length <= 1000000) (hp : p <= 2 * l.length) : PX Tryz.prog 168 [.ptr 0 0 0] [(0, ⟨208, 2, [(zbq l p).map .d]⟩)] [(0, 0)] [(0, ⟨208, 2, [(zbq l p).map .d]⟩)] (.d (.bool (decide (p = 2 * l.length)))) := by
 have e1 := wI (2 * (l.length : Int));have e2 : ((p : Int) == 2 * (l.length : Int)) = decide (p = 2 * l.length) := by
  rw [Bool.eq_iff_iff]; simp; omega
 refine zeo cx (fn := Tryz.f168) (c := _) 1 Tryz.func168 rfl rfl (lB rfl) rfl rfl fun Ls => ?_;rw [Tryz.ntmps168]; refine Nav.imp ?_;refine rg cx ?_;refine rd cx mixed [] (fun K hK => by simp [push_cast, e1, e2]; (repeat refine ob ?_); exact hK) ?_;first | refine rx_r [(0, 0)] ?_ | refine rx_n [(0, 0)] ?_
 simp [push_cast];try decide
theorem inside_ok (l : List Run) (p : Nat) (hl : l.length <= 1000000) (hp : p <= 2 * l.length) : PX Tryz.prog 171 [.ptr 0 0 0] [(0, ⟨208, 2, [(zbq l p).map .d]⟩)] [(0, 0)] [(0, ⟨208, 2, [(zbq l p).map .d]⟩)] (.d (.bool (p % 2 == 1))) := by
 have e1 : Int.tmod (p : Int) 2 = (p : Int) % 2 := by rw [Int.tmod_eq_emod_of_nonneg (by omega)]
 have e2 := wI ((p : Int) % 2);have e3 : ((p : Int) % 2 == 1) = (p % 2 == 1) := by rw [Bool.eq_iff_iff]; simp; omega
 refine zeo cx (fn := Tryz.f171) (c := _) 1 Tryz.func171 rfl rfl (lB rfl) rfl rfl fun Ls => ?_;rw [Tryz.ntmps171]; refine Nav.imp ?_;refine rg cx ?_;refine rx cx [] (fun K hK => by simp [push_cast, e1, e2, e3]; (repeat refine ob ?_); exact hK) ?_;first | refine rx_r [(0, 0)] ?_ | refine rx_n [(0, 0)] ?_
 simp [push_cast, e3];try decide
theorem next_ok (l : List Run) (p : Nat) (hl : l.length <= 1000000) (hp : p <= 2 * l.length) : PX Tryz.prog 169 [.ptr 0 0 0] [(0, ⟨208, 2, [(zbq l p).map .d]⟩)] [(0, 0)] [(0, ⟨208, 2, [(zbq l p).map .d]⟩)] (.d (.int .i64 (bnd l p))) := by
 have c1 := over_ok l p hl hp;have c2 := inside_ok l p hl hp;by_cases ho : p = 2 * l.length
 ·have hb : bnd l p = 1048577 := by rw [ho, zlt]
  rw [decide_eq_true ho] at c1;rw [hb];refine zeo cx (fn := Tryz.f169) (c := _) 1 Tryz.func169 rfl rfl (lB rfl) rfl rfl fun Ls => ?_;rw [Tryz.ntmps169]; refine Nav.imp ?_;refine rg cx ?_;refine rx cx [(1, .x ⟨[(0, 0)], [.ptr 0 0 0], [(0, ⟨208, 2, [(zbq l p).map .d]⟩)], [(0, 0)], none, [(0, ⟨208, 2, [(zbq l p).map .d]⟩)], .d (.bool true)⟩)] (fun K hK => by simp [push_cast, c1]; (repeat refine ob ?_); exact hK) ?_;refine awp_cd true (fun hb => ?_) fun hb => ?_
  ·refine rg cx ?_;first | refine rx_r [(0, 0)] ?_ | refine rx_n [(0, 0)] ?_
   simp [push_cast];try decide
  ·simp at hb
 ·rw [decide_eq_false ho] at c1;obtain ⟨r, hr⟩ : ∃ r, l[p / 2]? = some r := zap (by omega);have hb : bnd l p = if p % 2 = 1 then r.b else r.a := by simp only [bnd, hr]
  have e1 : Int.tdiv (p : Int) 2 = (p : Int) / 2 := by rw [Int.tdiv_eq_ediv_of_nonneg (by omega)]
  have e2 := wI ((p : Int) / 2);have e3 : ((p : Int) / 2).toNat = p / 2 := by omega
  have e4 : (0 : Int) <= (p : Int) / 2 := by omega
  obtain ⟨ra, rb⟩ := r;simp only at hb;rw [hb];clear hb;by_cases hi : p % 2 = 1
  ·have hi' : (p % 2 == 1) = true := by simpa using hi
   rw [hi'] at c2;rw [if_pos hi];refine zeo cx (fn := Tryz.f169) (c := _) 1 Tryz.func169 rfl rfl (lB rfl) rfl rfl fun Ls => ?_;rw [Tryz.ntmps169]; refine Nav.imp ?_;refine rg cx ?_;refine rx cx [(1, .x ⟨[(0, 0)], [.ptr 0 0 0], [(0, ⟨208, 2, [(zbq l p).map .d]⟩)], [(0, 0)], none, [(0, ⟨208, 2, [(zbq l p).map .d]⟩)], .d (.bool false)⟩)] (fun K hK => by simp [push_cast, c1]; (repeat refine ob ?_); exact hK) ?_;refine awp_cd false (fun hb => ?_) fun hb => ?_
   ·simp at hb
   ·refine rx cx [(1, .x ⟨[(0, 0)], [.ptr 0 0 0], [(0, ⟨208, 2, [(zbq l p).map .d]⟩)], [(0, 0)], none, [(0, ⟨208, 2, [(zbq l p).map .d]⟩)], .d (.bool true)⟩)] (fun K hK => by simp [push_cast, c2]; (repeat refine ob ?_); exact hK) ?_;refine awp_cd true (fun hb => ?_) fun hb => ?_
    ·refine rd cx mixed [] (fun K hK => by simp [push_cast, hr, e1, e2, e3, e4, Run.row]; (repeat refine ob ?_); exact hK) ?_;first | refine rx_r [(0, 0)] ?_ | refine rx_n [(0, 0)] ?_
     simp [push_cast];try decide
    ·simp at hb
  ·have hi' : (p % 2 == 1) = false := by simpa using hi
   rw [hi'] at c2;rw [if_neg hi];refine zeo cx (fn := Tryz.f169) (c := _) 1 Tryz.func169 rfl rfl (lB rfl) rfl rfl fun Ls => ?_;rw [Tryz.ntmps169]; refine Nav.imp ?_;refine rg cx ?_;refine rx cx [(1, .x ⟨[(0, 0)], [.ptr 0 0 0], [(0, ⟨208, 2, [(zbq l p).map .d]⟩)], [(0, 0)], none, [(0, ⟨208, 2, [(zbq l p).map .d]⟩)], .d (.bool false)⟩)] (fun K hK => by simp [push_cast, c1]; (repeat refine ob ?_); exact hK) ?_;refine awp_cd false (fun hb => ?_) fun hb => ?_
   ·simp at hb
   ·refine rx cx [(1, .x ⟨[(0, 0)], [.ptr 0 0 0], [(0, ⟨208, 2, [(zbq l p).map .d]⟩)], [(0, 0)], none, [(0, ⟨208, 2, [(zbq l p).map .d]⟩)], .d (.bool false)⟩)] (fun K hK => by simp [push_cast, c2]; (repeat refine ob ?_); exact hK) ?_;refine awp_cd false (fun hb => ?_) fun hb => ?_
    ·simp at hb
    ·refine rd cx mixed [] (fun K hK => by simp [push_cast, hr, e1, e2, e3, e4, Run.row]; (repeat refine ob ?_); exact hK) ?_;first | refine rx_r [(0, 0)] ?_ | refine rx_n [(0, 0)] ?_
     simp [push_cast];try decide
theorem pass_ok (l : List Run) (p : Nat) (x : Int) (hl : l.length <= 1000000) (hp : p <= 2 * l.length) : PX Tryz.prog 170 [.ptr 0 0 0, .d (.int .i64 x)] [(0, ⟨208, 2, [(zbq l p).map .d]⟩)] [(0, 0)] [(0, ⟨208, 2, [(zbq l (swP l x p)).map .d]⟩)] (.tup []) := by
 have c1 := next_ok l p hl hp;have e0 := wI ((p : Int) + 1);have hs : swP l x p = if bnd l p = x then p + 1 else p := rfl
 generalize bnd l p = n at *;rw [hs];refine zeo cx (fn := Tryz.f170) (c := _) 1 Tryz.func170 rfl rfl (lB rfl) rfl rfl fun Ls => ?_;rw [Tryz.ntmps170]; refine Nav.imp ?_;refine rx cx [(1, .x ⟨[(0, 0)], [.ptr 0 0 0], [(0, ⟨208, 2, [(zbq l p).map .d]⟩)], [(0, 0)], none, [(0, ⟨208, 2, [(zbq l p).map .d]⟩)], .d (.int .i64 n)⟩)] (fun K hK => by simp [push_cast, c1]; (repeat refine ob ?_); exact hK) ?_;refine awp_cd (n == x) (fun hb => ?_) fun hb => ?_
 ·have hb : n = x := by simpa using hb
  rw [if_pos hb];refine rx cx [] (fun K hK => by simp [push_cast, e0]; (repeat refine ob ?_); exact hK) ?_;first | refine rx_r [(0, 0)] ?_ | refine rx_n [(0, 0)] ?_
  simp [push_cast];try decide
 ·have hb : ¬ n = x := by simpa using hb
  rw [if_neg hb];first | refine rx_r [(0, 0)] ?_ | refine rx_n [(0, 0)] ?_
  simp [push_cast];try decide

theorem swX_le {a b : List Run} (ha : zal a = true) (hb : zal b = true) {p q : Nat} (hp : p <= 2 * a.length) (hq : q <= 2 * b.length) (hn : ¬ (p = 2 * a.length /\ q = 2 * b.length)) :
  swP a (swX a b p q) p <= 2 * a.length /\ swP b (swX a b p q) q <= 2 * b.length /\ p + q + 1 <= swP a (swX a b p q) p + swP b (swX a b p q) q /\ p <= swP a (swX a b p q) p := by
 have x1 : swX a b p q <= bnd a p := Int.min_le_left _ _;have x2 : swX a b p q <= bnd b q := Int.min_le_right _ _;have x3 : swX a b p q = bnd a p \/ swX a b p q = bnd b q := by unfold swX; omega
 have hXb : swX a b p q <= 1048576 := by
  by_cases e : p < 2 * a.length
  ·have := zjr ha e; omega
  ·have := zjr hb (i := q) (by omega); omega
 have k1 : bnd a p = swX a b p q -> p < 2 * a.length := fun e => by
  apply Classical.byContradiction
  intro h;have h3 : bnd a p = 1048577 := by rw [show p = 2 * a.length from by omega]; exact zlt a
  omega
 have k2 : bnd b q = swX a b p q -> q < 2 * b.length := fun e => by
  apply Classical.byContradiction
  intro h;have h3 : bnd b q = 1048577 := by rw [show q = 2 * b.length from by omega]; exact zlt b
  omega
 unfold swP;refine ⟨?_, ?_, ?_, ?_⟩
 ·split
  ·rename_i e; have := k1 e; omega
  ·exact hp
 ·split
  ·rename_i e; have := k2 e; omega
  ·exact hq
 ·split <;> split <;> omega
 ·split <;> omega

set_option maxRecDepth 100000 in
set_option maxHeartbeats 4000000 in
theorem sweepc_ok (f : Bool -> Bool -> Bool) (g : FuncId) (hg : ∀ x y, PC Tryz.prog g [.bool x, .bool y] (.p (.bool (f x y)))) (a b : List Run) (hal : a.length <= 1000000) (hbl : b.length <= 1000000) (ha : zal a = true) (hb : zal b = true) :
  PC Tryz.prog 119 [zm a, zm b, .fn (.func g) []] (.p (zm (sweep f a b))) := by
 have c1 := zne a hal;have c2 := zne b hbl;rw [ha] at c1;rw [hb] at c2;have hres : sweep f a b = swF f a b (2 * a.length + 2 * b.length) 0 0 [] false := by simp [sweep, ha, hb]
 generalize sweep f a b = res at *;refine pw cx Tryz.func119 Tryz.ntmps119 ?_;refine rg cx ?_;refine rx cx [(1, .p (.bool true)), (5, .p (.bool true))] (fun K hK => by simp [push_cast, c1, c2]; (repeat refine ob ?_); exact hK) ?_;refine awp_cd false (fun hb => ?_) fun hb => ?_
 ·simp at hb
 ·clear hb;iterate 3 refine rg cx ?_
  refine zu (β := Nat × Nat × List Run × Bool) (fun s => ⟨78, [(2, .d (.fn (.func g) [])), (7, .ptr 0 0 0), (8, .ptr 1 0 0), (9, .hs 2 0 s.2.2.1.length), (10, .d (.bool s.2.2.2))], [(0, some ⟨208, 2, [(zbq a s.1).map .d]⟩), (1, some ⟨208, 2, [(zbq b s.2.1).map .d]⟩), (2, some ⟨85, 2, dr (s.2.2.1.map Run.row)⟩)], 3⟩)
   (fun s => s.1 <= 2 * a.length /\ s.2.1 <= 2 * b.length /\ (∃ n, 2 * a.length + 2 * b.length <= n + (s.1 + s.2.1) /\ swF f a b n s.1 s.2.1 s.2.2.1 s.2.2.2 = res) /\ (s.2.2.2 = true -> s.2.2.1 ≠ []) /\ s.2.2.1.length <= s.1 + s.2.1) (fun s => 2 * a.length + 2 * b.length - (s.1 + s.2.1)) (0, 0, [], false) ?_ ⟨Nat.zero_le _, Nat.zero_le _, ⟨_, by simp only; omega, hres.symm⟩, by simp, by simp⟩ ?_
  ·refine wk [(0, some 11), (1, some 14), (2, none)]
  ·rintro ⟨p, q, out, o⟩ ⟨hp, hq, ⟨n, hn, hsw⟩, hone, hol⟩;simp only at hp hq hn hsw hone hol;clear hres;have d1 := over_ok a p hal hp;have d2 := over_ok b q hbl hq;have d3 := next_ok a p hal hp;have d4 := next_ok b q hbl hq;refine Nav.imp ?_;by_cases hover : p = 2 * a.length /\ q = 2 * b.length
   ·rw [decide_eq_true hover.1] at d1;rw [decide_eq_true hover.2] at d2;have hre : res = out := by
     rw [<- hsw];cases n with
     | zero => rfl
     | succ n => unfold swF; rw [if_pos hover]
    rw [hre];refine rx cx [(1, .x ⟨[(0, 0)], [.ptr 0 0 0], [(0, ⟨208, 2, [(zbq a p).map .d]⟩)], [(0, 0)], none, [(0, ⟨208, 2, [(zbq a p).map .d]⟩)], .d (.bool true)⟩), (5, .x ⟨[(0, 1)], [.ptr 0 0 0], [(0, ⟨208, 2, [(zbq b q).map .d]⟩)], [(0, 0)], none, [(0, ⟨208, 2, [(zbq b q).map .d]⟩)], .d (.bool true)⟩)] (fun K hK => by simp [push_cast, d1, d2]; (repeat refine ob ?_); exact hK) ?_;refine awp_cd false (fun hb => ?_) fun hb => ?_
    ·simp at hb
    ·refine rg cx ?_;have ht : List.take out.length (out.map Run.row) = out.map Run.row := List.take_of_length_le (by simp);simp [push_cast, ht]
   ·apply cut_
    ·intro key;by_cases hpo : p = 2 * a.length
     ·have hqo : ¬ q = 2 * b.length := fun e => hover ⟨hpo, e⟩;rw [decide_eq_true hpo] at d1;rw [decide_eq_false hqo] at d2;refine rx cx [(1, .x ⟨[(0, 0)], [.ptr 0 0 0], [(0, ⟨208, 2, [(zbq a p).map .d]⟩)], [(0, 0)], none, [(0, ⟨208, 2, [(zbq a p).map .d]⟩)], .d (.bool true)⟩), (5, .x ⟨[(0, 1)], [.ptr 0 0 0], [(0, ⟨208, 2, [(zbq b q).map .d]⟩)], [(0, 0)], none, [(0, ⟨208, 2, [(zbq b q).map .d]⟩)], .d (.bool false)⟩)] (fun K hK => by simp [push_cast, d1, d2]; (repeat refine ob ?_); exact hK) ?_;refine awp_cd true (fun hb => ?_) fun hb => ?_
      ·refine zbf (s' := ⟨78, [(2, .d (.fn (.func g) [])), (7, .ptr 0 0 0), (8, .ptr 1 0 0), (9, .hs 2 0 out.length), (10, .d (.bool o))], [(0, some ⟨208, 2, [(zbq a p).map .d]⟩), (1, some ⟨208, 2, [(zbq b q).map .d]⟩), (2, some ⟨85, 2, dr (out.map Run.row)⟩)], 3⟩) ?_ key.h;refine wk [(0, some 0), (1, some 1), (2, some 2)]
      ·simp at hb
     ·rw [decide_eq_false hpo] at d1;refine rx cx [(1, .x ⟨[(0, 0)], [.ptr 0 0 0], [(0, ⟨208, 2, [(zbq a p).map .d]⟩)], [(0, 0)], none, [(0, ⟨208, 2, [(zbq a p).map .d]⟩)], .d (.bool false)⟩), (5, .skip)] (fun K hK => by simp [push_cast, d1]; (repeat refine ob ?_); exact hK) ?_;refine awp_cd true (fun hb => ?_) fun hb => ?_
      ·refine zbf (s' := ⟨78, [(2, .d (.fn (.func g) [])), (7, .ptr 0 0 0), (8, .ptr 1 0 0), (9, .hs 2 0 out.length), (10, .d (.bool o))], [(0, some ⟨208, 2, [(zbq a p).map .d]⟩), (1, some ⟨208, 2, [(zbq b q).map .d]⟩), (2, some ⟨85, 2, dr (out.map Run.row)⟩)], 3⟩) ?_ key.h;refine wk [(0, some 0), (1, some 1), (2, some 2)]
      ·simp at hb
    ·obtain ⟨n, rfl⟩ : ∃ m, n = m + 1 := ⟨n - 1, by omega⟩
     obtain ⟨y1, y2, y3, y4⟩ := swX_le ha hb hp hq hover;unfold swF at hsw;rw [if_neg hover] at hsw;have hx : swX a b p q = min (bnd a p) (bnd b q) := rfl;have d5 := pass_ok a p (swX a b p q) hal hp;have d6 := pass_ok b q (swX a b p q) hbl hq;have d7 := inside_ok a (swP a (swX a b p q) p) hal y1;have d8 := inside_ok b (swP b (swX a b p q) q) hbl y2;have d9 := hg (swP a (swX a b p q) p % 2 == 1) (swP b (swX a b p q) q % 2 == 1);generalize swP a (swX a b p q) p = p' at *;generalize swP b (swX a b p q) q = q' at *;generalize swX a b p q = x at *;generalize bnd a p = ba at *;generalize bnd b q = bb at *;generalize (p' % 2 == 1) = i1 at *;generalize (q' % 2 == 1) = i2 at *;generalize f i1 i2 = now at *;refine Nav.imp ?_;refine rx cx [(1, .x ⟨[(0, 0)], [.ptr 0 0 0], [(0, ⟨208, 2, [(zbq a p).map .d]⟩)], [(0, 0)], none, [(0, ⟨208, 2, [(zbq a p).map .d]⟩)], .d (.int .i64 ba)⟩), (3, .x ⟨[(0, 1)], [.ptr 0 0 0], [(0, ⟨208, 2, [(zbq b q).map .d]⟩)], [(0, 0)], none, [(0, ⟨208, 2, [(zbq b q).map .d]⟩)], .d (.int .i64 bb)⟩)] (fun K hK => by simp [push_cast, d3, d4]; (repeat refine ob ?_); exact hK) ?_;rw [<- hx];refine rx cx [(2, .x ⟨[(0, 0)], [.ptr 0 0 0, .d (.int .i64 x)], [(0, ⟨208, 2, [(zbq a p).map .d]⟩)], [(0, 0)], none, [(0, ⟨208, 2, [(zbq a p').map .d]⟩)], .tup []⟩)] (fun K hK => by simp [push_cast, d5]; (repeat refine ob ?_); exact hK) ?_;refine rx cx [(2, .x ⟨[(0, 1)], [.ptr 0 0 0, .d (.int .i64 x)], [(0, ⟨208, 2, [(zbq b q).map .d]⟩)], [(0, 0)], none, [(0, ⟨208, 2, [(zbq b q').map .d]⟩)], .tup []⟩)] (fun K hK => by simp [push_cast, d6]; (repeat refine ob ?_); exact hK) ?_;refine rx cx [(2, .x ⟨[(0, 0)], [.ptr 0 0 0], [(0, ⟨208, 2, [(zbq a p').map .d]⟩)], [(0, 0)], none, [(0, ⟨208, 2, [(zbq a p').map .d]⟩)], .d (.bool i1)⟩), (4, .x ⟨[(0, 1)], [.ptr 0 0 0], [(0, ⟨208, 2, [(zbq b q').map .d]⟩)], [(0, 0)], none, [(0, ⟨208, 2, [(zbq b q').map .d]⟩)], .d (.bool i2)⟩), (5, .p (.bool now))] (fun K hK => by simp [push_cast, d7, d8, d9]; (repeat refine ob ?_); exact hK) ?_;clear d1 d2 d3 d4 d5 d6 d7 d8 d9 c1 c2;have ho16 : (out.length + 1) * 16 <= 140737488355328 := by omega
     cases now with
     | true =>
      cases o with
      | false =>
       have hso : zkf true false out x = out ++ [⟨x, 0⟩] := by simp [zkf]
       rw [hso] at hsw;refine rg cx ?_;refine awp_cd true (fun hb => ?_) fun hb => ?_
       ·refine rx cx [] (fun K hK => by simp [push_cast, ho16]; (repeat refine ob ?_); exact hK) ?_;refine rg cx ?_;refine ⟨(p', q', out ++ [⟨x, 0⟩], true), ⟨y1, y2, ⟨n, by simp only; omega, hsw⟩, by simp, by simp; omega⟩, by simp only; omega, ?_⟩;refine wq [(0, some 0), (1, some 1), (2, some 32)] (by simp [upT, upH, upR, upL, up, push_cast, Run.row])
       ·simp at hb
      | true =>
       have hso : zkf true true out x = out := by simp [zkf]
       rw [hso] at hsw;refine rg cx ?_;refine awp_cd false (fun hb => ?_) fun hb => ?_
       ·simp at hb
       ·refine rg cx ?_;refine awp_cd false (fun hb => ?_) fun hb => ?_
        ·simp at hb
        ·refine rg cx ?_;refine ⟨(p', q', out, true), ⟨y1, y2, ⟨n, by simp only; omega, hsw⟩, hone, by simp only; omega⟩, by simp only; omega, ?_⟩;refine wq [(0, some 0), (1, some 1), (2, some 2)] (by simp [upT, upH, upR, upL, up, push_cast, Run.row])
     | false =>
      cases o with
      | false =>
       have hso : zkf false false out x = out := by simp [zkf]
       rw [hso] at hsw;refine rg cx ?_;refine awp_cd false (fun hb => ?_) fun hb => ?_
       ·simp at hb
       ·refine rg cx ?_;refine awp_cd false (fun hb => ?_) fun hb => ?_
        ·simp at hb
        ·refine rg cx ?_;refine ⟨(p', q', out, false), ⟨y1, y2, ⟨n, by simp only; omega, hsw⟩, by simp, by simp only; omega⟩, by simp only; omega, ?_⟩;refine wq [(0, some 0), (1, some 1), (2, some 2)] (by simp [upT, upH, upR, upL, up, push_cast, Run.row])
      | true =>
       obtain ⟨L, r, rfl⟩ : ∃ L r, out = L ++ [r] := by
        rcases List.eq_nil_or_concat out with e | ⟨L, r, e⟩
        ·exact absurd e (hone rfl)
        ·exact ⟨L, r, by rw [e, List.concat_eq_append]⟩
       obtain ⟨ra, rb⟩ := r;have hso : zkf false true (L ++ [⟨ra, rb⟩]) x = L ++ [⟨ra, x⟩] := by simp [zkf]
       rw [hso] at hsw;have hz : (L ++ [(⟨ra, rb⟩ : Run)])[L.length]? = some ⟨ra, rb⟩ := by simp
       have hlen : (L ++ [(⟨ra, rb⟩ : Run)]).length = L.length + 1 := by simp
       have hset : (dr ((L ++ [(⟨ra, rb⟩ : Run)]).map Run.row)).set L.length [AV.d (.int .i64 ra), AV.d (.int .i64 x)] = dr ((L ++ [(⟨ra, x⟩ : Run)]).map Run.row) := by simp [dr, Run.row]
       have hlen2 : (L ++ [(⟨ra, x⟩ : Run)]).length = (L ++ [(⟨ra, rb⟩ : Run)]).length := by simp
       have hne : L ++ [(⟨ra, x⟩ : Run)] ≠ [] := by simp
       generalize L ++ [(⟨ra, x⟩ : Run)] = C at *;generalize L ++ [(⟨ra, rb⟩ : Run)] = B at *;have e7 := wI ((B.length : Int) - 1);have e8 : ((B.length : Int) - 1).toNat = L.length := by omega
       have e9 : (0 : Int) <= (B.length : Int) - 1 := by omega
       refine rg cx ?_;refine awp_cd false (fun hb => ?_) fun hb => ?_
       ·simp at hb
       ·refine rg cx ?_;refine awp_cd true (fun hb => ?_) fun hb => ?_
        ·refine rx cx [] (fun K hK => by simp [push_cast, hz, e7, e8, e9, hset, Run.row]; (repeat refine ob ?_); exact hK) ?_;refine rg cx ?_;rw [<- hlen2];refine ⟨(p', q', C, false), ⟨y1, y2, ⟨n, by simp only; omega, hsw⟩, by simp, by simp only; omega⟩, by simp only; omega, ?_⟩;refine wq [(0, some 0), (1, some 1), (2, some 2)] (by simp [upT, upH, upR, upL, up, push_cast, Run.row])
        ·simp at hb

def fU (x y : Bool) : Bool := x || y
def fI (x y : Bool) : Bool := x && y
def fD (x y : Bool) : Bool := x && !y
theorem keepU (x y : Bool) : PC Tryz.prog 124 [.bool x, .bool y] (.p (.bool (fU x y))) := by
 refine pw cx Tryz.func124 Tryz.ntmps124 ?_;refine rg cx ?_;cases x <;> cases y
 ·refine rg cx ?_;simp [push_cast, fU]
 ·refine rg cx ?_;simp [push_cast, fU]
 ·refine rg cx ?_;simp [push_cast, fU]
 ·refine rg cx ?_;simp [push_cast, fU]
theorem keepD (x y : Bool) : PC Tryz.prog 120 [.bool x, .bool y] (.p (.bool (fD x y))) := by
 refine pw cx Tryz.func120 Tryz.ntmps120 ?_;refine rg cx ?_;cases x <;> cases y
 ·refine rg cx ?_;simp [push_cast, fD]
 ·refine rg cx ?_;simp [push_cast, fD]
 ·refine rg cx ?_;simp [push_cast, fD]
 ·refine rg cx ?_;simp [push_cast, fD]
theorem union_ok (a b : List Run) (hal : a.length <= 1000000) (hbl : b.length <= 1000000) (ha : zal a = true) (hb : zal b = true) : PC Tryz.prog 62 [zm a, zm b] (.p (zm (sweep fU a b))) := by
 have c1 := sweepc_ok fU 124 keepU a b hal hbl ha hb;generalize sweep fU a b = r at *;refine pw cx Tryz.func62 Tryz.ntmps62 ?_;refine rg cx ?_;refine rx cx [(2, .p (zm r))] (fun K hK => by simp [push_cast, c1]; (repeat refine ob ?_); exact hK) ?_;simp [push_cast]
theorem zma (a b : List Run) (hal : a.length <= 1000000) (hbl : b.length <= 1000000) (ha : zal a = true) (hb : zal b = true) : PC Tryz.prog 56 [zm a, zm b] (.p (zm (sweep fD a b))) := by
 have c1 := sweepc_ok fD 120 keepD a b hal hbl ha hb;generalize sweep fD a b = r at *;refine pw cx Tryz.func56 Tryz.ntmps56 ?_;refine rg cx ?_;refine rx cx [(2, .p (zm r))] (fun K hK => by simp [push_cast, c1]; (repeat refine ob ?_); exact hK) ?_;simp [push_cast]
end Go.Proofs.YtdddknniooimmaaGreat
