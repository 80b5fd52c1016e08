/-
  The walks of this seat's functions and the plain laws behind them: part G2.
-/
import Derived.Test.YtmfkfgonedgjnaaG1
set_option linter.unusedVariables false
set_option linter.unusedSimpArgs false
namespace Go.Proofs.Ytmfkfgonedgjnaa
open Go.Abs

/-! Regions with the same cells are one. -/
theorem ltY_uniq : ∀ {l l' : List Cell}, l.Pairwise ltY → l'.Pairwise ltY → (∀ c, c ∈ l ↔ c ∈ l') → l = l' := by
  intro l l' h1 h2 h
  refine sortedY_uniq ?_ (h1.imp fun h => leY_of_lt h) (h2.imp fun h => leY_of_lt h)
  exact (List.perm_ext_iff_of_nodup (nodup_of_ltY h1) (nodup_of_ltY h2)).2 h
theorem region_uniq {R S : List Row} (hR : validR R = true) (hS : validR S = true) (h : ∀ c, c ∈ regCells R ↔ c ∈ regCells S) : R = S := by
  rw [← build_cells hR, ← build_cells hS, ltY_uniq (cells_pw hR) (cells_pw hS) h]

/-! Sets of numbers, as runs. -/
def inR (l : List Run) (x : Int) : Bool := l.any fun r => decide (r.a ≤ x) && decide (x < r.b)
theorem inR_iff {l : List Run} {x : Int} : inR l x = true ↔ ∃ r ∈ l, r.a ≤ x ∧ x < r.b := by simp [inR]
def Apart (l : List Run) : Prop := (∀ r ∈ l, r.a < r.b) ∧ l.Pairwise fun p r => p.b < r.a
theorem rv_gap {l : List Run} (h : rvalid l = true) {k : Nat} {r p : Run} (hr : l[k + 1]? = some r) (hp : l[k]? = some p) : p.b < r.a := by
  have hk := (List.getElem?_eq_some_iff.1 hr).1
  have := all_range_at h hk
  rw [rvAt_some hr (by simpa using hp)] at this
  simp at this
  omega
theorem rv_lt {l : List Run} (h : rvalid l = true) : ∀ (j i : Nat) (r p : Run), i < j → l[j]? = some r → l[i]? = some p → p.b < r.a
  | 0, i, r, p, hij, _, _ => by omega
  | j + 1, i, r, p, hij, hr, hp => by
    by_cases e : i = j
    · subst e; exact rv_gap h hr hp
    · have hj := (List.getElem?_eq_some_iff.1 hr).1
      obtain ⟨q, hq⟩ : ∃ q, l[j]? = some q := getq (by omega)
      have h1 := rv_lt h j i q p (by omega) hq hp
      have h2 := rv_gap h hr hq
      have h3 := rvalid_at h hq
      omega
theorem rvalid_iff {l : List Run} : rvalid l = true ↔ Apart l ∧ ∀ r ∈ l, fitsB r = true := by
  constructor
  · intro h
    refine ⟨⟨fun r hr => ?_, ?_⟩, fun r hr => ?_⟩
    · obtain ⟨i, hi⟩ := List.mem_iff_getElem?.1 hr; exact (rvalid_at h hi).1
    · rw [List.pairwise_iff_getElem]
      intro i j hi hj hij
      exact rv_lt h j i l[j] l[i] hij (List.getElem?_eq_getElem hj) (List.getElem?_eq_getElem hi)
    · obtain ⟨i, hi⟩ := List.mem_iff_getElem?.1 hr; exact (rvalid_at h hi).2
  · rintro ⟨⟨h1, h2⟩, h3⟩
    apply List.all_eq_true.2
    intro i hi
    have hi : i < l.length := by simpa using hi
    obtain ⟨r, hr⟩ := getq hi
    obtain ⟨p, hp⟩ : ∃ q, l[i - 1]? = some q := getq (by omega)
    rw [rvAt_some hr hp]
    have hm := List.mem_of_getElem? hr
    simp only [Bool.and_eq_true, decide_eq_true_eq, Bool.or_eq_true, beq_iff_eq]
    refine ⟨⟨h1 r hm, h3 r hm⟩, ?_⟩
    by_cases e : i = 0
    · exact .inl e
    · right
      obtain ⟨hi', rfl⟩ := List.getElem?_eq_some_iff.1 hr
      obtain ⟨hp', rfl⟩ := List.getElem?_eq_some_iff.1 hp
      exact List.pairwise_iff_getElem.1 h2 (i - 1) i hp' hi' (by omega)
theorem fine_apart {l : List Run} : fine l = true ↔ l ≠ [] ∧ Apart l ∧ ∀ r ∈ l, -4096 ≤ r.a ∧ r.b ≤ 4096 := by
  constructor
  · intro h
    have hne : l ≠ [] := by rintro rfl; simp [fine] at h
    refine ⟨hne, (rvalid_iff.1 (fine_rv h)).1, fun r hr => ?_⟩
    obtain ⟨i, hi⟩ := List.mem_iff_getElem?.1 hr
    have := fine_at h hi
    omega
  · rintro ⟨hne, h1, h2⟩
    have hrv : rvalid l = true := rvalid_iff.2 ⟨h1, fun r hr => by
      have := h2 r hr; have := h1.1 r hr; simp [fitsB]; omega⟩
    have hlp := List.length_pos_iff.2 hne
    obtain ⟨f, hf⟩ : ∃ f, l[0]? = some f := getq hlp
    obtain ⟨z, hz⟩ : ∃ f, l[l.length - 1]? = some f := getq (by omega)
    rw [fine_iff hf hz, hrv]
    have a1 := h2 f (List.mem_of_getElem? hf)
    have a2 := h1.1 f (List.mem_of_getElem? hf)
    have a3 := h2 z (List.mem_of_getElem? hz)
    have a4 := h1.1 z (List.mem_of_getElem? hz)
    simp [okB]; omega

/-! The bounds of runs. -/
def bnd (l : List Run) (i : Nat) : Int := match l[i / 2]? with
  | some r => if i % 2 = 1 then r.b else r.a
  | none => 1048577
theorem bnd_even {l : List Run} {k : Nat} {r : Run} (h : l[k]? = some r) : bnd l (2 * k) = r.a := by
  have e : 2 * k / 2 = k := by omega
  have e2 : ¬ 2 * k % 2 = 1 := by omega
  simp only [bnd, e, h, if_neg e2]
theorem bnd_odd {l : List Run} {k : Nat} {r : Run} (h : l[k]? = some r) : bnd l (2 * k + 1) = r.b := by
  have e : (2 * k + 1) / 2 = k := by omega
  have e2 : (2 * k + 1) % 2 = 1 := by omega
  simp only [bnd, e, h, if_pos e2]
theorem bnd_over (l : List Run) : bnd l (2 * l.length) = 1048577 := by
  have e : 2 * l.length / 2 = l.length := by omega
  simp [bnd, e]
theorem bnd_cases {l : List Run} {i : Nat} (h : i < 2 * l.length) : ∃ k r, l[k]? = some r ∧ (i = 2 * k ∧ bnd l i = r.a ∨ i = 2 * k + 1 ∧ bnd l i = r.b) := by
  obtain ⟨r, hr⟩ : ∃ r, l[i / 2]? = some r := getq (by omega)
  refine ⟨i / 2, r, hr, ?_⟩
  by_cases e : i % 2 = 1
  · right
    have e1 : i = 2 * (i / 2) + 1 := by omega
    exact ⟨e1, (congrArg (bnd l) e1).trans (bnd_odd hr)⟩
  · left
    have e1 : i = 2 * (i / 2) := by omega
    exact ⟨e1, (congrArg (bnd l) e1).trans (bnd_even hr)⟩
theorem bnd_step {l : List Run} (h : rvalid l = true) {i : Nat} (hi : i < 2 * l.length) : bnd l i < bnd l (i + 1) := by
  obtain ⟨k, r, hr, ⟨e1, e2⟩ | ⟨e1, e2⟩⟩ := bnd_cases hi
  · rw [e2, e1, bnd_odd hr]; exact (rvalid_at h hr).1
  · by_cases hk : k + 1 < l.length
    · obtain ⟨s, hs⟩ := getq hk
      rw [e2, e1, show 2 * k + 1 + 1 = 2 * (k + 1) from by omega, bnd_even hs]
      exact rv_gap h hs hr
    · have := (List.getElem?_eq_some_iff.1 hr).1
      rw [e2, e1, show 2 * k + 1 + 1 = 2 * l.length from by omega, bnd_over]
      have := fitsB_bd (rvalid_at h hr).2
      omega
theorem bnd_asc {l : List Run} (h : rvalid l = true) : ∀ (n i : Nat), i + n ≤ 2 * l.length → bnd l i ≤ bnd l (i + n)
  | 0, i, _ => Int.le_refl _
  | n + 1, i, hi => by
    have h1 := bnd_asc h n i (by omega)
    have h2 := bnd_step h (i := i + n) (by omega)
    rw [show i + (n + 1) = i + n + 1 from by omega]
    omega
theorem bnd_fits {l : List Run} (h : rvalid l = true) {i : Nat} (hi : i < 2 * l.length) : -1048576 ≤ bnd l i ∧ bnd l i ≤ 1048576 := by
  obtain ⟨k, r, hr, ⟨e1, e2⟩ | ⟨e1, e2⟩⟩ := bnd_cases hi <;>
  · have := fitsB_bd (rvalid_at h hr).2
    omega
/-- A number is in the set exactly if the number of bounds up to it is odd. -/
theorem inR_bnd {l : List Run} (h : rvalid l = true) {p : Nat} {y : Int} (hp : p ≤ 2 * l.length) (h1 : ∀ i, i < p → bnd l i ≤ y) (h2 : p < 2 * l.length → y < bnd l p) : inR l y = (p % 2 == 1) := by
  apply Bool.eq_iff_iff.2
  rw [inR_iff]
  simp only [beq_iff_eq]
  constructor
  · rintro ⟨r, hr, h3, h4⟩
    obtain ⟨k, hk⟩ := List.mem_iff_getElem?.1 hr
    have hkl := (List.getElem?_eq_some_iff.1 hk).1
    apply Classical.byContradiction
    intro he
    have e : p = 2 * (p / 2) := by omega
    by_cases hlt : k < p / 2
    · have := h1 (2 * k + 1) (by omega)
      rw [bnd_odd hk] at this
      omega
    · have h5 := h2 (by omega)
      have h6 := bnd_asc h (2 * k - p) p (by omega)
      rw [show p + (2 * k - p) = 2 * k from by omega, bnd_even hk] at h6
      omega
  · intro he
    have e : p = 2 * (p / 2) + 1 := by omega
    obtain ⟨r, hr⟩ : ∃ r, l[p / 2]? = some r := getq (by omega)
    refine ⟨r, List.mem_of_getElem? hr, ?_, ?_⟩
    · have := h1 (2 * (p / 2)) (by omega)
      rwa [bnd_even hr] at this
    · have := h2 (by omega)
      rw [e, bnd_odd hr] at this
      exact this

/-! The sweep. -/
def swX (a b : List Run) (p q : Nat) : Int := min (bnd a p) (bnd b q)
def swP (a : List Run) (x : Int) (p : Nat) : Nat := if bnd a p = x then p + 1 else p
def swOut (now o : Bool) (out : List Run) (x : Int) : List Run :=
  if now && !o then out ++ [⟨x, 0⟩] else if !now && o then out.dropLast ++ [⟨(out.getLast?.getD ⟨0, 0⟩).a, x⟩] else out
def swF (f : Bool → Bool → Bool) (a b : List Run) : Nat → Nat → Nat → List Run → Bool → List Run
  | 0, _, _, out, _ => out
  | n + 1, p, q, out, o =>
    if p = 2 * a.length ∧ q = 2 * b.length then out else
      swF f a b n (swP a (swX a b p q) p) (swP b (swX a b p q) q)
        (swOut (f (swP a (swX a b p q) p % 2 == 1) (swP b (swX a b p q) q % 2 == 1)) o out (swX a b p q)) (f (swP a (swX a b p q) p % 2 == 1) (swP b (swX a b p q) q % 2 == 1))
def sweep (f : Bool → Bool → Bool) (a b : List Run) : List Run := if rvalid a && rvalid b then swF f a b (2 * a.length + 2 * b.length) 0 0 [] false else []

/-- Where the sweep stands: all bounds up to X are behind it. -/
structure SwAt (f : Bool → Bool → Bool) (a b : List Run) (p q : Nat) (out : List Run) (o : Bool) (X : Int) (C : List Run) (s : Int) : Prop where
  hp : p ≤ 2 * a.length
  hq : q ≤ 2 * b.length
  p1 : ∀ i, i < p → bnd a i ≤ X
  p2 : p < 2 * a.length → X < bnd a p
  q1 : ∀ i, i < q → bnd b i ≤ X
  q2 : q < 2 * b.length → X < bnd b q
  eout : out = if o then C ++ [⟨s, 0⟩] else C
  ap : Apart C
  le : ∀ r ∈ C, r.b ≤ X
  so : o = true → s ≤ X ∧ ∀ r ∈ C, r.b < s
  eo : o = f (p % 2 == 1) (q % 2 == 1)
  mem : ∀ y, y ≤ X → (f (inR a y) (inR b y) = true ↔ (inR C y = true ∨ (o = true ∧ s ≤ y)))

theorem swP_facts {a : List Run} (ha : rvalid a = true) {p : Nat} {X x : Int} (hp : p ≤ 2 * a.length) (p1 : ∀ i, i < p → bnd a i ≤ X) (hX : X < x) (hx : x ≤ bnd a p) (hb : x ≤ 1048576) :
    swP a x p ≤ 2 * a.length ∧ (∀ i, i < swP a x p → bnd a i ≤ x) ∧ (swP a x p < 2 * a.length → x < bnd a (swP a x p)) := by
  unfold swP
  split
  · rename_i e
    have hlt : p < 2 * a.length := by
      apply Classical.byContradiction
      intro h
      have h3 : bnd a p = 1048577 := by rw [show p = 2 * a.length from by omega]; exact bnd_over a
      omega
    refine ⟨hlt, fun i hi => ?_, fun h => ?_⟩
    · by_cases e2 : i = p
      · subst e2; omega
      · have := p1 i (by omega); omega
    · have := bnd_step ha hlt; omega
  · rename_i e
    refine ⟨hp, fun i hi => by have := p1 i hi; omega, fun h => by omega⟩

theorem inR_app (C : List Run) (r : Run) (y : Int) : inR (C ++ [r]) y = (inR C y || (decide (r.a ≤ y) && decide (y < r.b))) := by simp [inR]
theorem sw_step {f : Bool → Bool → Bool} {a b : List Run} (ha : rvalid a = true) (hb : rvalid b = true) {p q : Nat} {out : List Run} {o : Bool} {X : Int} {C : List Run} {s : Int} (h : SwAt f a b p q out o X C s) (hn : ¬ (p = 2 * a.length ∧ q = 2 * b.length)) :
    X < swX a b p q ∧ ∃ C' s', SwAt f a b (swP a (swX a b p q) p) (swP b (swX a b p q) q) (swOut (f (swP a (swX a b p q) p % 2 == 1) (swP b (swX a b p q) q % 2 == 1)) o out (swX a b p q)) (f (swP a (swX a b p q) p % 2 == 1) (swP b (swX a b p q) q % 2 == 1)) (swX a b p q) C' s' := by
  obtain ⟨hp, hq, p1, p2, q1, q2, hout, hap, hle, hso, ho, hmem⟩ := h
  have x1 : swX a b p q ≤ bnd a p := Int.min_le_left _ _
  have x2 : swX a b p q ≤ bnd b q := Int.min_le_right _ _
  have x3 : swX a b p q = bnd a p ∨ swX a b p q = bnd b q := by unfold swX; omega
  have hXb : swX a b p q ≤ 1048576 := by
    by_cases e : p < 2 * a.length
    · have := bnd_fits ha e; omega
    · have := bnd_fits hb (i := q) (by omega); omega
  have hX : X < swX a b p q := by
    rcases x3 with e | e
    · rw [e]
      refine p2 ?_
      apply Classical.byContradiction
      intro h
      have h3 : bnd a p = 1048577 := by rw [show p = 2 * a.length from by omega]; exact bnd_over a
      omega
    · rw [e]
      refine q2 ?_
      apply Classical.byContradiction
      intro h
      have h3 : bnd b q = 1048577 := by rw [show q = 2 * b.length from by omega]; exact bnd_over b
      omega
  obtain ⟨P1, P2, P3⟩ := swP_facts ha hp p1 hX x1 hXb
  obtain ⟨Q1, Q2, Q3⟩ := swP_facts hb hq q1 hX x2 hXb
  generalize swX a b p q = x at *
  generalize swP a x p = p' at *
  generalize swP b x q = q' at *
  have hbet : ∀ y, X ≤ y → y < x → f (inR a y) (inR b y) = o := fun y h1 h2 => by
    rw [inR_bnd ha hp (fun i hi => Int.le_trans (p1 i hi) h1) (fun _ => by omega), inR_bnd hb hq (fun i hi => Int.le_trans (q1 i hi) h1) (fun _ => by omega)]
    exact ho.symm
  have hat : f (inR a x) (inR b x) = f (p' % 2 == 1) (q' % 2 == 1) := by rw [inR_bnd ha P1 P2 P3, inR_bnd hb Q1 Q2 Q3]
  generalize hnow : f (p' % 2 == 1) (q' % 2 == 1) = now at *
  have hnoC : ∀ y, X ≤ y → inR C y = false := fun y h1 => by
    rw [Bool.eq_false_iff]
    intro hc
    obtain ⟨r, hr, h2, h3⟩ := inR_iff.1 hc
    have := hle r hr
    omega
  refine ⟨hX, ?_⟩
  have dich : ∀ y, y ≤ x → y ≤ X ∨ (X < y ∧ y < x) ∨ y = x := fun y hy => by omega
  cases hnw : now <;> cases hoo : o
  · -- neither
    refine ⟨C, s, P1, Q1, P2, P3, Q2, Q3, ?_, hap, fun r hr => by have := hle r hr; omega, fun h => (by cases h), by rw [hnow, hnw], fun y hy => ?_⟩
    · simp [swOut, hout, hoo]
    · rcases dich y hy with h | ⟨h1, h2⟩ | h
      · rw [hmem y h, hoo]
      · rw [hbet y (by omega) h2, hoo, hnoC y (by omega)]; simp
      · rw [h, hat, hnw, hnoC x (by omega)]; simp
  · -- the run ends
    have ⟨hs1, hs2⟩ := hso hoo
    refine ⟨C ++ [⟨s, x⟩], 0, P1, Q1, P2, P3, Q2, Q3, ?_, ⟨?_, ?_⟩, ?_, fun h => (by cases h), by rw [hnow, hnw], fun y hy => ?_⟩
    · simp [swOut, hout, hoo]
    · intro r hr
      rcases List.mem_append.1 hr with hr | hr
      · exact hap.1 r hr
      · simp at hr; subst hr; simp only; omega
    · rw [List.pairwise_append]
      refine ⟨hap.2, by simp, fun r hr t ht => ?_⟩
      simp at ht; subst ht; exact hs2 r hr
    · intro r hr
      rcases List.mem_append.1 hr with hr | hr
      · have := hle r hr; omega
      · simp at hr; subst hr; simp
    · rw [inR_app]
      rcases dich y hy with h | ⟨h1, h2⟩ | h
      · have : y < x := by omega
        rw [hmem y h, hoo]; simp [this]
      · rw [hbet y (by omega) h2, hoo, hnoC y (by omega)]; simp; omega
      · rw [h, hat, hnw, hnoC x (by omega)]; simp
  · -- a run begins
    refine ⟨C, x, P1, Q1, P2, P3, Q2, Q3, ?_, hap, fun r hr => by have := hle r hr; omega, fun _ => ⟨Int.le_refl _, fun r hr => by have := hle r hr; omega⟩, by rw [hnow, hnw], fun y hy => ?_⟩
    · simp [swOut, hout, hoo]
    · rcases dich y hy with h | ⟨h1, h2⟩ | h
      · rw [hmem y h, hoo]; simp; omega
      · rw [hbet y (by omega) h2, hoo, hnoC y (by omega)]; simp; omega
      · rw [h, hat, hnw]; simp
  · -- the run goes on
    have ⟨hs1, hs2⟩ := hso hoo
    refine ⟨C, s, P1, Q1, P2, P3, Q2, Q3, ?_, hap, fun r hr => by have := hle r hr; omega, fun _ => ⟨by omega, hs2⟩, by rw [hnow, hnw], fun y hy => ?_⟩
    · simp [swOut, hout, hoo]
    · rcases dich y hy with h | ⟨h1, h2⟩ | h
      · rw [hmem y h, hoo]
      · rw [hbet y (by omega) h2, hoo]; simp; omega
      · rw [h, hat, hnw]; simp; omega
theorem sw_all {f : Bool → Bool → Bool} (hf : f false false = false) {a b : List Run} (ha : rvalid a = true) (hb : rvalid b = true) : ∀ (n p q : Nat) (out : List Run) (o : Bool) (X : Int) (C : List Run) (s : Int), SwAt f a b p q out o X C s → 2 * a.length + 2 * b.length ≤ n + (p + q) →
    Apart (swF f a b n p q out o) ∧ ∀ y, inR (swF f a b n p q out o) y = f (inR a y) (inR b y) := by
  have fin : ∀ (p q : Nat) (out : List Run) (o : Bool) (X : Int) (C : List Run) (s : Int), SwAt f a b p q out o X C s → p = 2 * a.length ∧ q = 2 * b.length → Apart out ∧ ∀ y, inR out y = f (inR a y) (inR b y) := by
    rintro p q out o X C s ⟨hp, hq, p1, p2, q1, q2, hout, hap, hle, hso, ho, hmem⟩ ⟨e1, e2⟩
    have ho0 : o = false := by
      rw [ho, e1, e2]
      have h1 : (2 * a.length % 2 == 1) = false := by simp
      have h2 : (2 * b.length % 2 == 1) = false := by simp
      rw [h1, h2, hf]
    subst ho0
    simp only [Bool.false_eq_true, if_false] at hout
    subst hout
    refine ⟨hap, fun y => ?_⟩
    by_cases hy : y ≤ X
    · have := hmem y hy
      simp only [Bool.false_eq_true, false_and, or_false] at this
      exact (Bool.eq_iff_iff.2 this).symm
    · have h1 := inR_bnd ha hp (fun i hi => Int.le_trans (p1 i hi) (by omega : X ≤ y)) (fun h => by omega)
      have h2 := inR_bnd hb hq (fun i hi => Int.le_trans (q1 i hi) (by omega : X ≤ y)) (fun h => by omega)
      rw [h1, h2, ← ho, Bool.eq_false_iff]
      intro hc
      obtain ⟨r, hr, h3, h4⟩ := inR_iff.1 hc
      have := hle r hr
      omega
  intro n
  induction n with
  | zero =>
    intro p q out o X C s h hn
    exact fin p q out o X C s h ⟨by have := h.hp; have := h.hq; omega, by have := h.hp; have := h.hq; omega⟩
  | succ n ih =>
    intro p q out o X C s h hn
    unfold swF
    split
    · rename_i e; exact fin p q out o X C s h e
    · rename_i e
      obtain ⟨hX, C', s', h'⟩ := sw_step ha hb h e
      refine ih _ _ _ _ _ C' s' h' ?_
      have : p + q + 1 ≤ swP a (swX a b p q) p + swP b (swX a b p q) q := by
        unfold swP swX
        split <;> split <;> omega
      omega
theorem sweep_facts {f : Bool → Bool → Bool} (hf : f false false = false) {a b : List Run} (ha : rvalid a = true) (hb : rvalid b = true) : Apart (sweep f a b) ∧ ∀ y, inR (sweep f a b) y = f (inR a y) (inR b y) := by
  have e : sweep f a b = swF f a b (2 * a.length + 2 * b.length) 0 0 [] false := by simp [sweep, ha, hb]
  rw [e]
  refine sw_all hf ha hb _ 0 0 [] false (-1048577) [] 0 ⟨Nat.zero_le _, Nat.zero_le _, fun i hi => by omega, fun h => ?_, fun i hi => by omega, fun h => ?_, rfl, ⟨by simp, List.Pairwise.nil⟩, by simp, fun h => (by cases h), by simp [hf], fun y hy => ?_⟩ (by omega)
  · have := bnd_fits ha h; omega
  · have := bnd_fits hb h; omega
  · have h1 := inR_bnd ha (p := 0) (y := y) (Nat.zero_le _) (fun i hi => by omega) (fun h => by have := bnd_fits ha h; omega)
    have h2 := inR_bnd hb (p := 0) (y := y) (Nat.zero_le _) (fun i hi => by omega) (fun h => by have := bnd_fits hb h; omega)
    rw [h1, h2]
    simp [hf, inR]
theorem apart_bounds {l : List Run} (h : Apart l) {lo hi : Int} (hm : ∀ y, inR l y = true → lo ≤ y ∧ y < hi) : ∀ r ∈ l, lo ≤ r.a ∧ r.b ≤ hi := fun r hr => by
  have h1 := h.1 r hr
  have h2 := hm r.a (inR_iff.2 ⟨r, hr, Int.le_refl _, h1⟩)
  have h3 := hm (r.b - 1) (inR_iff.2 ⟨r, hr, by omega, by omega⟩)
  omega
theorem inR_fits {l : List Run} (h : rvalid l = true) {y : Int} (hy : inR l y = true) : -1048576 ≤ y ∧ y < 1048576 := by
  obtain ⟨r, hr, h1, h2⟩ := inR_iff.1 hy
  obtain ⟨i, hi⟩ := List.mem_iff_getElem?.1 hr
  have := fitsB_bd (rvalid_at h hi).2
  omega
theorem sweep_valid {f : Bool → Bool → Bool} (hf : f false false = false) {a b : List Run} (ha : rvalid a = true) (hb : rvalid b = true) : rvalid (sweep f a b) = true := by
  obtain ⟨h1, h2⟩ := sweep_facts hf ha hb
  refine rvalid_iff.2 ⟨h1, fun r hr => ?_⟩
  have h0 := h1.1 r hr
  have := apart_bounds h1 (lo := -1048576) (hi := 1048576) (fun y hy => by
    rw [h2] at hy
    cases e1 : inR a y with
    | true => exact inR_fits ha e1
    | false =>
      cases e2 : inR b y with
      | true => exact inR_fits hb e2
      | false => rw [e1, e2, hf] at hy; cases hy) r hr
  simp [fitsB]; omega
end Go.Proofs.Ytmfkfgonedgjnaa
