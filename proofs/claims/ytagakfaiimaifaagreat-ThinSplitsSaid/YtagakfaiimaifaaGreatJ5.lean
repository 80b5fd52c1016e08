/-
  Texts of this seat put together: G1, G2, G3, X1, X2, E1, T1, E2.
-/
import Derived.Test.YtagakfaiimaifaaGreatJ4
set_option linter.unusedVariables false
set_option linter.unusedSimpArgs false
set_option maxRecDepth 100000
namespace Go.Proofs.YtagakfaiimaifaaGreat
open Go.Abs

/-! The region of cells: what is built of them, one after the other. -/
def addRun (l : List Run) (x : Int) : List Run := match l.getLast? with
  | none => [⟨x, x + 1⟩]
  | some r => if r.b < x then l ++ [⟨x, x + 1⟩] else l.dropLast ++ [⟨r.a, max r.b (x + 1)⟩]
def addC (R : List Row) (c : Cell) : List Row := match R.getLast? with
  | none => [⟨c.y, [⟨c.x, c.x + 1⟩]⟩]
  | some w => if w.y = c.y then R.dropLast ++ [⟨w.y, addRun w.runs c.x⟩] else R ++ [⟨c.y, [⟨c.x, c.x + 1⟩]⟩]
def build (l : List Cell) : List Row := l.foldl addC []

theorem addRun_nil (x : Int) : addRun [] x = [⟨x, x + 1⟩] := rfl
theorem addRun_end (l : List Run) (r : Run) (x : Int) : addRun (l ++ [r]) x = if r.b < x then l ++ [r] ++ [⟨x, x + 1⟩] else l ++ [⟨r.a, max r.b (x + 1)⟩] := by simp [addRun]
theorem addC_nil (c : Cell) : addC [] c = [⟨c.y, [⟨c.x, c.x + 1⟩]⟩] := rfl
theorem addC_end (R : List Row) (w : Row) (c : Cell) : addC (R ++ [w]) c = if w.y = c.y then R ++ [⟨w.y, addRun w.runs c.x⟩] else R ++ [w] ++ [⟨c.y, [⟨c.x, c.x + 1⟩]⟩] := by simp [addC]
theorem addC_len (R : List Row) (c : Cell) : (addC R c).length ≤ R.length + 1 := by
  rcases List.eq_nil_or_concat R with rfl | ⟨R', w, rfl⟩
  · simp [addC_nil]
  · rw [List.concat_eq_append, addC_end]; split <;> simp
theorem build_take {l : List Cell} {k : Nat} {c : Cell} (h : l[k]? = some c) : build (l.take (k + 1)) = addC (build (l.take k)) c := by
  simp [build, take_get h]

/-- A run, drawn cell by cell. -/
theorem build_run (P : List Row) (L : List Run) (y a : Int) : ∀ (n j : Nat), ((List.range n).map fun k : Nat => (⟨a + (j + 1) + k, y⟩ : Cell)).foldl addC (P ++ [⟨y, L ++ [⟨a, a + j + 1⟩]⟩]) = P ++ [⟨y, L ++ [⟨a, a + j + 1 + n⟩]⟩]
  | 0, j => by simp
  | n + 1, j => by
    rw [List.range_succ_eq_map, List.map_cons, List.foldl_cons, addC_end, addRun_end]
    simp only [if_true, Int.natCast_zero, Int.add_zero]
    have h1 : ¬ a + (j : Int) + 1 < a + ((j : Int) + 1) := by omega
    have h2 : max (a + (j : Int) + 1) (a + ((j : Int) + 1) + 1) = a + ((j + 1 : Nat) : Int) + 1 := by omega
    rw [if_neg h1, h2]
    have := build_run P L y a n (j + 1)
    rw [List.map_map]
    have e : ((fun k : Nat => (⟨a + ((j : Int) + 1) + k, y⟩ : Cell)) ∘ Nat.succ) = fun k : Nat => (⟨a + (((j + 1 : Nat) : Int) + 1) + k, y⟩ : Cell) := by
      funext k; simp; omega
    rw [e, this]
    congr 4
    simp; omega
theorem run_cells {y : Int} {r : Run} (h : r.a < r.b) : ∃ n : Nat, r.b = r.a + 1 + n ∧ runCells y r = ⟨r.a, y⟩ :: (List.range n).map fun k : Nat => (⟨r.a + ((0 : Nat) + 1) + k, y⟩ : Cell) := by
  refine ⟨(r.b - r.a - 1).toNat, by omega, ?_⟩
  unfold runCells
  rw [show (r.b - r.a).toNat = (r.b - r.a - 1).toNat + 1 from by omega, List.range_succ_eq_map, List.map_cons, List.map_map]
  congr 1
  · simp
  · apply List.map_congr_left; intro k _; simp; omega
/-- .. in a row that has begun. -/
theorem build_next (P : List Row) (L : List Run) (y : Int) (r : Run) (h : r.a < r.b) (hL : L ≠ []) (hgap : ∀ p, L.getLast? = some p → p.b < r.a) : (runCells y r).foldl addC (P ++ [⟨y, L⟩]) = P ++ [⟨y, L ++ [r]⟩] := by
  obtain ⟨n, hn, hc⟩ := run_cells (y := y) h
  obtain ⟨L', p, rfl⟩ : ∃ L' p, L = L' ++ [p] := by
    rcases List.eq_nil_or_concat L with e | ⟨L', p, e⟩
    · exact absurd e hL
    · exact ⟨L', p, by rw [e, List.concat_eq_append]⟩
  have := hgap p (by simp)
  rw [hc, List.foldl_cons, addC_end, addRun_end]
  simp only [if_true]
  rw [if_pos this]
  have h2 := build_run P (L' ++ [p]) y r.a n 0
  simp only [Int.natCast_zero, Int.add_zero, Int.zero_add] at h2 ⊢
  rw [h2, ← hn]
theorem build_first (P : List Row) (y : Int) (r : Run) (h : r.a < r.b) (hP : ∀ w, P.getLast? = some w → w.y ≠ y) : (runCells y r).foldl addC P = P ++ [⟨y, [r]⟩] := by
  obtain ⟨n, hn, hc⟩ := run_cells (y := y) h
  rw [hc, List.foldl_cons]
  have h1 : addC P ⟨r.a, y⟩ = P ++ [⟨y, [] ++ [⟨r.a, r.a + (0 : Nat) + 1⟩]⟩] := by
    rcases List.eq_nil_or_concat P with rfl | ⟨P', w, rfl⟩
    · simp [addC_nil]
    · rw [List.concat_eq_append] at hP ⊢
      have := hP w (by simp)
      rw [addC_end, if_neg this]; simp
  have h2 := build_run P [] y r.a n 0
  rw [h1]
  simp only [Int.natCast_zero, Int.add_zero, Int.zero_add, List.nil_append] at h2 ⊢
  rw [h2, ← hn]
theorem build_runs (P : List Row) (y : Int) : ∀ (l L : List Run), L ≠ [] → fine (L ++ l) = true → (l.flatMap (runCells y)).foldl addC (P ++ [⟨y, L⟩]) = P ++ [⟨y, L ++ l⟩]
  | [], L, _, _ => by simp
  | r :: l, L, hL, hf => by
    rw [List.flatMap_cons, List.foldl_append]
    have hr : (L ++ r :: l)[L.length]? = some r := by simp
    have h1 := fine_at hf hr
    rw [build_next P L y r h1.2.1 hL]
    · have := build_runs P y l (L ++ [r]) (by simp) (by simpa using hf)
      rw [this]; simp
    · intro p hp
      rw [List.getLast?_eq_getElem?] at hp
      have hlp : 0 < L.length := List.length_pos_iff.2 hL
      refine fine_gap hf (k := L.length - 1) (by rw [show L.length - 1 + 1 = L.length from by omega]; exact hr) ?_
      rw [List.getElem?_append_left (by omega)]; exact hp
theorem build_row (P : List Row) (w : Row) (hw : fine w.runs = true) (hP : ∀ v, P.getLast? = some v → v.y ≠ w.y) : (rowCells w).foldl addC P = P ++ [w] := by
  obtain ⟨y, l⟩ := w
  cases l with
  | nil => simp [fine] at hw
  | cons r l =>
    have h1 := fine_at hw (k := 0) (r := r) (by simp)
    simp only [rowCells, List.flatMap_cons, List.foldl_append]
    rw [build_first P y r h1.2.1 hP, build_runs P y l [r] (by simp) hw]
    simp
theorem build_rows {R : List Row} (h : validR R = true) : ∀ (n : Nat), n ≤ R.length → ((R.take n).flatMap rowCells).foldl addC [] = R.take n
  | 0, _ => by simp
  | n + 1, hn => by
    obtain ⟨w, hw⟩ : ∃ w, R[n]? = some w := getq (by omega)
    rw [take_get hw, List.flatMap_append, List.foldl_append, build_rows h n (by omega)]
    simp only [List.flatMap_cons, List.flatMap_nil, List.append_nil]
    refine build_row _ w (validR_at h hw).2 fun v hv => ?_
    rw [List.getLast?_eq_getElem?, List.length_take, Nat.min_eq_left (by omega)] at hv
    by_cases e : n = 0
    · subst e; simp at hv
    · rw [List.getElem?_take, if_pos (by omega)] at hv
      have := validR_gap h (i := n - 1) (by rw [show n - 1 + 1 = n from by omega]; exact hw) hv
      omega
/-- The region of the cells of a valid region is that region. -/
theorem build_cells {R : List Row} (h : validR R = true) : build (regCells R) = R := by
  have := build_rows h R.length (Nat.le_refl _)
  rwa [List.take_length] at this

/-! The order of cells by rows. -/
def leY (a b : Cell) : Bool := decide (a.y < b.y) || (decide (a.y = b.y) && decide (a.x ≤ b.x))
def sortY (l : List Cell) : List Cell := l.mergeSort leY
theorem sortY_perm (l : List Cell) : (sortY l).Perm l := List.mergeSort_perm l leY
theorem sortY_le (l : List Cell) : (sortY l).Pairwise fun a b => leY a b = true :=
  List.pairwise_mergeSort (fun a b c h1 h2 => by simp [leY] at *; omega) (fun a b => by simp [leY]; omega) l
theorem leY_anti {a b : Cell} (h1 : leY a b = true) (h2 : leY b a = true) : a = b := by
  cases a; cases b; simp [leY] at *; omega
theorem sortedY_uniq : ∀ {l l' : List Cell}, l.Perm l' → (l.Pairwise fun a b => leY a b = true) → (l'.Pairwise fun a b => leY a b = true) → l = l'
  | [], l', h, _, _ => by have := h.length_eq; simp at this; exact (List.length_eq_zero_iff.1 this.symm).symm
  | a :: l, [], h, _, _ => by have := h.length_eq; simp at this
  | a :: l, b :: l', h, h2, h3 => by
    have hab : a = b := by
      have ha : a ∈ b :: l' := h.subset (by simp)
      have hb : b ∈ a :: l := h.symm.subset (by simp)
      rcases List.mem_cons.1 ha with e | ha
      · exact e
      · rcases List.mem_cons.1 hb with e | hb
        · exact e.symm
        · exact leY_anti ((List.pairwise_cons.1 h2).1 b hb) ((List.pairwise_cons.1 h3).1 a ha)
    subst hab
    rw [sortedY_uniq h.cons_inv (List.pairwise_cons.1 h2).2 (List.pairwise_cons.1 h3).2]
theorem leY_of_lt {a b : Cell} (h : ltY a b) : leY a b = true := by simp [leY, ltY] at *; omega
/-- Any list of the cells of a valid region, each once, is sorted into them. -/
theorem sortY_cells {R : List Row} (h : validR R = true) {l : List Cell} (hp : l.Perm (regCells R)) : sortY l = regCells R :=
  sortedY_uniq ((sortY_perm l).trans hp) (sortY_le l) ((cells_pw h).imp fun h => leY_of_lt h)
end Go.Proofs.YtagakfaiimaifaaGreat

set_option linter.unusedVariables false
set_option linter.unusedSimpArgs false
set_option maxRecDepth 100000
namespace Go.Proofs.YtagakfaiimaifaaGreat
open Go.Abs

/-! Regions with the same cells are one. -/
theorem ltY_uniq : ∀ {l l' : List Cell}, l.Pairwise ltY → l'.Pairwise ltY → (∀ c, c ∈ l ↔ c ∈ l') → l = l' := by
  intro l l' h1 h2 h
  refine sortedY_uniq ?_ (h1.imp fun h => leY_of_lt h) (h2.imp fun h => leY_of_lt h)
  exact (List.perm_ext_iff_of_nodup (nodup_of_ltY h1) (nodup_of_ltY h2)).2 h
theorem region_uniq {R S : List Row} (hR : validR R = true) (hS : validR S = true) (h : ∀ c, c ∈ regCells R ↔ c ∈ regCells S) : R = S := by
  rw [← build_cells hR, ← build_cells hS, ltY_uniq (cells_pw hR) (cells_pw hS) h]

/-! Sets of numbers, as runs. -/
def inR (l : List Run) (x : Int) : Bool := l.any fun r => decide (r.a ≤ x) && decide (x < r.b)
theorem inR_iff {l : List Run} {x : Int} : inR l x = true ↔ ∃ r ∈ l, r.a ≤ x ∧ x < r.b := by simp [inR]
def Apart (l : List Run) : Prop := (∀ r ∈ l, r.a < r.b) ∧ l.Pairwise fun p r => p.b < r.a
theorem rv_gap {l : List Run} (h : rvalid l = true) {k : Nat} {r p : Run} (hr : l[k + 1]? = some r) (hp : l[k]? = some p) : p.b < r.a := by
  have hk := (List.getElem?_eq_some_iff.1 hr).1
  have := all_range_at h hk
  rw [rvAt_some hr (by simpa using hp)] at this
  simp at this
  omega
theorem rv_lt {l : List Run} (h : rvalid l = true) : ∀ (j i : Nat) (r p : Run), i < j → l[j]? = some r → l[i]? = some p → p.b < r.a
  | 0, i, r, p, hij, _, _ => by omega
  | j + 1, i, r, p, hij, hr, hp => by
    by_cases e : i = j
    · subst e; exact rv_gap h hr hp
    · have hj := (List.getElem?_eq_some_iff.1 hr).1
      obtain ⟨q, hq⟩ : ∃ q, l[j]? = some q := getq (by omega)
      have h1 := rv_lt h j i q p (by omega) hq hp
      have h2 := rv_gap h hr hq
      have h3 := rvalid_at h hq
      omega
theorem rvalid_iff {l : List Run} : rvalid l = true ↔ Apart l ∧ ∀ r ∈ l, fitsB r = true := by
  constructor
  · intro h
    refine ⟨⟨fun r hr => ?_, ?_⟩, fun r hr => ?_⟩
    · obtain ⟨i, hi⟩ := List.mem_iff_getElem?.1 hr; exact (rvalid_at h hi).1
    · rw [List.pairwise_iff_getElem]
      intro i j hi hj hij
      exact rv_lt h j i l[j] l[i] hij (List.getElem?_eq_getElem hj) (List.getElem?_eq_getElem hi)
    · obtain ⟨i, hi⟩ := List.mem_iff_getElem?.1 hr; exact (rvalid_at h hi).2
  · rintro ⟨⟨h1, h2⟩, h3⟩
    apply List.all_eq_true.2
    intro i hi
    have hi : i < l.length := by simpa using hi
    obtain ⟨r, hr⟩ := getq hi
    obtain ⟨p, hp⟩ : ∃ q, l[i - 1]? = some q := getq (by omega)
    rw [rvAt_some hr hp]
    have hm := List.mem_of_getElem? hr
    simp only [Bool.and_eq_true, decide_eq_true_eq, Bool.or_eq_true, beq_iff_eq]
    refine ⟨⟨h1 r hm, h3 r hm⟩, ?_⟩
    by_cases e : i = 0
    · exact .inl e
    · right
      obtain ⟨hi', rfl⟩ := List.getElem?_eq_some_iff.1 hr
      obtain ⟨hp', rfl⟩ := List.getElem?_eq_some_iff.1 hp
      exact List.pairwise_iff_getElem.1 h2 (i - 1) i hp' hi' (by omega)
theorem fine_apart {l : List Run} : fine l = true ↔ l ≠ [] ∧ Apart l ∧ ∀ r ∈ l, -4096 ≤ r.a ∧ r.b ≤ 4096 := by
  constructor
  · intro h
    have hne : l ≠ [] := by rintro rfl; simp [fine] at h
    refine ⟨hne, (rvalid_iff.1 (fine_rv h)).1, fun r hr => ?_⟩
    obtain ⟨i, hi⟩ := List.mem_iff_getElem?.1 hr
    have := fine_at h hi
    omega
  · rintro ⟨hne, h1, h2⟩
    have hrv : rvalid l = true := rvalid_iff.2 ⟨h1, fun r hr => by
      have := h2 r hr; have := h1.1 r hr; simp [fitsB]; omega⟩
    have hlp := List.length_pos_iff.2 hne
    obtain ⟨f, hf⟩ : ∃ f, l[0]? = some f := getq hlp
    obtain ⟨z, hz⟩ : ∃ f, l[l.length - 1]? = some f := getq (by omega)
    rw [fine_iff hf hz, hrv]
    have a1 := h2 f (List.mem_of_getElem? hf)
    have a2 := h1.1 f (List.mem_of_getElem? hf)
    have a3 := h2 z (List.mem_of_getElem? hz)
    have a4 := h1.1 z (List.mem_of_getElem? hz)
    simp [okB]; omega

/-! The bounds of runs. -/
def bnd (l : List Run) (i : Nat) : Int := match l[i / 2]? with
  | some r => if i % 2 = 1 then r.b else r.a
  | none => 1048577
theorem bnd_even {l : List Run} {k : Nat} {r : Run} (h : l[k]? = some r) : bnd l (2 * k) = r.a := by
  have e : 2 * k / 2 = k := by omega
  have e2 : ¬ 2 * k % 2 = 1 := by omega
  simp only [bnd, e, h, if_neg e2]
theorem bnd_odd {l : List Run} {k : Nat} {r : Run} (h : l[k]? = some r) : bnd l (2 * k + 1) = r.b := by
  have e : (2 * k + 1) / 2 = k := by omega
  have e2 : (2 * k + 1) % 2 = 1 := by omega
  simp only [bnd, e, h, if_pos e2]
theorem bnd_over (l : List Run) : bnd l (2 * l.length) = 1048577 := by
  have e : 2 * l.length / 2 = l.length := by omega
  simp [bnd, e]
theorem bnd_cases {l : List Run} {i : Nat} (h : i < 2 * l.length) : ∃ k r, l[k]? = some r ∧ (i = 2 * k ∧ bnd l i = r.a ∨ i = 2 * k + 1 ∧ bnd l i = r.b) := by
  obtain ⟨r, hr⟩ : ∃ r, l[i / 2]? = some r := getq (by omega)
  refine ⟨i / 2, r, hr, ?_⟩
  by_cases e : i % 2 = 1
  · right
    have e1 : i = 2 * (i / 2) + 1 := by omega
    exact ⟨e1, (congrArg (bnd l) e1).trans (bnd_odd hr)⟩
  · left
    have e1 : i = 2 * (i / 2) := by omega
    exact ⟨e1, (congrArg (bnd l) e1).trans (bnd_even hr)⟩
theorem bnd_step {l : List Run} (h : rvalid l = true) {i : Nat} (hi : i < 2 * l.length) : bnd l i < bnd l (i + 1) := by
  obtain ⟨k, r, hr, ⟨e1, e2⟩ | ⟨e1, e2⟩⟩ := bnd_cases hi
  · rw [e2, e1, bnd_odd hr]; exact (rvalid_at h hr).1
  · by_cases hk : k + 1 < l.length
    · obtain ⟨s, hs⟩ := getq hk
      rw [e2, e1, show 2 * k + 1 + 1 = 2 * (k + 1) from by omega, bnd_even hs]
      exact rv_gap h hs hr
    · have := (List.getElem?_eq_some_iff.1 hr).1
      rw [e2, e1, show 2 * k + 1 + 1 = 2 * l.length from by omega, bnd_over]
      have := fitsB_bd (rvalid_at h hr).2
      omega
theorem bnd_asc {l : List Run} (h : rvalid l = true) : ∀ (n i : Nat), i + n ≤ 2 * l.length → bnd l i ≤ bnd l (i + n)
  | 0, i, _ => Int.le_refl _
  | n + 1, i, hi => by
    have h1 := bnd_asc h n i (by omega)
    have h2 := bnd_step h (i := i + n) (by omega)
    rw [show i + (n + 1) = i + n + 1 from by omega]
    omega
theorem bnd_fits {l : List Run} (h : rvalid l = true) {i : Nat} (hi : i < 2 * l.length) : -1048576 ≤ bnd l i ∧ bnd l i ≤ 1048576 := by
  obtain ⟨k, r, hr, ⟨e1, e2⟩ | ⟨e1, e2⟩⟩ := bnd_cases hi <;>
  · have := fitsB_bd (rvalid_at h hr).2
    omega
/-- A number is in the set exactly if the number of bounds up to it is odd. -/
theorem inR_bnd {l : List Run} (h : rvalid l = true) {p : Nat} {y : Int} (hp : p ≤ 2 * l.length) (h1 : ∀ i, i < p → bnd l i ≤ y) (h2 : p < 2 * l.length → y < bnd l p) : inR l y = (p % 2 == 1) := by
  apply Bool.eq_iff_iff.2
  rw [inR_iff]
  simp only [beq_iff_eq]
  constructor
  · rintro ⟨r, hr, h3, h4⟩
    obtain ⟨k, hk⟩ := List.mem_iff_getElem?.1 hr
    have hkl := (List.getElem?_eq_some_iff.1 hk).1
    apply Classical.byContradiction
    intro he
    have e : p = 2 * (p / 2) := by omega
    by_cases hlt : k < p / 2
    · have := h1 (2 * k + 1) (by omega)
      rw [bnd_odd hk] at this
      omega
    · have h5 := h2 (by omega)
      have h6 := bnd_asc h (2 * k - p) p (by omega)
      rw [show p + (2 * k - p) = 2 * k from by omega, bnd_even hk] at h6
      omega
  · intro he
    have e : p = 2 * (p / 2) + 1 := by omega
    obtain ⟨r, hr⟩ : ∃ r, l[p / 2]? = some r := getq (by omega)
    refine ⟨r, List.mem_of_getElem? hr, ?_, ?_⟩
    · have := h1 (2 * (p / 2)) (by omega)
      rwa [bnd_even hr] at this
    · have := h2 (by omega)
      rw [e, bnd_odd hr] at this
      exact this

/-! The sweep. -/
def swX (a b : List Run) (p q : Nat) : Int := min (bnd a p) (bnd b q)
def swP (a : List Run) (x : Int) (p : Nat) : Nat := if bnd a p = x then p + 1 else p
def swOut (now o : Bool) (out : List Run) (x : Int) : List Run :=
  if now && !o then out ++ [⟨x, 0⟩] else if !now && o then out.dropLast ++ [⟨(out.getLast?.getD ⟨0, 0⟩).a, x⟩] else out
def swF (f : Bool → Bool → Bool) (a b : List Run) : Nat → Nat → Nat → List Run → Bool → List Run
  | 0, _, _, out, _ => out
  | n + 1, p, q, out, o =>
    if p = 2 * a.length ∧ q = 2 * b.length then out else
      swF f a b n (swP a (swX a b p q) p) (swP b (swX a b p q) q)
        (swOut (f (swP a (swX a b p q) p % 2 == 1) (swP b (swX a b p q) q % 2 == 1)) o out (swX a b p q)) (f (swP a (swX a b p q) p % 2 == 1) (swP b (swX a b p q) q % 2 == 1))
def sweep (f : Bool → Bool → Bool) (a b : List Run) : List Run := if rvalid a && rvalid b then swF f a b (2 * a.length + 2 * b.length) 0 0 [] false else []

/-- Where the sweep stands: all bounds up to X are behind it. -/
structure SwAt (f : Bool → Bool → Bool) (a b : List Run) (p q : Nat) (out : List Run) (o : Bool) (X : Int) (C : List Run) (s : Int) : Prop where
  hp : p ≤ 2 * a.length
  hq : q ≤ 2 * b.length
  p1 : ∀ i, i < p → bnd a i ≤ X
  p2 : p < 2 * a.length → X < bnd a p
  q1 : ∀ i, i < q → bnd b i ≤ X
  q2 : q < 2 * b.length → X < bnd b q
  eout : out = if o then C ++ [⟨s, 0⟩] else C
  ap : Apart C
  le : ∀ r ∈ C, r.b ≤ X
  so : o = true → s ≤ X ∧ ∀ r ∈ C, r.b < s
  eo : o = f (p % 2 == 1) (q % 2 == 1)
  mem : ∀ y, y ≤ X → (f (inR a y) (inR b y) = true ↔ (inR C y = true ∨ (o = true ∧ s ≤ y)))

theorem swP_facts {a : List Run} (ha : rvalid a = true) {p : Nat} {X x : Int} (hp : p ≤ 2 * a.length) (p1 : ∀ i, i < p → bnd a i ≤ X) (hX : X < x) (hx : x ≤ bnd a p) (hb : x ≤ 1048576) :
    swP a x p ≤ 2 * a.length ∧ (∀ i, i < swP a x p → bnd a i ≤ x) ∧ (swP a x p < 2 * a.length → x < bnd a (swP a x p)) := by
  unfold swP
  split
  · rename_i e
    have hlt : p < 2 * a.length := by
      apply Classical.byContradiction
      intro h
      have h3 : bnd a p = 1048577 := by rw [show p = 2 * a.length from by omega]; exact bnd_over a
      omega
    refine ⟨hlt, fun i hi => ?_, fun h => ?_⟩
    · by_cases e2 : i = p
      · subst e2; omega
      · have := p1 i (by omega); omega
    · have := bnd_step ha hlt; omega
  · rename_i e
    refine ⟨hp, fun i hi => by have := p1 i hi; omega, fun h => by omega⟩

theorem inR_app (C : List Run) (r : Run) (y : Int) : inR (C ++ [r]) y = (inR C y || (decide (r.a ≤ y) && decide (y < r.b))) := by simp [inR]
theorem sw_step {f : Bool → Bool → Bool} {a b : List Run} (ha : rvalid a = true) (hb : rvalid b = true) {p q : Nat} {out : List Run} {o : Bool} {X : Int} {C : List Run} {s : Int} (h : SwAt f a b p q out o X C s) (hn : ¬ (p = 2 * a.length ∧ q = 2 * b.length)) :
    X < swX a b p q ∧ ∃ C' s', SwAt f a b (swP a (swX a b p q) p) (swP b (swX a b p q) q) (swOut (f (swP a (swX a b p q) p % 2 == 1) (swP b (swX a b p q) q % 2 == 1)) o out (swX a b p q)) (f (swP a (swX a b p q) p % 2 == 1) (swP b (swX a b p q) q % 2 == 1)) (swX a b p q) C' s' := by
  obtain ⟨hp, hq, p1, p2, q1, q2, hout, hap, hle, hso, ho, hmem⟩ := h
  have x1 : swX a b p q ≤ bnd a p := Int.min_le_left _ _
  have x2 : swX a b p q ≤ bnd b q := Int.min_le_right _ _
  have x3 : swX a b p q = bnd a p ∨ swX a b p q = bnd b q := by unfold swX; omega
  have hXb : swX a b p q ≤ 1048576 := by
    by_cases e : p < 2 * a.length
    · have := bnd_fits ha e; omega
    · have := bnd_fits hb (i := q) (by omega); omega
  have hX : X < swX a b p q := by
    rcases x3 with e | e
    · rw [e]
      refine p2 ?_
      apply Classical.byContradiction
      intro h
      have h3 : bnd a p = 1048577 := by rw [show p = 2 * a.length from by omega]; exact bnd_over a
      omega
    · rw [e]
      refine q2 ?_
      apply Classical.byContradiction
      intro h
      have h3 : bnd b q = 1048577 := by rw [show q = 2 * b.length from by omega]; exact bnd_over b
      omega
  obtain ⟨P1, P2, P3⟩ := swP_facts ha hp p1 hX x1 hXb
  obtain ⟨Q1, Q2, Q3⟩ := swP_facts hb hq q1 hX x2 hXb
  generalize swX a b p q = x at *
  generalize swP a x p = p' at *
  generalize swP b x q = q' at *
  have hbet : ∀ y, X ≤ y → y < x → f (inR a y) (inR b y) = o := fun y h1 h2 => by
    rw [inR_bnd ha hp (fun i hi => Int.le_trans (p1 i hi) h1) (fun _ => by omega), inR_bnd hb hq (fun i hi => Int.le_trans (q1 i hi) h1) (fun _ => by omega)]
    exact ho.symm
  have hat : f (inR a x) (inR b x) = f (p' % 2 == 1) (q' % 2 == 1) := by rw [inR_bnd ha P1 P2 P3, inR_bnd hb Q1 Q2 Q3]
  generalize hnow : f (p' % 2 == 1) (q' % 2 == 1) = now at *
  have hnoC : ∀ y, X ≤ y → inR C y = false := fun y h1 => by
    rw [Bool.eq_false_iff]
    intro hc
    obtain ⟨r, hr, h2, h3⟩ := inR_iff.1 hc
    have := hle r hr
    omega
  refine ⟨hX, ?_⟩
  have dich : ∀ y, y ≤ x → y ≤ X ∨ (X < y ∧ y < x) ∨ y = x := fun y hy => by omega
  cases hnw : now <;> cases hoo : o
  · -- neither
    refine ⟨C, s, P1, Q1, P2, P3, Q2, Q3, ?_, hap, fun r hr => by have := hle r hr; omega, fun h => (by cases h), by rw [hnow, hnw], fun y hy => ?_⟩
    · simp [swOut, hout, hoo]
    · rcases dich y hy with h | ⟨h1, h2⟩ | h
      · rw [hmem y h, hoo]
      · rw [hbet y (by omega) h2, hoo, hnoC y (by omega)]; simp
      · rw [h, hat, hnw, hnoC x (by omega)]; simp
  · -- the run ends
    have ⟨hs1, hs2⟩ := hso hoo
    refine ⟨C ++ [⟨s, x⟩], 0, P1, Q1, P2, P3, Q2, Q3, ?_, ⟨?_, ?_⟩, ?_, fun h => (by cases h), by rw [hnow, hnw], fun y hy => ?_⟩
    · simp [swOut, hout, hoo]
    · intro r hr
      rcases List.mem_append.1 hr with hr | hr
      · exact hap.1 r hr
      · simp at hr; subst hr; simp only; omega
    · rw [List.pairwise_append]
      refine ⟨hap.2, by simp, fun r hr t ht => ?_⟩
      simp at ht; subst ht; exact hs2 r hr
    · intro r hr
      rcases List.mem_append.1 hr with hr | hr
      · have := hle r hr; omega
      · simp at hr; subst hr; simp
    · rw [inR_app]
      rcases dich y hy with h | ⟨h1, h2⟩ | h
      · have : y < x := by omega
        rw [hmem y h, hoo]; simp [this]
      · rw [hbet y (by omega) h2, hoo, hnoC y (by omega)]; simp; omega
      · rw [h, hat, hnw, hnoC x (by omega)]; simp
  · -- a run begins
    refine ⟨C, x, P1, Q1, P2, P3, Q2, Q3, ?_, hap, fun r hr => by have := hle r hr; omega, fun _ => ⟨Int.le_refl _, fun r hr => by have := hle r hr; omega⟩, by rw [hnow, hnw], fun y hy => ?_⟩
    · simp [swOut, hout, hoo]
    · rcases dich y hy with h | ⟨h1, h2⟩ | h
      · rw [hmem y h, hoo]; simp; omega
      · rw [hbet y (by omega) h2, hoo, hnoC y (by omega)]; simp; omega
      · rw [h, hat, hnw]; simp
  · -- the run goes on
    have ⟨hs1, hs2⟩ := hso hoo
    refine ⟨C, s, P1, Q1, P2, P3, Q2, Q3, ?_, hap, fun r hr => by have := hle r hr; omega, fun _ => ⟨by omega, hs2⟩, by rw [hnow, hnw], fun y hy => ?_⟩
    · simp [swOut, hout, hoo]
    · rcases dich y hy with h | ⟨h1, h2⟩ | h
      · rw [hmem y h, hoo]
      · rw [hbet y (by omega) h2, hoo]; simp; omega
      · rw [h, hat, hnw]; simp; omega
theorem sw_all {f : Bool → Bool → Bool} (hf : f false false = false) {a b : List Run} (ha : rvalid a = true) (hb : rvalid b = true) : ∀ (n p q : Nat) (out : List Run) (o : Bool) (X : Int) (C : List Run) (s : Int), SwAt f a b p q out o X C s → 2 * a.length + 2 * b.length ≤ n + (p + q) →
    Apart (swF f a b n p q out o) ∧ ∀ y, inR (swF f a b n p q out o) y = f (inR a y) (inR b y) := by
  have fin : ∀ (p q : Nat) (out : List Run) (o : Bool) (X : Int) (C : List Run) (s : Int), SwAt f a b p q out o X C s → p = 2 * a.length ∧ q = 2 * b.length → Apart out ∧ ∀ y, inR out y = f (inR a y) (inR b y) := by
    rintro p q out o X C s ⟨hp, hq, p1, p2, q1, q2, hout, hap, hle, hso, ho, hmem⟩ ⟨e1, e2⟩
    have ho0 : o = false := by
      rw [ho, e1, e2]
      have h1 : (2 * a.length % 2 == 1) = false := by simp
      have h2 : (2 * b.length % 2 == 1) = false := by simp
      rw [h1, h2, hf]
    subst ho0
    simp only [Bool.false_eq_true, if_false] at hout
    subst hout
    refine ⟨hap, fun y => ?_⟩
    by_cases hy : y ≤ X
    · have := hmem y hy
      simp only [Bool.false_eq_true, false_and, or_false] at this
      exact (Bool.eq_iff_iff.2 this).symm
    · have h1 := inR_bnd ha hp (fun i hi => Int.le_trans (p1 i hi) (by omega : X ≤ y)) (fun h => by omega)
      have h2 := inR_bnd hb hq (fun i hi => Int.le_trans (q1 i hi) (by omega : X ≤ y)) (fun h => by omega)
      rw [h1, h2, ← ho, Bool.eq_false_iff]
      intro hc
      obtain ⟨r, hr, h3, h4⟩ := inR_iff.1 hc
      have := hle r hr
      omega
  intro n
  induction n with
  | zero =>
    intro p q out o X C s h hn
    exact fin p q out o X C s h ⟨by have := h.hp; have := h.hq; omega, by have := h.hp; have := h.hq; omega⟩
  | succ n ih =>
    intro p q out o X C s h hn
    unfold swF
    split
    · rename_i e; exact fin p q out o X C s h e
    · rename_i e
      obtain ⟨hX, C', s', h'⟩ := sw_step ha hb h e
      refine ih _ _ _ _ _ C' s' h' ?_
      have : p + q + 1 ≤ swP a (swX a b p q) p + swP b (swX a b p q) q := by
        unfold swP swX
        split <;> split <;> omega
      omega
theorem sweep_facts {f : Bool → Bool → Bool} (hf : f false false = false) {a b : List Run} (ha : rvalid a = true) (hb : rvalid b = true) : Apart (sweep f a b) ∧ ∀ y, inR (sweep f a b) y = f (inR a y) (inR b y) := by
  have e : sweep f a b = swF f a b (2 * a.length + 2 * b.length) 0 0 [] false := by simp [sweep, ha, hb]
  rw [e]
  refine sw_all hf ha hb _ 0 0 [] false (-1048577) [] 0 ⟨Nat.zero_le _, Nat.zero_le _, fun i hi => by omega, fun h => ?_, fun i hi => by omega, fun h => ?_, rfl, ⟨by simp, List.Pairwise.nil⟩, by simp, fun h => (by cases h), by simp [hf], fun y hy => ?_⟩ (by omega)
  · have := bnd_fits ha h; omega
  · have := bnd_fits hb h; omega
  · have h1 := inR_bnd ha (p := 0) (y := y) (Nat.zero_le _) (fun i hi => by omega) (fun h => by have := bnd_fits ha h; omega)
    have h2 := inR_bnd hb (p := 0) (y := y) (Nat.zero_le _) (fun i hi => by omega) (fun h => by have := bnd_fits hb h; omega)
    rw [h1, h2]
    simp [hf, inR]
theorem apart_bounds {l : List Run} (h : Apart l) {lo hi : Int} (hm : ∀ y, inR l y = true → lo ≤ y ∧ y < hi) : ∀ r ∈ l, lo ≤ r.a ∧ r.b ≤ hi := fun r hr => by
  have h1 := h.1 r hr
  have h2 := hm r.a (inR_iff.2 ⟨r, hr, Int.le_refl _, h1⟩)
  have h3 := hm (r.b - 1) (inR_iff.2 ⟨r, hr, by omega, by omega⟩)
  omega
theorem inR_fits {l : List Run} (h : rvalid l = true) {y : Int} (hy : inR l y = true) : -1048576 ≤ y ∧ y < 1048576 := by
  obtain ⟨r, hr, h1, h2⟩ := inR_iff.1 hy
  obtain ⟨i, hi⟩ := List.mem_iff_getElem?.1 hr
  have := fitsB_bd (rvalid_at h hi).2
  omega
theorem sweep_valid {f : Bool → Bool → Bool} (hf : f false false = false) {a b : List Run} (ha : rvalid a = true) (hb : rvalid b = true) : rvalid (sweep f a b) = true := by
  obtain ⟨h1, h2⟩ := sweep_facts hf ha hb
  refine rvalid_iff.2 ⟨h1, fun r hr => ?_⟩
  have h0 := h1.1 r hr
  have := apart_bounds h1 (lo := -1048576) (hi := 1048576) (fun y hy => by
    rw [h2] at hy
    cases e1 : inR a y with
    | true => exact inR_fits ha e1
    | false =>
      cases e2 : inR b y with
      | true => exact inR_fits hb e2
      | false => rw [e1, e2, hf] at hy; cases hy) r hr
  simp [fitsB]; omega
end Go.Proofs.YtagakfaiimaifaaGreat

set_option linter.unusedVariables false
set_option linter.unusedSimpArgs false
set_option maxRecDepth 100000
namespace Go.Proofs.YtagakfaiimaifaaGreat
open Go.Abs

/-! Sets of numbers: runs that are apart are one if they have the same numbers. -/
theorem apart_uniq : ∀ {l l' : List Run}, Apart l → Apart l' → (∀ y, inR l y = inR l' y) → l = l'
  | [], [], _, _, _ => rfl
  | [], s :: l', _, h', h => by
    have := h s.a
    have h1 : inR (s :: l') s.a = true := inR_iff.2 ⟨s, by simp, Int.le_refl _, h'.1 s (by simp)⟩
    rw [h1] at this; simp [inR] at this
  | r :: l, [], h', _, h => by
    have := h r.a
    have h1 : inR (r :: l) r.a = true := inR_iff.2 ⟨r, by simp, Int.le_refl _, h'.1 r (by simp)⟩
    rw [h1] at this; simp [inR] at this
  | r :: l, s :: l', h1, h2, h => by
    have p1 := List.pairwise_cons.1 h1.2
    have p2 := List.pairwise_cons.1 h2.2
    have r0 := h1.1 r (by simp)
    have s0 := h2.1 s (by simp)
    have a1 : s.a ≤ r.a := by
      have : inR (s :: l') r.a = true := by rw [← h]; exact inR_iff.2 ⟨r, by simp, Int.le_refl _, r0⟩
      obtain ⟨t, ht, h3, h4⟩ := inR_iff.1 this
      rcases List.mem_cons.1 ht with rfl | ht
      · exact h3
      · have := p2.1 t ht; omega
    have a2 : r.a ≤ s.a := by
      have : inR (r :: l) s.a = true := by rw [h]; exact inR_iff.2 ⟨s, by simp, Int.le_refl _, s0⟩
      obtain ⟨t, ht, h3, h4⟩ := inR_iff.1 this
      rcases List.mem_cons.1 ht with rfl | ht
      · exact h3
      · have := p1.1 t ht; omega
    have b1 : ¬ r.b < s.b := by
      intro hlt
      have : inR (r :: l) r.b = true := by rw [h]; exact inR_iff.2 ⟨s, by simp, by omega, hlt⟩
      obtain ⟨t, ht, h3, h4⟩ := inR_iff.1 this
      rcases List.mem_cons.1 ht with rfl | ht
      · omega
      · have := p1.1 t ht; omega
    have b2 : ¬ s.b < r.b := by
      intro hlt
      have : inR (s :: l') s.b = true := by rw [← h]; exact inR_iff.2 ⟨r, by simp, by omega, hlt⟩
      obtain ⟨t, ht, h3, h4⟩ := inR_iff.1 this
      rcases List.mem_cons.1 ht with rfl | ht
      · omega
      · have := p2.1 t ht; omega
    have e : r = s := by cases r; cases s; simp at *; omega
    subst e
    have ih : l = l' := by
      refine apart_uniq ⟨fun t ht => h1.1 t (by simp [ht]), p1.2⟩ ⟨fun t ht => h2.1 t (by simp [ht]), p2.2⟩ fun y => ?_
      have hy := h y
      simp only [inR, List.any_cons] at hy
      by_cases hin : r.a ≤ y ∧ y < r.b
      · have n1 : inR l y = false := by
          rw [Bool.eq_false_iff]; intro hc
          obtain ⟨t, ht, h3, h4⟩ := inR_iff.1 hc
          have := p1.1 t ht; omega
        have n2 : inR l' y = false := by
          rw [Bool.eq_false_iff]; intro hc
          obtain ⟨t, ht, h3, h4⟩ := inR_iff.1 hc
          have := p2.1 t ht; omega
        rw [n1, n2]
      · have e : (decide (r.a ≤ y) && decide (y < r.b)) = false := by
          rw [Bool.eq_false_iff]; intro hc; simp at hc; exact hin hc
        rw [e] at hy
        simpa [inR] using hy
    rw [ih]

/-! Rows by their number. -/
def rowOf (R : List Row) (y : Int) : List Run := match R.find? (fun w => decide (w.y = y)) with
  | some w => w.runs
  | none => []
theorem rowOf_mem {R : List Row} (h : validR R = true) {w : Row} (hw : w ∈ R) : rowOf R w.y = w.runs := by
  unfold rowOf
  cases hf : R.find? (fun v => decide (v.y = w.y)) with
  | none => have := List.find?_eq_none.1 hf w hw; simp at this
  | some v =>
    have h1 := List.mem_of_find?_eq_some hf
    have h2 := List.find?_some hf
    have := rows_eq h h1 hw (by simpa using h2)
    rw [this]
theorem rowOf_none {R : List Row} {y : Int} (h : ∀ w ∈ R, w.y ≠ y) : rowOf R y = [] := by
  unfold rowOf
  cases hf : R.find? (fun v => decide (v.y = y)) with
  | none => rfl
  | some v => exact absurd (by simpa using List.find?_some hf) (h v (List.mem_of_find?_eq_some hf))
theorem rowOf_cases {R : List Row} (h : validR R = true) (y : Int) : (∃ w ∈ R, w.y = y ∧ rowOf R y = w.runs) ∨ ((∀ w ∈ R, w.y ≠ y) ∧ rowOf R y = []) := by
  by_cases e : ∃ w ∈ R, w.y = y
  · obtain ⟨w, hw, rfl⟩ := e
    exact .inl ⟨w, hw, rfl, rowOf_mem h hw⟩
  · have : ∀ w ∈ R, w.y ≠ y := fun w hw hy => e ⟨w, hw, hy⟩
    exact .inr ⟨this, rowOf_none this⟩
theorem rowOf_rv {R : List Row} (h : validR R = true) (y : Int) : rvalid (rowOf R y) = true := by
  rcases rowOf_cases h y with ⟨w, hw, _, e⟩ | ⟨_, e⟩
  · rw [e]; exact fine_rv (row_fine h hw).2
  · rw [e]; rfl
theorem rowOf_in {R : List Row} (h : validR R = true) (c : Cell) : c ∈ regCells R ↔ inR (rowOf R c.y) c.x = true := by
  rw [mem_regCells, inR_iff]
  constructor
  · rintro ⟨w, hw, hy, r, hr, h1, h2⟩
    rw [hy, rowOf_mem h hw]
    exact ⟨r, hr, h1, h2⟩
  · rintro ⟨r, hr, h1, h2⟩
    rcases rowOf_cases h c.y with ⟨w, hw, hy, e⟩ | ⟨_, e⟩
    · rw [e] at hr; exact ⟨w, hw, hy.symm, r, hr, h1, h2⟩
    · rw [e] at hr; cases hr
theorem rowOf_range {R : List Row} (h : validR R = true) {y x : Int} (hx : inR (rowOf R y) x = true) : -4096 ≤ y ∧ y < 4096 ∧ -4096 ≤ x ∧ x < 4096 := by
  have := cells_on h ((rowOf_in h ⟨x, y⟩).2 hx)
  simp [onG] at this; omega
theorem validR_pw {R : List Row} : validR R = true ↔ (∀ w ∈ R, (-4096 ≤ w.y ∧ w.y < 4096) ∧ fine w.runs = true) ∧ R.Pairwise fun a b => a.y < b.y := by
  constructor
  · intro h; exact ⟨fun w hw => row_fine h hw, rows_pw h⟩
  · rintro ⟨h1, h2⟩
    apply List.all_eq_true.2
    intro i hi
    have hi : i < R.length := by simpa using hi
    obtain ⟨r, hr⟩ := getq hi
    obtain ⟨p, hp⟩ : ∃ q, R[i - 1]? = some q := getq (by omega)
    obtain ⟨h3, h4⟩ := h1 r (List.mem_of_getElem? hr)
    rw [rowAt_some hr hp, h4]
    simp only [Bool.and_true, Bool.and_eq_true, Bool.or_eq_true, beq_iff_eq, decide_eq_true_eq]
    refine ⟨by simp [okB]; omega, ?_⟩
    by_cases e : i = 0
    · exact .inl e
    · right
      obtain ⟨hi', rfl⟩ := List.getElem?_eq_some_iff.1 hr
      obtain ⟨hp', rfl⟩ := List.getElem?_eq_some_iff.1 hp
      exact List.pairwise_iff_getElem.1 h2 (i - 1) i hp' hi' (by omega)

/-! Operations on regions, row by row. -/
def opRow (f : Bool → Bool → Bool) (a b : List Row) (y : Int) : List Row := if sweep f (rowOf a y) (rowOf b y) = [] then [] else [⟨y, sweep f (rowOf a y) (rowOf b y)⟩]
def opOn (f : Bool → Bool → Bool) (a b : List Row) (ys : List Int) : List Row := ys.flatMap (opRow f a b)
theorem opRow_mem {f : Bool → Bool → Bool} {a b : List Row} {y : Int} {w : Row} (h : w ∈ opRow f a b y) : w.y = y ∧ w.runs = sweep f (rowOf a y) (rowOf b y) ∧ w.runs ≠ [] := by
  unfold opRow at h
  split at h
  · cases h
  · rename_i e; simp at h; subst h; exact ⟨rfl, rfl, e⟩
theorem opOn_valid {f : Bool → Bool → Bool} (hf : f false false = false) {a b : List Row} (ha : validR a = true) (hb : validR b = true) {ys : List Int} (hp : ys.Pairwise (· < ·)) : validR (opOn f a b ys) = true := by
  refine validR_pw.2 ⟨fun w hw => ?_, ?_⟩
  · obtain ⟨y, hy, hw⟩ := List.mem_flatMap.1 hw
    obtain ⟨e1, e2, e3⟩ := opRow_mem hw
    obtain ⟨h1, h2⟩ := sweep_facts hf (rowOf_rv ha y) (rowOf_rv hb y)
    rw [← e2] at h1 h2
    have key : ∀ x, inR w.runs x = true → -4096 ≤ y ∧ y < 4096 ∧ -4096 ≤ x ∧ x < 4096 := fun x hx => by
      rw [h2] at hx
      cases e : inR (rowOf a y) x with
      | true => exact rowOf_range ha e
      | false =>
        cases e' : inR (rowOf b y) x with
        | true => exact rowOf_range hb e'
        | false => rw [e, e', hf] at hx; cases hx
    have hbd := apart_bounds h1 (lo := -4096) (hi := 4096) (fun x hx => ⟨(key x hx).2.2.1, (key x hx).2.2.2⟩)
    refine ⟨?_, fine_apart.2 ⟨e3, h1, hbd⟩⟩
    obtain ⟨r, hr⟩ := List.exists_mem_of_ne_nil _ e3
    have := key r.a (inR_iff.2 ⟨r, hr, Int.le_refl _, h1.1 r hr⟩)
    rw [e1]; omega
  · unfold opOn
    rw [List.pairwise_flatMap]
    refine ⟨fun y _ => by unfold opRow; split <;> simp, hp.imp fun {y z} hyz u hu v hv => ?_⟩
    rw [(opRow_mem hu).1, (opRow_mem hv).1]; exact hyz
theorem opOn_cells {f : Bool → Bool → Bool} (hf : f false false = false) {a b : List Row} (ha : validR a = true) (hb : validR b = true) {ys : List Int} (hp : ys.Pairwise (· < ·)) (hys : ∀ w, w ∈ a ∨ w ∈ b → w.y ∈ ys) (c : Cell) :
    decide (c ∈ regCells (opOn f a b ys)) = f (decide (c ∈ regCells a)) (decide (c ∈ regCells b)) := by
  have hv := opOn_valid hf ha hb hp
  have e1 : decide (c ∈ regCells a) = inR (rowOf a c.y) c.x := by rw [Bool.eq_iff_iff]; simp [rowOf_in ha]
  have e2 : decide (c ∈ regCells b) = inR (rowOf b c.y) c.x := by rw [Bool.eq_iff_iff]; simp [rowOf_in hb]
  rw [e1, e2, ← (sweep_facts hf (rowOf_rv ha c.y) (rowOf_rv hb c.y)).2]
  rw [Bool.eq_iff_iff, decide_eq_true_eq, mem_regCells, inR_iff]
  constructor
  · rintro ⟨w, hw, hy, r, hr, h1, h2⟩
    obtain ⟨y, hym, hw⟩ := List.mem_flatMap.1 hw
    obtain ⟨q1, q2, q3⟩ := opRow_mem hw
    rw [hy, q1]
    rw [q2] at hr
    exact ⟨r, hr, h1, h2⟩
  · rintro ⟨r, hr, h1, h2⟩
    have hne : sweep f (rowOf a c.y) (rowOf b c.y) ≠ [] := by rintro e; rw [e] at hr; cases hr
    have hym : c.y ∈ ys := by
      have hin : f (inR (rowOf a c.y) c.x) (inR (rowOf b c.y) c.x) = true := by
        rw [← (sweep_facts hf (rowOf_rv ha c.y) (rowOf_rv hb c.y)).2]; exact inR_iff.2 ⟨r, hr, h1, h2⟩
      rcases rowOf_cases ha c.y with ⟨w, hw, hy, _⟩ | ⟨_, e⟩
      · rw [← hy]; exact hys w (.inl hw)
      · rcases rowOf_cases hb c.y with ⟨w, hw, hy, _⟩ | ⟨_, e'⟩
        · rw [← hy]; exact hys w (.inr hw)
        · rw [e, e'] at hin; simp [inR, hf] at hin
    refine ⟨⟨c.y, sweep f (rowOf a c.y) (rowOf b c.y)⟩, List.mem_flatMap.2 ⟨c.y, hym, ?_⟩, rfl, r, hr, h1, h2⟩
    unfold opRow
    rw [if_neg hne]; simp
theorem opOn_uniq {f : Bool → Bool → Bool} (hf : f false false = false) {a b : List Row} (ha : validR a = true) (hb : validR b = true) {ys zs : List Int} (hp : ys.Pairwise (· < ·)) (hq : zs.Pairwise (· < ·)) (hys : ∀ w, w ∈ a ∨ w ∈ b → w.y ∈ ys) (hzs : ∀ w, w ∈ a ∨ w ∈ b → w.y ∈ zs) : opOn f a b ys = opOn f a b zs := by
  refine region_uniq (opOn_valid hf ha hb hp) (opOn_valid hf ha hb hq) fun c => ?_
  have h1 := opOn_cells hf ha hb hp hys c
  have h2 := opOn_cells hf ha hb hq hzs c
  rw [← h2] at h1
  exact decide_eq_decide.1 h1
/-- All rows' numbers, in their order. -/
def allY (a b : List Row) : List Int := (a.map Row.y ++ b.map Row.y).mergeSort (fun x y => decide (x ≤ y))
def dedup : List Int → List Int
  | [] => []
  | [x] => [x]
  | x :: y :: l => if x = y then dedup (y :: l) else x :: dedup (y :: l)
theorem dedup_mem : ∀ (l : List Int) (y : Int), y ∈ dedup l ↔ y ∈ l
  | [], _ => by simp [dedup]
  | [x], _ => by simp [dedup]
  | x :: z :: l, y => by
    simp only [dedup]
    split
    · rename_i e; subst e; rw [dedup_mem (x :: l) y]; simp
    · rw [List.mem_cons, dedup_mem (z :: l) y]; simp
theorem dedup_pw : ∀ (l : List Int), l.Pairwise (· ≤ ·) → (dedup l).Pairwise (· < ·)
  | [], _ => by simp [dedup]
  | [x], _ => by simp [dedup]
  | x :: z :: l, h => by
    have h1 := List.pairwise_cons.1 h
    simp only [dedup]
    split
    · exact dedup_pw (z :: l) h1.2
    · rename_i e
      refine List.pairwise_cons.2 ⟨fun y hy => ?_, dedup_pw (z :: l) h1.2⟩
      rw [dedup_mem] at hy
      have h2 := h1.1 z (by simp)
      rcases List.mem_cons.1 hy with rfl | hy
      · omega
      · have := (List.pairwise_cons.1 h1.2).1 y hy; omega
theorem allY_perm (a b : List Row) : (allY a b).Perm (a.map Row.y ++ b.map Row.y) := List.mergeSort_perm _ _
theorem allY_le (a b : List Row) : (allY a b).Pairwise (· ≤ ·) := by
  have := List.pairwise_mergeSort (le := fun x y : Int => decide (x ≤ y)) (fun a b c h1 h2 => by simp at *; omega) (fun a b => by simp; omega) (a.map Row.y ++ b.map Row.y)
  exact this.imp fun h => by simpa using h
theorem allY_mem {a b : List Row} (w : Row) (h : w ∈ a ∨ w ∈ b) : w.y ∈ dedup (allY a b) := by
  rw [dedup_mem, (allY_perm a b).mem_iff, List.mem_append]
  rcases h with h | h
  · exact .inl (List.mem_map_of_mem h)
  · exact .inr (List.mem_map_of_mem h)
/-- The result of an operation. -/
def opR (f : Bool → Bool → Bool) (a b : List Row) : List Row := if validR a && validR b then opOn f a b (dedup (allY a b)) else []
theorem opR_facts {f : Bool → Bool → Bool} (hf : f false false = false) {a b : List Row} (ha : validR a = true) (hb : validR b = true) : validR (opR f a b) = true ∧ ∀ c, decide (c ∈ regCells (opR f a b)) = f (decide (c ∈ regCells a)) (decide (c ∈ regCells b)) := by
  have e : opR f a b = opOn f a b (dedup (allY a b)) := by simp [opR, ha, hb]
  rw [e]
  exact ⟨opOn_valid hf ha hb (dedup_pw _ (allY_le a b)), opOn_cells hf ha hb (dedup_pw _ (allY_le a b)) allY_mem⟩
theorem opR_on {f : Bool → Bool → Bool} (hf : f false false = false) {a b : List Row} (ha : validR a = true) (hb : validR b = true) {ys : List Int} (hp : ys.Pairwise (· < ·)) (hys : ∀ w, w ∈ a ∨ w ∈ b → w.y ∈ ys) : opOn f a b ys = opR f a b := by
  have e : opR f a b = opOn f a b (dedup (allY a b)) := by simp [opR, ha, hb]
  rw [e]
  exact opOn_uniq hf ha hb hp (dedup_pw _ (allY_le a b)) hys allY_mem
theorem apart_len : ∀ {l : List Run} {lo hi : Int}, Apart l → (∀ r ∈ l, lo ≤ r.a ∧ r.b ≤ hi) → l.length ≤ (hi - lo).toNat
  | [], _, _, _, _ => by simp
  | r :: l, lo, hi, h, hb => by
    have h1 := h.1 r (by simp)
    have h2 := List.pairwise_cons.1 h.2
    have h3 := hb r (by simp)
    have ih := apart_len (l := l) (lo := r.b) (hi := hi) ⟨fun q hq => h.1 q (by simp [hq]), h2.2⟩ (fun q hq => ⟨by have := h2.1 q hq; omega, (hb q (by simp [hq])).2⟩)
    simp only [List.length_cons]
    omega

theorem valid_runs {R : List Row} (hv : validR R = true) {w : Row} (hw : w ∈ R) : w.runs.length ≤ 8192 := by
  obtain ⟨_, h1, h2⟩ := fine_apart.1 (row_fine hv hw).2
  have := apart_len h1 (lo := -4096) (hi := 4096) h2
  omega

theorem rows_len : ∀ {R : List Row} {lo hi : Int}, (R.Pairwise fun a b => a.y < b.y) → (∀ w ∈ R, lo ≤ w.y ∧ w.y < hi) → R.length ≤ (hi - lo).toNat
  | [], _, _, _, _ => by simp
  | w :: R, lo, hi, h, hb => by
    have h2 := List.pairwise_cons.1 h
    have h3 := hb w (by simp)
    have ih := rows_len (R := R) (lo := w.y + 1) (hi := hi) h2.2 (fun v hv => ⟨by have := h2.1 v hv; omega, (hb v (by simp [hv])).2⟩)
    simp only [List.length_cons]
    omega
/-- A valid region is small. -/
theorem small_valid {R : List Row} (hv : validR R = true) : smallR R := by
  obtain ⟨h1, h2⟩ := validR_pw.1 hv
  have := rows_len h2 (lo := -4096) (hi := 4096) fun w hw => (h1 w hw).1
  exact ⟨by omega, fun w hw => by have := valid_runs hv hw; omega⟩
end Go.Proofs.YtagakfaiimaifaaGreat

set_option linter.unusedVariables false
set_option linter.unusedSimpArgs false
set_option maxRecDepth 100000
namespace Go.Proofs.YtagakfaiimaifaaGreat
open Go.Abs

/-! The sweep over runs. -/
abbrev bdRow (l : List Run) (p : Nat) : List D := [encRuns l, .int .i64 p]
theorem over_ok (l : List Run) (p : Nat) (hl : l.length ≤ 1000000) (hp : p ≤ 2 * l.length) : PX Tryz.prog 130 [.ptr 0 0 0] [(0, ⟨166, 2, [(bdRow l p).map .d]⟩)] [(0, 0)] [(0, ⟨166, 2, [(bdRow l p).map .d]⟩)] (.d (.bool (decide (p = 2 * l.length)))) := by
  have e1 := wrap_i64 (n := 2 * (l.length : Int)) (by omega) (by omega)
  have e2 : ((p : Int) == 2 * (l.length : Int)) = decide (p = 2 * l.length) := by
    rw [Bool.eq_iff_iff]; simp; omega
  refine px_of_awp cx (fn := Tryz.f130) (c := _) 1 Tryz.func130 rfl rfl (Nat.le_of_ble_eq_true rfl) rfl rfl fun Ls => ?_
  rw [Tryz.ntmps130]; refine Nav.imp ?_
  refine awp_region cx [] fun K hK => ?_
  simp [push_cast]
  repeat (refine And.intro (by clear hK; intros; first | omega | (simp_all; done) | (simp_all <;> omega)) ?_)
  refine hK _ ?_; clear hK K; refine Nav.imp ?_
  refine awp_region_draw cx mixed [] fun K hK => ?_
  simp [push_cast, e1, e2]
  repeat (refine And.intro (by clear hK; intros; first | omega | (simp_all; done) | (simp_all <;> omega)) ?_)
  refine hK _ _ (by kernel_rfl) ?_; clear hK K; refine Nav.imp ?_
  first | refine rx_r [(0, 0)] ?_ | refine rx_n [(0, 0)] ?_
  simp [push_cast]
  try decide
theorem inside_ok (l : List Run) (p : Nat) (hl : l.length ≤ 1000000) (hp : p ≤ 2 * l.length) : PX Tryz.prog 133 [.ptr 0 0 0] [(0, ⟨166, 2, [(bdRow l p).map .d]⟩)] [(0, 0)] [(0, ⟨166, 2, [(bdRow l p).map .d]⟩)] (.d (.bool (p % 2 == 1))) := by
  have e1 : Int.tmod (p : Int) 2 = (p : Int) % 2 := by rw [Int.tmod_eq_emod_of_nonneg (by omega)]
  have e2 := wrap_i64 (n := (p : Int) % 2) (by omega) (by omega)
  have e3 : ((p : Int) % 2 == 1) = (p % 2 == 1) := by rw [Bool.eq_iff_iff]; simp; omega
  refine px_of_awp cx (fn := Tryz.f133) (c := _) 1 Tryz.func133 rfl rfl (Nat.le_of_ble_eq_true rfl) rfl rfl fun Ls => ?_
  rw [Tryz.ntmps133]; refine Nav.imp ?_
  refine awp_region cx [] fun K hK => ?_
  simp [push_cast]
  repeat (refine And.intro (by clear hK; intros; first | omega | (simp_all; done) | (simp_all <;> omega)) ?_)
  refine hK _ ?_; clear hK K; refine Nav.imp ?_
  refine awp_region cx [] fun K hK => ?_
  simp [push_cast, e1, e2, e3]
  repeat (refine And.intro (by clear hK; intros; first | omega | (simp_all; done) | (simp_all <;> omega)) ?_)
  refine hK _ ?_; clear hK K; refine Nav.imp ?_
  first | refine rx_r [(0, 0)] ?_ | refine rx_n [(0, 0)] ?_
  simp [push_cast, e3]
  try decide
theorem next_ok (l : List Run) (p : Nat) (hl : l.length ≤ 1000000) (hp : p ≤ 2 * l.length) : PX Tryz.prog 131 [.ptr 0 0 0] [(0, ⟨166, 2, [(bdRow l p).map .d]⟩)] [(0, 0)] [(0, ⟨166, 2, [(bdRow l p).map .d]⟩)] (.d (.int .i64 (bnd l p))) := by
  have c1 := over_ok l p hl hp
  have c2 := inside_ok l p hl hp
  by_cases ho : p = 2 * l.length
  · have hb : bnd l p = 1048577 := by rw [ho, bnd_over]
    rw [decide_eq_true ho] at c1
    rw [hb]
    refine px_of_awp cx (fn := Tryz.f131) (c := _) 1 Tryz.func131 rfl rfl (Nat.le_of_ble_eq_true rfl) rfl rfl fun Ls => ?_
    rw [Tryz.ntmps131]; refine Nav.imp ?_
    refine awp_region cx [] fun K hK => ?_
    simp [push_cast]
    repeat (refine And.intro (by clear hK; intros; first | omega | (simp_all; done) | (simp_all <;> omega)) ?_)
    refine hK _ ?_; clear hK K; refine Nav.imp ?_
    refine awp_region cx [(1, .x ⟨[(0, 0)], [.ptr 0 0 0], [(0, ⟨166, 2, [(bdRow l p).map .d]⟩)], [(0, 0)], none, [(0, ⟨166, 2, [(bdRow l p).map .d]⟩)], .d (.bool true)⟩)] fun K hK => ?_
    simp [push_cast, c1]
    repeat (refine And.intro (by clear hK; intros; first | omega | (simp_all; done) | (simp_all <;> omega)) ?_)
    refine hK _ ?_; clear hK K; refine Nav.imp ?_
    refine awp_cond (b := true) (by simp [push_cast]) (fun hb => ?_) (fun hb => ?_) <;> (refine Nav.imp ?_)
    · refine awp_region cx [] fun K hK => ?_
      simp [push_cast]
      repeat (refine And.intro (by clear hK; intros; first | omega | (simp_all; done) | (simp_all <;> omega)) ?_)
      refine hK _ ?_; clear hK K; refine Nav.imp ?_
      first | refine rx_r [(0, 0)] ?_ | refine rx_n [(0, 0)] ?_
      simp [push_cast]
      try decide
    · simp at hb
  · rw [decide_eq_false ho] at c1
    obtain ⟨r, hr⟩ : ∃ r, l[p / 2]? = some r := getq (by omega)
    have hb : bnd l p = if p % 2 = 1 then r.b else r.a := by simp only [bnd, hr]
    have e1 : Int.tdiv (p : Int) 2 = (p : Int) / 2 := by rw [Int.tdiv_eq_ediv_of_nonneg (by omega)]
    have e2 := wrap_i64 (n := (p : Int) / 2) (by omega) (by omega)
    have e3 : ((p : Int) / 2).toNat = p / 2 := by omega
    have e4 : (0 : Int) ≤ (p : Int) / 2 := by omega
    obtain ⟨ra, rb⟩ := r
    simp only at hb
    rw [hb]
    clear hb
    by_cases hi : p % 2 = 1
    · have hi' : (p % 2 == 1) = true := by simpa using hi
      rw [hi'] at c2
      rw [if_pos hi]
      refine px_of_awp cx (fn := Tryz.f131) (c := _) 1 Tryz.func131 rfl rfl (Nat.le_of_ble_eq_true rfl) rfl rfl fun Ls => ?_
      rw [Tryz.ntmps131]; refine Nav.imp ?_
      refine awp_region cx [] fun K hK => ?_
      simp [push_cast]
      repeat (refine And.intro (by clear hK; intros; first | omega | (simp_all; done) | (simp_all <;> omega)) ?_)
      refine hK _ ?_; clear hK K; refine Nav.imp ?_
      refine awp_region cx [(1, .x ⟨[(0, 0)], [.ptr 0 0 0], [(0, ⟨166, 2, [(bdRow l p).map .d]⟩)], [(0, 0)], none, [(0, ⟨166, 2, [(bdRow l p).map .d]⟩)], .d (.bool false)⟩)] fun K hK => ?_
      simp [push_cast, c1]
      repeat (refine And.intro (by clear hK; intros; first | omega | (simp_all; done) | (simp_all <;> omega)) ?_)
      refine hK _ ?_; clear hK K; refine Nav.imp ?_
      refine awp_cond (b := false) (by simp [push_cast]) (fun hb => ?_) (fun hb => ?_) <;> (refine Nav.imp ?_)
      · simp at hb
      · refine awp_region cx [(1, .x ⟨[(0, 0)], [.ptr 0 0 0], [(0, ⟨166, 2, [(bdRow l p).map .d]⟩)], [(0, 0)], none, [(0, ⟨166, 2, [(bdRow l p).map .d]⟩)], .d (.bool true)⟩)] fun K hK => ?_
        simp [push_cast, c2]
        repeat (refine And.intro (by clear hK; intros; first | omega | (simp_all; done) | (simp_all <;> omega)) ?_)
        refine hK _ ?_; clear hK K; refine Nav.imp ?_
        refine awp_cond (b := true) (by simp [push_cast]) (fun hb => ?_) (fun hb => ?_) <;> (refine Nav.imp ?_)
        · refine awp_region_draw cx mixed [] fun K hK => ?_
          simp [push_cast, hr, e1, e2, e3, e4, Run.row]
          repeat (refine And.intro (by clear hK; intros; first | omega | (simp_all; done) | (simp_all <;> omega)) ?_)
          refine hK _ _ (by kernel_rfl) ?_; clear hK K; refine Nav.imp ?_
          first | refine rx_r [(0, 0)] ?_ | refine rx_n [(0, 0)] ?_
          simp [push_cast]
          try decide
        · simp at hb
    · have hi' : (p % 2 == 1) = false := by simpa using hi
      rw [hi'] at c2
      rw [if_neg hi]
      refine px_of_awp cx (fn := Tryz.f131) (c := _) 1 Tryz.func131 rfl rfl (Nat.le_of_ble_eq_true rfl) rfl rfl fun Ls => ?_
      rw [Tryz.ntmps131]; refine Nav.imp ?_
      refine awp_region cx [] fun K hK => ?_
      simp [push_cast]
      repeat (refine And.intro (by clear hK; intros; first | omega | (simp_all; done) | (simp_all <;> omega)) ?_)
      refine hK _ ?_; clear hK K; refine Nav.imp ?_
      refine awp_region cx [(1, .x ⟨[(0, 0)], [.ptr 0 0 0], [(0, ⟨166, 2, [(bdRow l p).map .d]⟩)], [(0, 0)], none, [(0, ⟨166, 2, [(bdRow l p).map .d]⟩)], .d (.bool false)⟩)] fun K hK => ?_
      simp [push_cast, c1]
      repeat (refine And.intro (by clear hK; intros; first | omega | (simp_all; done) | (simp_all <;> omega)) ?_)
      refine hK _ ?_; clear hK K; refine Nav.imp ?_
      refine awp_cond (b := false) (by simp [push_cast]) (fun hb => ?_) (fun hb => ?_) <;> (refine Nav.imp ?_)
      · simp at hb
      · refine awp_region cx [(1, .x ⟨[(0, 0)], [.ptr 0 0 0], [(0, ⟨166, 2, [(bdRow l p).map .d]⟩)], [(0, 0)], none, [(0, ⟨166, 2, [(bdRow l p).map .d]⟩)], .d (.bool false)⟩)] fun K hK => ?_
        simp [push_cast, c2]
        repeat (refine And.intro (by clear hK; intros; first | omega | (simp_all; done) | (simp_all <;> omega)) ?_)
        refine hK _ ?_; clear hK K; refine Nav.imp ?_
        refine awp_cond (b := false) (by simp [push_cast]) (fun hb => ?_) (fun hb => ?_) <;> (refine Nav.imp ?_)
        · simp at hb
        · refine awp_region_draw cx mixed [] fun K hK => ?_
          simp [push_cast, hr, e1, e2, e3, e4, Run.row]
          repeat (refine And.intro (by clear hK; intros; first | omega | (simp_all; done) | (simp_all <;> omega)) ?_)
          refine hK _ _ (by kernel_rfl) ?_; clear hK K; refine Nav.imp ?_
          first | refine rx_r [(0, 0)] ?_ | refine rx_n [(0, 0)] ?_
          simp [push_cast]
          try decide
theorem pass_ok (l : List Run) (p : Nat) (x : Int) (hl : l.length ≤ 1000000) (hp : p ≤ 2 * l.length) : PX Tryz.prog 132 [.ptr 0 0 0, .d (.int .i64 x)] [(0, ⟨166, 2, [(bdRow l p).map .d]⟩)] [(0, 0)] [(0, ⟨166, 2, [(bdRow l (swP l x p)).map .d]⟩)] (.tup []) := by
  have c1 := next_ok l p hl hp
  have e0 := wrap_i64 (n := (p : Int) + 1) (by omega) (by omega)
  have hs : swP l x p = if bnd l p = x then p + 1 else p := rfl
  generalize bnd l p = n at *
  rw [hs]
  refine px_of_awp cx (fn := Tryz.f132) (c := _) 1 Tryz.func132 rfl rfl (Nat.le_of_ble_eq_true rfl) rfl rfl fun Ls => ?_
  rw [Tryz.ntmps132]; refine Nav.imp ?_
  refine awp_region cx [(1, .x ⟨[(0, 0)], [.ptr 0 0 0], [(0, ⟨166, 2, [(bdRow l p).map .d]⟩)], [(0, 0)], none, [(0, ⟨166, 2, [(bdRow l p).map .d]⟩)], .d (.int .i64 n)⟩)] fun K hK => ?_
  simp [push_cast, c1]
  repeat (refine And.intro (by clear hK; intros; first | omega | (simp_all; done) | (simp_all <;> omega)) ?_)
  refine hK _ ?_; clear hK K; refine Nav.imp ?_
  refine awp_cond (b := n == x) (by simp [push_cast]) (fun hb => ?_) (fun hb => ?_) <;> (refine Nav.imp ?_)
  · have hb : n = x := by simpa using hb
    rw [if_pos hb]
    refine awp_region cx [] fun K hK => ?_
    simp [push_cast, e0]
    repeat (refine And.intro (by clear hK; intros; first | omega | (simp_all; done) | (simp_all <;> omega)) ?_)
    refine hK _ ?_; clear hK K; refine Nav.imp ?_
    first | refine rx_r [(0, 0)] ?_ | refine rx_n [(0, 0)] ?_
    simp [push_cast]
    try decide
  · have hb : ¬ n = x := by simpa using hb
    rw [if_neg hb]
    first | refine rx_r [(0, 0)] ?_ | refine rx_n [(0, 0)] ?_
    simp [push_cast]
    try decide
end Go.Proofs.YtagakfaiimaifaaGreat

set_option linter.unusedVariables false
set_option linter.unusedSimpArgs false
namespace Go.Proofs.YtagakfaiimaifaaGreat
open Go.Abs

theorem swX_le {a b : List Run} (ha : rvalid a = true) (hb : rvalid b = true) {p q : Nat} (hp : p ≤ 2 * a.length) (hq : q ≤ 2 * b.length) (hn : ¬ (p = 2 * a.length ∧ q = 2 * b.length)) :
    swP a (swX a b p q) p ≤ 2 * a.length ∧ swP b (swX a b p q) q ≤ 2 * b.length ∧ p + q + 1 ≤ swP a (swX a b p q) p + swP b (swX a b p q) q ∧ p ≤ swP a (swX a b p q) p := by
  have x1 : swX a b p q ≤ bnd a p := Int.min_le_left _ _
  have x2 : swX a b p q ≤ bnd b q := Int.min_le_right _ _
  have x3 : swX a b p q = bnd a p ∨ swX a b p q = bnd b q := by unfold swX; omega
  have hXb : swX a b p q ≤ 1048576 := by
    by_cases e : p < 2 * a.length
    · have := bnd_fits ha e; omega
    · have := bnd_fits hb (i := q) (by omega); omega
  have k1 : bnd a p = swX a b p q → p < 2 * a.length := fun e => by
    apply Classical.byContradiction
    intro h
    have h3 : bnd a p = 1048577 := by rw [show p = 2 * a.length from by omega]; exact bnd_over a
    omega
  have k2 : bnd b q = swX a b p q → q < 2 * b.length := fun e => by
    apply Classical.byContradiction
    intro h
    have h3 : bnd b q = 1048577 := by rw [show q = 2 * b.length from by omega]; exact bnd_over b
    omega
  unfold swP
  refine ⟨?_, ?_, ?_, ?_⟩
  · split
    · rename_i e; have := k1 e; omega
    · exact hp
  · split
    · rename_i e; have := k2 e; omega
    · exact hq
  · split <;> split <;> omega
  · split <;> omega

set_option maxRecDepth 100000 in
set_option maxHeartbeats 4000000 in
theorem sweepc_ok (f : Bool → Bool → Bool) (g : FuncId) (hg : ∀ x y, PC Tryz.prog g [.bool x, .bool y] (.p (.bool (f x y)))) (a b : List Run) (hal : a.length ≤ 1000000) (hbl : b.length ≤ 1000000) (ha : rvalid a = true) (hb : rvalid b = true) :
    PC Tryz.prog 88 [encRuns a, encRuns b, .fn (.func g) []] (.p (encRuns (sweep f a b))) := by
  have c1 := rvalid_ok a hal
  have c2 := rvalid_ok b hbl
  rw [ha] at c1
  rw [hb] at c2
  have hres : sweep f a b = swF f a b (2 * a.length + 2 * b.length) 0 0 [] false := by simp [sweep, ha, hb]
  generalize sweep f a b = res at *
  refine pc_of_awp cx (fn := Tryz.f88) (c := _) Tryz.func88 rfl rfl (Nat.le_of_ble_eq_true rfl) ?_
  rw [Tryz.ntmps88]; refine Nav.imp ?_
  refine awp_region cx [] fun K hK => ?_
  simp [push_cast]
  repeat (refine And.intro (by clear hK; intros; first | omega | (simp_all; done) | (simp_all <;> omega)) ?_)
  refine hK _ ?_; clear hK K; refine Nav.imp ?_
  refine awp_region cx [(1, .p (.bool true)), (5, .p (.bool true))] fun K hK => ?_
  simp [push_cast, c1, c2]
  repeat (refine And.intro (by clear hK; intros; first | omega | (simp_all; done) | (simp_all <;> omega)) ?_)
  refine hK _ ?_; clear hK K; refine Nav.imp ?_
  refine awp_cond (b := false) (by simp [push_cast]) (fun hb => ?_) (fun hb => ?_) <;> (refine Nav.imp ?_)
  · simp at hb
  · clear hb
    refine awp_region cx [] fun K hK => ?_
    simp [push_cast]
    repeat (refine And.intro (by clear hK; intros; first | omega | (simp_all; done) | (simp_all <;> omega)) ?_)
    refine hK _ ?_; clear hK K; refine Nav.imp ?_
    refine awp_region cx [] fun K hK => ?_
    simp [push_cast]
    repeat (refine And.intro (by clear hK; intros; first | omega | (simp_all; done) | (simp_all <;> omega)) ?_)
    refine hK _ ?_; clear hK K; refine Nav.imp ?_
    refine awp_region cx [] fun K hK => ?_
    simp [push_cast]
    repeat (refine And.intro (by clear hK; intros; first | omega | (simp_all; done) | (simp_all <;> omega)) ?_)
    refine hK _ ?_; clear hK K; refine Nav.imp ?_
    refine awp_loop (β := Nat × Nat × List Run × Bool) (fun s => ⟨78, [(2, .d (.fn (.func g) [])), (7, .ptr 0 0 0), (8, .ptr 1 0 0), (9, .hs 2 0 s.2.2.1.length), (10, .d (.bool s.2.2.2))], [(0, some ⟨166, 2, [(bdRow a s.1).map .d]⟩), (1, some ⟨166, 2, [(bdRow b s.2.1).map .d]⟩), (2, some ⟨54, 2, dr (s.2.2.1.map Run.row)⟩)], 3⟩)
      (fun s => s.1 ≤ 2 * a.length ∧ s.2.1 ≤ 2 * b.length ∧ (∃ n, 2 * a.length + 2 * b.length ≤ n + (s.1 + s.2.1) ∧ swF f a b n s.1 s.2.1 s.2.2.1 s.2.2.2 = res) ∧ (s.2.2.2 = true → s.2.2.1 ≠ []) ∧ s.2.2.1.length ≤ s.1 + s.2.1) (fun s => 2 * a.length + 2 * b.length - (s.1 + s.2.1)) (0, 0, [], false) ?_ ⟨Nat.zero_le _, Nat.zero_le _, ⟨_, by simp only; omega, hres.symm⟩, by simp, by simp⟩ ?_
    · refine weak_of [(0, some 11), (1, some 14), (2, none)] rfl (by simp [upT, up, upL, push_cast]) (by simp [upH, upR, upL, up, push_cast]) (by simp [namesOk, push_cast]) (by simp [olds])
    · rintro ⟨p, q, out, o⟩ ⟨hp, hq, ⟨n, hn, hsw⟩, hone, hol⟩
      simp only at hp hq hn hsw hone hol
      clear hres
      have d1 := over_ok a p hal hp
      have d2 := over_ok b q hbl hq
      have d3 := next_ok a p hal hp
      have d4 := next_ok b q hbl hq
      refine Nav.imp ?_
      by_cases hover : p = 2 * a.length ∧ q = 2 * b.length
      · rw [decide_eq_true hover.1] at d1
        rw [decide_eq_true hover.2] at d2
        have hre : res = out := by
          rw [← hsw]
          cases n with
          | zero => rfl
          | succ n => unfold swF; rw [if_pos hover]
        rw [hre]
        refine awp_region cx [(1, .x ⟨[(0, 0)], [.ptr 0 0 0], [(0, ⟨166, 2, [(bdRow a p).map .d]⟩)], [(0, 0)], none, [(0, ⟨166, 2, [(bdRow a p).map .d]⟩)], .d (.bool true)⟩), (5, .x ⟨[(0, 1)], [.ptr 0 0 0], [(0, ⟨166, 2, [(bdRow b q).map .d]⟩)], [(0, 0)], none, [(0, ⟨166, 2, [(bdRow b q).map .d]⟩)], .d (.bool true)⟩)] fun K hK => ?_
        simp [push_cast, d1, d2]
        repeat (refine And.intro (by clear hK; intros; first | omega | (simp_all; done) | (simp_all <;> omega)) ?_)
        refine hK _ ?_; clear hK K; refine Nav.imp ?_
        refine awp_cond (b := false) (by simp [push_cast]) (fun hb => ?_) (fun hb => ?_) <;> (refine Nav.imp ?_)
        · simp at hb
        · refine awp_region cx [] fun K hK => ?_
          simp [push_cast]
          repeat (refine And.intro (by clear hK; intros; first | omega | (simp_all; done) | (simp_all <;> omega)) ?_)
          refine hK _ ?_; clear hK K; refine Nav.imp ?_
          have ht : List.take out.length (out.map Run.row) = out.map Run.row := List.take_of_length_le (by simp)
          simp [push_cast, ht]
      · apply cut_
        · intro key
          by_cases hpo : p = 2 * a.length
          · have hqo : ¬ q = 2 * b.length := fun e => hover ⟨hpo, e⟩
            rw [decide_eq_true hpo] at d1
            rw [decide_eq_false hqo] at d2
            refine awp_region cx [(1, .x ⟨[(0, 0)], [.ptr 0 0 0], [(0, ⟨166, 2, [(bdRow a p).map .d]⟩)], [(0, 0)], none, [(0, ⟨166, 2, [(bdRow a p).map .d]⟩)], .d (.bool true)⟩), (5, .x ⟨[(0, 1)], [.ptr 0 0 0], [(0, ⟨166, 2, [(bdRow b q).map .d]⟩)], [(0, 0)], none, [(0, ⟨166, 2, [(bdRow b q).map .d]⟩)], .d (.bool false)⟩)] fun K hK => ?_
            simp [push_cast, d1, d2]
            repeat (refine And.intro (by clear hK; intros; first | omega | (simp_all; done) | (simp_all <;> omega)) ?_)
            refine hK _ ?_; clear hK K; refine Nav.imp ?_
            refine awp_cond (b := true) (by simp [push_cast]) (fun hb => ?_) (fun hb => ?_) <;> (refine Nav.imp ?_)
            · refine awp_weak (s' := ⟨78, [(2, .d (.fn (.func g) [])), (7, .ptr 0 0 0), (8, .ptr 1 0 0), (9, .hs 2 0 out.length), (10, .d (.bool o))], [(0, some ⟨166, 2, [(bdRow a p).map .d]⟩), (1, some ⟨166, 2, [(bdRow b q).map .d]⟩), (2, some ⟨54, 2, dr (out.map Run.row)⟩)], 3⟩) ?_ key.h
              refine weak_of [(0, some 0), (1, some 1), (2, some 2)] rfl (by simp [upT, up, upL, push_cast]) (by simp [upH, upR, upL, up, push_cast]) (by simp [namesOk, push_cast]) (by simp [olds])
            · simp at hb
          · rw [decide_eq_false hpo] at d1
            refine awp_region cx [(1, .x ⟨[(0, 0)], [.ptr 0 0 0], [(0, ⟨166, 2, [(bdRow a p).map .d]⟩)], [(0, 0)], none, [(0, ⟨166, 2, [(bdRow a p).map .d]⟩)], .d (.bool false)⟩), (5, .skip)] fun K hK => ?_
            simp [push_cast, d1]
            repeat (refine And.intro (by clear hK; intros; first | omega | (simp_all; done) | (simp_all <;> omega)) ?_)
            refine hK _ ?_; clear hK K; refine Nav.imp ?_
            refine awp_cond (b := true) (by simp [push_cast]) (fun hb => ?_) (fun hb => ?_) <;> (refine Nav.imp ?_)
            · refine awp_weak (s' := ⟨78, [(2, .d (.fn (.func g) [])), (7, .ptr 0 0 0), (8, .ptr 1 0 0), (9, .hs 2 0 out.length), (10, .d (.bool o))], [(0, some ⟨166, 2, [(bdRow a p).map .d]⟩), (1, some ⟨166, 2, [(bdRow b q).map .d]⟩), (2, some ⟨54, 2, dr (out.map Run.row)⟩)], 3⟩) ?_ key.h
              refine weak_of [(0, some 0), (1, some 1), (2, some 2)] rfl (by simp [upT, up, upL, push_cast]) (by simp [upH, upR, upL, up, push_cast]) (by simp [namesOk, push_cast]) (by simp [olds])
            · simp at hb
        · obtain ⟨n, rfl⟩ : ∃ m, n = m + 1 := ⟨n - 1, by omega⟩
          obtain ⟨y1, y2, y3, y4⟩ := swX_le ha hb hp hq hover
          unfold swF at hsw
          rw [if_neg hover] at hsw
          have hx : swX a b p q = min (bnd a p) (bnd b q) := rfl
          have d5 := pass_ok a p (swX a b p q) hal hp
          have d6 := pass_ok b q (swX a b p q) hbl hq
          have d7 := inside_ok a (swP a (swX a b p q) p) hal y1
          have d8 := inside_ok b (swP b (swX a b p q) q) hbl y2
          have d9 := hg (swP a (swX a b p q) p % 2 == 1) (swP b (swX a b p q) q % 2 == 1)
          generalize swP a (swX a b p q) p = p' at *
          generalize swP b (swX a b p q) q = q' at *
          generalize swX a b p q = x at *
          generalize bnd a p = ba at *
          generalize bnd b q = bb at *
          generalize (p' % 2 == 1) = i1 at *
          generalize (q' % 2 == 1) = i2 at *
          generalize f i1 i2 = now at *
          refine Nav.imp ?_
          refine awp_region cx [(1, .x ⟨[(0, 0)], [.ptr 0 0 0], [(0, ⟨166, 2, [(bdRow a p).map .d]⟩)], [(0, 0)], none, [(0, ⟨166, 2, [(bdRow a p).map .d]⟩)], .d (.int .i64 ba)⟩), (3, .x ⟨[(0, 1)], [.ptr 0 0 0], [(0, ⟨166, 2, [(bdRow b q).map .d]⟩)], [(0, 0)], none, [(0, ⟨166, 2, [(bdRow b q).map .d]⟩)], .d (.int .i64 bb)⟩)] fun K hK => ?_
          simp [push_cast, d3, d4]
          repeat (refine And.intro (by clear hK; intros; first | omega | (simp_all; done) | (simp_all <;> omega)) ?_)
          refine hK _ ?_; clear hK K; refine Nav.imp ?_
          rw [← hx]
          refine awp_region cx [(2, .x ⟨[(0, 0)], [.ptr 0 0 0, .d (.int .i64 x)], [(0, ⟨166, 2, [(bdRow a p).map .d]⟩)], [(0, 0)], none, [(0, ⟨166, 2, [(bdRow a p').map .d]⟩)], .tup []⟩)] fun K hK => ?_
          simp [push_cast, d5]
          repeat (refine And.intro (by clear hK; intros; first | omega | (simp_all; done) | (simp_all <;> omega)) ?_)
          refine hK _ ?_; clear hK K; refine Nav.imp ?_
          refine awp_region cx [(2, .x ⟨[(0, 1)], [.ptr 0 0 0, .d (.int .i64 x)], [(0, ⟨166, 2, [(bdRow b q).map .d]⟩)], [(0, 0)], none, [(0, ⟨166, 2, [(bdRow b q').map .d]⟩)], .tup []⟩)] fun K hK => ?_
          simp [push_cast, d6]
          repeat (refine And.intro (by clear hK; intros; first | omega | (simp_all; done) | (simp_all <;> omega)) ?_)
          refine hK _ ?_; clear hK K; refine Nav.imp ?_
          refine awp_region cx [(2, .x ⟨[(0, 0)], [.ptr 0 0 0], [(0, ⟨166, 2, [(bdRow a p').map .d]⟩)], [(0, 0)], none, [(0, ⟨166, 2, [(bdRow a p').map .d]⟩)], .d (.bool i1)⟩), (4, .x ⟨[(0, 1)], [.ptr 0 0 0], [(0, ⟨166, 2, [(bdRow b q').map .d]⟩)], [(0, 0)], none, [(0, ⟨166, 2, [(bdRow b q').map .d]⟩)], .d (.bool i2)⟩), (5, .p (.bool now))] fun K hK => ?_
          simp [push_cast, d7, d8, d9]
          repeat (refine And.intro (by clear hK; intros; first | omega | (simp_all; done) | (simp_all <;> omega)) ?_)
          refine hK _ ?_; clear hK K; refine Nav.imp ?_
          clear d1 d2 d3 d4 d5 d6 d7 d8 d9 c1 c2
          have ho16 : (out.length + 1) * 16 ≤ 140737488355328 := by omega
          cases now with
          | true =>
            cases o with
            | false =>
              have hso : swOut true false out x = out ++ [⟨x, 0⟩] := by simp [swOut]
              rw [hso] at hsw
              refine awp_region cx [] fun K hK => ?_
              simp [push_cast]
              repeat (refine And.intro (by clear hK; intros; first | omega | (simp_all; done) | (simp_all <;> omega)) ?_)
              refine hK _ ?_; clear hK K; refine Nav.imp ?_
              refine awp_cond (b := true) (by simp [push_cast]) (fun hb => ?_) (fun hb => ?_) <;> (refine Nav.imp ?_)
              · refine awp_region cx [] fun K hK => ?_
                simp [push_cast, ho16]
                repeat (refine And.intro (by clear hK; intros; first | omega | (simp_all; done) | (simp_all <;> omega)) ?_)
                refine hK _ ?_; clear hK K; refine Nav.imp ?_
                refine awp_region cx [] fun K hK => ?_
                simp [push_cast]
                repeat (refine And.intro (by clear hK; intros; first | omega | (simp_all; done) | (simp_all <;> omega)) ?_)
                refine hK _ ?_; clear hK K; refine Nav.imp ?_
                refine ⟨(p', q', out ++ [⟨x, 0⟩], true), ⟨y1, y2, ⟨n, by simp only; omega, hsw⟩, by simp, by simp; omega⟩, by simp only; omega, ?_⟩
                refine weak_of [(0, some 0), (1, some 1), (2, some 32)] rfl (by simp [upT, up, upL, push_cast, Run.row]) (by simp [upH, upR, upL, up, push_cast, Run.row]) (by simp [namesOk, push_cast]) (by simp [olds])
              · simp at hb
            | true =>
              have hso : swOut true true out x = out := by simp [swOut]
              rw [hso] at hsw
              refine awp_region cx [] fun K hK => ?_
              simp [push_cast]
              repeat (refine And.intro (by clear hK; intros; first | omega | (simp_all; done) | (simp_all <;> omega)) ?_)
              refine hK _ ?_; clear hK K; refine Nav.imp ?_
              refine awp_cond (b := false) (by simp [push_cast]) (fun hb => ?_) (fun hb => ?_) <;> (refine Nav.imp ?_)
              · simp at hb
              · refine awp_region cx [] fun K hK => ?_
                simp [push_cast]
                repeat (refine And.intro (by clear hK; intros; first | omega | (simp_all; done) | (simp_all <;> omega)) ?_)
                refine hK _ ?_; clear hK K; refine Nav.imp ?_
                refine awp_cond (b := false) (by simp [push_cast]) (fun hb => ?_) (fun hb => ?_) <;> (refine Nav.imp ?_)
                · simp at hb
                · refine awp_region cx [] fun K hK => ?_
                  simp [push_cast]
                  repeat (refine And.intro (by clear hK; intros; first | omega | (simp_all; done) | (simp_all <;> omega)) ?_)
                  refine hK _ ?_; clear hK K; refine Nav.imp ?_
                  refine ⟨(p', q', out, true), ⟨y1, y2, ⟨n, by simp only; omega, hsw⟩, hone, by simp only; omega⟩, by simp only; omega, ?_⟩
                  refine weak_of [(0, some 0), (1, some 1), (2, some 2)] rfl (by simp [upT, up, upL, push_cast, Run.row]) (by simp [upH, upR, upL, up, push_cast, Run.row]) (by simp [namesOk, push_cast]) (by simp [olds])
          | false =>
            cases o with
            | false =>
              have hso : swOut false false out x = out := by simp [swOut]
              rw [hso] at hsw
              refine awp_region cx [] fun K hK => ?_
              simp [push_cast]
              repeat (refine And.intro (by clear hK; intros; first | omega | (simp_all; done) | (simp_all <;> omega)) ?_)
              refine hK _ ?_; clear hK K; refine Nav.imp ?_
              refine awp_cond (b := false) (by simp [push_cast]) (fun hb => ?_) (fun hb => ?_) <;> (refine Nav.imp ?_)
              · simp at hb
              · refine awp_region cx [] fun K hK => ?_
                simp [push_cast]
                repeat (refine And.intro (by clear hK; intros; first | omega | (simp_all; done) | (simp_all <;> omega)) ?_)
                refine hK _ ?_; clear hK K; refine Nav.imp ?_
                refine awp_cond (b := false) (by simp [push_cast]) (fun hb => ?_) (fun hb => ?_) <;> (refine Nav.imp ?_)
                · simp at hb
                · refine awp_region cx [] fun K hK => ?_
                  simp [push_cast]
                  repeat (refine And.intro (by clear hK; intros; first | omega | (simp_all; done) | (simp_all <;> omega)) ?_)
                  refine hK _ ?_; clear hK K; refine Nav.imp ?_
                  refine ⟨(p', q', out, false), ⟨y1, y2, ⟨n, by simp only; omega, hsw⟩, by simp, by simp only; omega⟩, by simp only; omega, ?_⟩
                  refine weak_of [(0, some 0), (1, some 1), (2, some 2)] rfl (by simp [upT, up, upL, push_cast, Run.row]) (by simp [upH, upR, upL, up, push_cast, Run.row]) (by simp [namesOk, push_cast]) (by simp [olds])
            | true =>
              obtain ⟨L, r, rfl⟩ : ∃ L r, out = L ++ [r] := by
                rcases List.eq_nil_or_concat out with e | ⟨L, r, e⟩
                · exact absurd e (hone rfl)
                · exact ⟨L, r, by rw [e, List.concat_eq_append]⟩
              obtain ⟨ra, rb⟩ := r
              have hso : swOut false true (L ++ [⟨ra, rb⟩]) x = L ++ [⟨ra, x⟩] := by simp [swOut]
              rw [hso] at hsw
              have hz : (L ++ [(⟨ra, rb⟩ : Run)])[L.length]? = some ⟨ra, rb⟩ := by simp
              have hlen : (L ++ [(⟨ra, rb⟩ : Run)]).length = L.length + 1 := by simp
              have hset : (dr ((L ++ [(⟨ra, rb⟩ : Run)]).map Run.row)).set L.length [AV.d (.int .i64 ra), AV.d (.int .i64 x)] = dr ((L ++ [(⟨ra, x⟩ : Run)]).map Run.row) := by simp [dr, Run.row]
              have hlen2 : (L ++ [(⟨ra, x⟩ : Run)]).length = (L ++ [(⟨ra, rb⟩ : Run)]).length := by simp
              have hne : L ++ [(⟨ra, x⟩ : Run)] ≠ [] := by simp
              generalize L ++ [(⟨ra, x⟩ : Run)] = C at *
              generalize L ++ [(⟨ra, rb⟩ : Run)] = B at *
              have e7 := wrap_i64 (n := (B.length : Int) - 1) (by omega) (by omega)
              have e8 : ((B.length : Int) - 1).toNat = L.length := by omega
              have e9 : (0 : Int) ≤ (B.length : Int) - 1 := by omega
              refine awp_region cx [] fun K hK => ?_
              simp [push_cast]
              repeat (refine And.intro (by clear hK; intros; first | omega | (simp_all; done) | (simp_all <;> omega)) ?_)
              refine hK _ ?_; clear hK K; refine Nav.imp ?_
              refine awp_cond (b := false) (by simp [push_cast]) (fun hb => ?_) (fun hb => ?_) <;> (refine Nav.imp ?_)
              · simp at hb
              · refine awp_region cx [] fun K hK => ?_
                simp [push_cast]
                repeat (refine And.intro (by clear hK; intros; first | omega | (simp_all; done) | (simp_all <;> omega)) ?_)
                refine hK _ ?_; clear hK K; refine Nav.imp ?_
                refine awp_cond (b := true) (by simp [push_cast]) (fun hb => ?_) (fun hb => ?_) <;> (refine Nav.imp ?_)
                · refine awp_region cx [] fun K hK => ?_
                  simp [push_cast, hz, e7, e8, e9, hset, Run.row]
                  repeat (refine And.intro (by clear hK; intros; first | omega | (simp_all; done) | (simp_all <;> omega)) ?_)
                  refine hK _ ?_; clear hK K; refine Nav.imp ?_
                  refine awp_region cx [] fun K hK => ?_
                  simp [push_cast]
                  repeat (refine And.intro (by clear hK; intros; first | omega | (simp_all; done) | (simp_all <;> omega)) ?_)
                  refine hK _ ?_; clear hK K; refine Nav.imp ?_
                  rw [← hlen2]
                  refine ⟨(p', q', C, false), ⟨y1, y2, ⟨n, by simp only; omega, hsw⟩, by simp, by simp only; omega⟩, by simp only; omega, ?_⟩
                  refine weak_of [(0, some 0), (1, some 1), (2, some 2)] rfl (by simp [upT, up, upL, push_cast, Run.row]) (by simp [upH, upR, upL, up, push_cast, Run.row]) (by simp [namesOk, push_cast]) (by simp [olds])
                · simp at hb

def fU (x y : Bool) : Bool := x || y
def fI (x y : Bool) : Bool := x && y
def fD (x y : Bool) : Bool := x && !y
theorem keepU (x y : Bool) : PC Tryz.prog 149 [.bool x, .bool y] (.p (.bool (fU x y))) := by
  refine pc_of_awp cx (fn := Tryz.f149) (c := _) Tryz.func149 rfl rfl (Nat.le_of_ble_eq_true rfl) ?_
  rw [Tryz.ntmps149]; refine Nav.imp ?_
  refine awp_region cx [] fun K hK => ?_
  simp [push_cast]
  repeat (refine And.intro (by clear hK; intros; first | omega | (simp_all; done) | (simp_all <;> omega)) ?_)
  refine hK _ ?_; clear hK K; refine Nav.imp ?_
  cases x <;> cases y
  · refine awp_region cx [] fun K hK => ?_
    simp [push_cast]
    repeat (refine And.intro (by clear hK; intros; first | omega | (simp_all; done) | (simp_all <;> omega)) ?_)
    refine hK _ ?_; clear hK K; refine Nav.imp ?_
    simp [push_cast, fU]
  · refine awp_region cx [] fun K hK => ?_
    simp [push_cast]
    repeat (refine And.intro (by clear hK; intros; first | omega | (simp_all; done) | (simp_all <;> omega)) ?_)
    refine hK _ ?_; clear hK K; refine Nav.imp ?_
    simp [push_cast, fU]
  · refine awp_region cx [] fun K hK => ?_
    simp [push_cast]
    repeat (refine And.intro (by clear hK; intros; first | omega | (simp_all; done) | (simp_all <;> omega)) ?_)
    refine hK _ ?_; clear hK K; refine Nav.imp ?_
    simp [push_cast, fU]
  · refine awp_region cx [] fun K hK => ?_
    simp [push_cast]
    repeat (refine And.intro (by clear hK; intros; first | omega | (simp_all; done) | (simp_all <;> omega)) ?_)
    refine hK _ ?_; clear hK K; refine Nav.imp ?_
    simp [push_cast, fU]
theorem keepI (x y : Bool) : PC Tryz.prog 150 [.bool x, .bool y] (.p (.bool (fI x y))) := by
  refine pc_of_awp cx (fn := Tryz.f150) (c := _) Tryz.func150 rfl rfl (Nat.le_of_ble_eq_true rfl) ?_
  rw [Tryz.ntmps150]; refine Nav.imp ?_
  refine awp_region cx [] fun K hK => ?_
  simp [push_cast]
  repeat (refine And.intro (by clear hK; intros; first | omega | (simp_all; done) | (simp_all <;> omega)) ?_)
  refine hK _ ?_; clear hK K; refine Nav.imp ?_
  cases x <;> cases y
  · refine awp_region cx [] fun K hK => ?_
    simp [push_cast]
    repeat (refine And.intro (by clear hK; intros; first | omega | (simp_all; done) | (simp_all <;> omega)) ?_)
    refine hK _ ?_; clear hK K; refine Nav.imp ?_
    simp [push_cast, fI]
  · refine awp_region cx [] fun K hK => ?_
    simp [push_cast]
    repeat (refine And.intro (by clear hK; intros; first | omega | (simp_all; done) | (simp_all <;> omega)) ?_)
    refine hK _ ?_; clear hK K; refine Nav.imp ?_
    simp [push_cast, fI]
  · refine awp_region cx [] fun K hK => ?_
    simp [push_cast]
    repeat (refine And.intro (by clear hK; intros; first | omega | (simp_all; done) | (simp_all <;> omega)) ?_)
    refine hK _ ?_; clear hK K; refine Nav.imp ?_
    simp [push_cast, fI]
  · refine awp_region cx [] fun K hK => ?_
    simp [push_cast]
    repeat (refine And.intro (by clear hK; intros; first | omega | (simp_all; done) | (simp_all <;> omega)) ?_)
    refine hK _ ?_; clear hK K; refine Nav.imp ?_
    simp [push_cast, fI]
theorem keepD (x y : Bool) : PC Tryz.prog 89 [.bool x, .bool y] (.p (.bool (fD x y))) := by
  refine pc_of_awp cx (fn := Tryz.f89) (c := _) Tryz.func89 rfl rfl (Nat.le_of_ble_eq_true rfl) ?_
  rw [Tryz.ntmps89]; refine Nav.imp ?_
  refine awp_region cx [] fun K hK => ?_
  simp [push_cast]
  repeat (refine And.intro (by clear hK; intros; first | omega | (simp_all; done) | (simp_all <;> omega)) ?_)
  refine hK _ ?_; clear hK K; refine Nav.imp ?_
  cases x <;> cases y
  · refine awp_region cx [] fun K hK => ?_
    simp [push_cast]
    repeat (refine And.intro (by clear hK; intros; first | omega | (simp_all; done) | (simp_all <;> omega)) ?_)
    refine hK _ ?_; clear hK K; refine Nav.imp ?_
    simp [push_cast, fD]
  · refine awp_region cx [] fun K hK => ?_
    simp [push_cast]
    repeat (refine And.intro (by clear hK; intros; first | omega | (simp_all; done) | (simp_all <;> omega)) ?_)
    refine hK _ ?_; clear hK K; refine Nav.imp ?_
    simp [push_cast, fD]
  · refine awp_region cx [] fun K hK => ?_
    simp [push_cast]
    repeat (refine And.intro (by clear hK; intros; first | omega | (simp_all; done) | (simp_all <;> omega)) ?_)
    refine hK _ ?_; clear hK K; refine Nav.imp ?_
    simp [push_cast, fD]
  · refine awp_region cx [] fun K hK => ?_
    simp [push_cast]
    repeat (refine And.intro (by clear hK; intros; first | omega | (simp_all; done) | (simp_all <;> omega)) ?_)
    refine hK _ ?_; clear hK K; refine Nav.imp ?_
    simp [push_cast, fD]
theorem union_ok (a b : List Run) (hal : a.length ≤ 1000000) (hbl : b.length ≤ 1000000) (ha : rvalid a = true) (hb : rvalid b = true) : PC Tryz.prog 100 [encRuns a, encRuns b] (.p (encRuns (sweep fU a b))) := by
  have c1 := sweepc_ok fU 149 keepU a b hal hbl ha hb
  generalize sweep fU a b = r at *
  refine pc_of_awp cx (fn := Tryz.f100) (c := _) Tryz.func100 rfl rfl (Nat.le_of_ble_eq_true rfl) ?_
  rw [Tryz.ntmps100]; refine Nav.imp ?_
  refine awp_region cx [] fun K hK => ?_
  simp [push_cast]
  repeat (refine And.intro (by clear hK; intros; first | omega | (simp_all; done) | (simp_all <;> omega)) ?_)
  refine hK _ ?_; clear hK K; refine Nav.imp ?_
  refine awp_region cx [(2, .p (encRuns r))] fun K hK => ?_
  simp [push_cast, c1]
  repeat (refine And.intro (by clear hK; intros; first | omega | (simp_all; done) | (simp_all <;> omega)) ?_)
  refine hK _ ?_; clear hK K; refine Nav.imp ?_
  simp [push_cast]
theorem intersect_ok (a b : List Run) (hal : a.length ≤ 1000000) (hbl : b.length ≤ 1000000) (ha : rvalid a = true) (hb : rvalid b = true) : PC Tryz.prog 103 [encRuns a, encRuns b] (.p (encRuns (sweep fI a b))) := by
  have c1 := sweepc_ok fI 150 keepI a b hal hbl ha hb
  generalize sweep fI a b = r at *
  refine pc_of_awp cx (fn := Tryz.f103) (c := _) Tryz.func103 rfl rfl (Nat.le_of_ble_eq_true rfl) ?_
  rw [Tryz.ntmps103]; refine Nav.imp ?_
  refine awp_region cx [] fun K hK => ?_
  simp [push_cast]
  repeat (refine And.intro (by clear hK; intros; first | omega | (simp_all; done) | (simp_all <;> omega)) ?_)
  refine hK _ ?_; clear hK K; refine Nav.imp ?_
  refine awp_region cx [(2, .p (encRuns r))] fun K hK => ?_
  simp [push_cast, c1]
  repeat (refine And.intro (by clear hK; intros; first | omega | (simp_all; done) | (simp_all <;> omega)) ?_)
  refine hK _ ?_; clear hK K; refine Nav.imp ?_
  simp [push_cast]
theorem subtract_ok (a b : List Run) (hal : a.length ≤ 1000000) (hbl : b.length ≤ 1000000) (ha : rvalid a = true) (hb : rvalid b = true) : PC Tryz.prog 46 [encRuns a, encRuns b] (.p (encRuns (sweep fD a b))) := by
  have c1 := sweepc_ok fD 89 keepD a b hal hbl ha hb
  generalize sweep fD a b = r at *
  refine pc_of_awp cx (fn := Tryz.f46) (c := _) Tryz.func46 rfl rfl (Nat.le_of_ble_eq_true rfl) ?_
  rw [Tryz.ntmps46]; refine Nav.imp ?_
  refine awp_region cx [] fun K hK => ?_
  simp [push_cast]
  repeat (refine And.intro (by clear hK; intros; first | omega | (simp_all; done) | (simp_all <;> omega)) ?_)
  refine hK _ ?_; clear hK K; refine Nav.imp ?_
  refine awp_region cx [(2, .p (encRuns r))] fun K hK => ?_
  simp [push_cast, c1]
  repeat (refine And.intro (by clear hK; intros; first | omega | (simp_all; done) | (simp_all <;> omega)) ?_)
  refine hK _ ?_; clear hK K; refine Nav.imp ?_
  simp [push_cast]
end Go.Proofs.YtagakfaiimaifaaGreat

set_option linter.unusedVariables false
set_option linter.unusedSimpArgs false
set_option maxRecDepth 100000
namespace Go.Proofs.YtagakfaiimaifaaGreat
open Go.Abs

/-! Layer 6 of the reference, plainly: bounds, and the runs that are put together from them. -/
def insU : List Int → Int → List Int
  | [], x => [x]
  | y :: l, x => if x ≤ y then (if x < y then x :: y :: l else y :: l) else y :: insU l x
theorem insU_mem : ∀ (l : List Int) (x y : Int), y ∈ insU l x ↔ y = x ∨ y ∈ l
  | [], x, y => by simp [insU]
  | z :: l, x, y => by
    simp only [insU]
    split
    · split
      · simp
      · have : x = z := by omega
        subst this; simp
    · rw [List.mem_cons, insU_mem l x y, List.mem_cons]
      constructor
      · rintro (h | h | h) <;> simp [h]
      · rintro (h | h | h) <;> simp [h]
theorem insU_pw : ∀ (l : List Int) (x : Int), l.Pairwise (· < ·) → (insU l x).Pairwise (· < ·)
  | [], x, _ => by simp [insU]
  | z :: l, x, h => by
    have h2 := List.pairwise_cons.1 h
    simp only [insU]
    split
    · split
      · rename_i h1 h3
        refine List.pairwise_cons.2 ⟨fun y hy => ?_, h⟩
        rcases List.mem_cons.1 hy with rfl | hy
        · exact h3
        · have := h2.1 y hy; omega
      · exact h
    · rename_i h1
      refine List.pairwise_cons.2 ⟨fun y hy => ?_, insU_pw l x h2.2⟩
      rcases (insU_mem l x y).1 hy with rfl | hy
      · omega
      · exact h2.1 y hy
theorem insU_len : ∀ (l : List Int) (x : Int), (insU l x).length ≤ l.length + 1
  | [], x => by simp [insU]
  | z :: l, x => by
    simp only [insU]
    have := insU_len l x
    split
    · split <;> simp
    · simp; omega
theorem insU_app : ∀ (l r : List Int) (x : Int), (∀ y ∈ l, y < x) → insU (l ++ r) x = l ++ insU r x
  | [], r, x, _ => rfl
  | z :: l, r, x, h => by
    have h1 := h z (by simp)
    simp only [List.cons_append, insU]
    rw [if_neg (by omega), insU_app l r x fun y hy => h y (by simp [hy])]
theorem insU_end (l : List Int) (x : Int) (h : ∀ y ∈ l, y < x) : insU l x = l ++ [x] := by
  have := insU_app l [] x h
  simpa [insU] using this
theorem insU_done : ∀ (l r : List Int) (x : Int), (∃ y ∈ l, x ≤ y) → insU (l ++ r) x = insU l x ++ r
  | [], r, x, h => by obtain ⟨y, hy, _⟩ := h; simp at hy
  | z :: l, r, x, h => by
    simp only [List.cons_append, insU]
    split
    · split <;> simp
    · rename_i h1
      rw [insU_done l r x (by
        obtain ⟨y, hy, h2⟩ := h
        rcases List.mem_cons.1 hy with rfl | hy
        · exact absurd h2 h1
        · exact ⟨y, hy, h2⟩)]; rfl
/-- The state of the reference's loop: whether the number is in its place, and what is behind it. -/
def insAt6 (l : List Int) (x : Int) (k : Nat) : Bool := (l.take k).any fun y => decide (x ≤ y)
def insOut (l : List Int) (x : Int) (k : Nat) : List Int := if insAt6 l x k then insU (l.take k) x else l.take k
theorem insAt6_next {l : List Int} {x y : Int} {k : Nat} (h : l[k]? = some y) : insAt6 l x (k + 1) = (insAt6 l x k || decide (x ≤ y)) := by
  unfold insAt6
  rw [take_get h]; simp
theorem insOut_next {l : List Int} {x y : Int} {k : Nat} (h : l[k]? = some y) : insOut l x (k + 1) = (if !insAt6 l x k && decide (x < y) then insOut l x k ++ [x] else insOut l x k) ++ [y] := by
  have h1 := insAt6_next (x := x) h
  unfold insOut
  rw [h1, take_get h]
  cases hb : insAt6 l x k with
  | true =>
    have hex : ∃ z ∈ l.take k, x ≤ z := by
      unfold insAt6 at hb
      obtain ⟨z, hz, hx⟩ := List.any_eq_true.1 hb
      exact ⟨z, hz, by simpa using hx⟩
    simp [insU_done _ _ _ hex]
  | false =>
    have hall : ∀ z ∈ l.take k, z < x := fun z hz => by
      unfold insAt6 at hb
      have := List.any_eq_false.1 hb z hz
      simp at this; omega
    by_cases hxy : x ≤ y
    · by_cases hlt : x < y
      · simp [hxy, hlt, insU_app _ _ _ hall, insU]
      · simp [hxy, hlt, insU_app _ _ _ hall, insU]
    · have hlt : ¬ x < y := by omega
      simp [hxy, hlt]
theorem insOut_end {l : List Int} {x : Int} : insU l x = if insAt6 l x l.length then insOut l x l.length else insOut l x l.length ++ [x] := by
  unfold insOut
  rw [List.take_length]
  cases hb : insAt6 l x l.length with
  | true => simp
  | false =>
    have hall : ∀ z ∈ l, z < x := fun z hz => by
      unfold insAt6 at hb
      rw [List.take_length] at hb
      have := List.any_eq_false.1 hb z hz
      simp at this; omega
    simp [insU_end l x hall]
theorem insOut_len (l : List Int) (x : Int) (k : Nat) : (insOut l x k).length ≤ l.length + 1 := by
  unfold insOut
  have h1 := insU_len (l.take k) x
  have h2 : (l.take k).length ≤ l.length := by rw [List.length_take]; omega
  split <;> omega

def bndS (L : List Int) (r : Run) : List Int := if r.a < r.b then insU (insU L r.a) r.b else L
def bnd6 (l : List Run) : List Int := l.foldl bndS []
theorem bnd6_next {l : List Run} {k : Nat} {r : Run} (h : l[k]? = some r) : bnd6 (l.take (k + 1)) = bndS (bnd6 (l.take k)) r := by
  unfold bnd6
  rw [take_get h, List.foldl_append]; rfl
theorem bnd_fold : ∀ (l : List Run) (L : List Int), L.Pairwise (· < ·) → (l.foldl bndS L).Pairwise (· < ·) ∧ (∀ y, y ∈ l.foldl bndS L ↔ y ∈ L ∨ ∃ r ∈ l, r.a < r.b ∧ (y = r.a ∨ y = r.b)) ∧ (l.foldl bndS L).length ≤ L.length + 2 * l.length
  | [], L, h => by simp [h]
  | r :: l, L, h => by
    have hs : (bndS L r).Pairwise (· < ·) := by
      unfold bndS
      split
      · exact insU_pw _ _ (insU_pw _ _ h)
      · exact h
    obtain ⟨h1, h2, h3⟩ := bnd_fold l (bndS L r) hs
    have hl : (bndS L r).length ≤ L.length + 2 := by
      unfold bndS
      have := insU_len (insU L r.a) r.b
      have := insU_len L r.a
      split <;> omega
    have hm : ∀ y, y ∈ bndS L r ↔ y ∈ L ∨ (r.a < r.b ∧ (y = r.a ∨ y = r.b)) := fun y => by
      unfold bndS
      split
      · rename_i hlt
        rw [insU_mem, insU_mem]
        constructor
        · rintro (h | h | h) <;> simp [h, hlt]
        · rintro (h | ⟨_, h | h⟩) <;> simp [h]
      · rename_i hlt
        simp [hlt]
    refine ⟨h1, fun y => ?_, by simp only [List.foldl_cons, List.length_cons]; omega⟩
    simp only [List.foldl_cons]
    rw [h2, hm]
    simp only [List.mem_cons, exists_eq_or_imp]
    exact or_assoc
theorem bnd6_facts (l : List Run) : (bnd6 l).Pairwise (· < ·) ∧ (∀ y, y ∈ bnd6 l ↔ ∃ r ∈ l, r.a < r.b ∧ (y = r.a ∨ y = r.b)) ∧ (bnd6 l).length ≤ 2 * l.length := by
  obtain ⟨h1, h2, h3⟩ := bnd_fold l [] (by simp)
  exact ⟨h1, fun y => by unfold bnd6; rw [h2]; simp, by unfold bnd6; simpa using h3⟩

def putU (l : List Run) (a b : Int) : List Run := match l[l.length - 1]? with
  | some r => if r.b = a then l.dropLast ++ [⟨r.a, b⟩] else l ++ [⟨a, b⟩]
  | none => l ++ [⟨a, b⟩]
theorem putU_len (l : List Run) (a b : Int) : (putU l a b).length ≤ l.length + 1 := by
  unfold putU
  split
  · split <;> simp <;> omega
  · simp
/-- What is put together up to bound k. -/
def putTo (P : Int → Bool) (B : List Int) : Nat → List Run
  | 0 => []
  | k + 1 => match B[k]?, B[k + 1]? with
    | some x, some y => if P x then putU (putTo P B k) x y else putTo P B k
    | _, _ => putTo P B k
theorem putTo_next {P : Int → Bool} {B : List Int} {k : Nat} {x y : Int} (h1 : B[k]? = some x) (h2 : B[k + 1]? = some y) : putTo P B (k + 1) = if P x then putU (putTo P B k) x y else putTo P B k := by
  simp only [putTo, h1, h2]
theorem putTo_len (P : Int → Bool) (B : List Int) : ∀ k, (putTo P B k).length ≤ k
  | 0 => by simp [putTo]
  | k + 1 => by
    have h1 := putTo_len P B k
    simp only [putTo]
    split
    · split
      · rename_i x y _ _ _
        have := putU_len (putTo P B k) x y
        omega
      · omega
    · omega
theorem putTo_inv {P : Int → Bool} {B : List Int} (hB : B.Pairwise (· < ·)) (hc : ∀ (k : Nat) (x y z : Int), B[k]? = some x → B[k + 1]? = some y → x ≤ z → z < y → P z = P x) (h0 : ∀ z, (∀ x ∈ B, z < x) → P z = false) :
    ∀ (k : Nat) (X : Int), B[k]? = some X → Apart (putTo P B k) ∧ (∀ r ∈ putTo P B k, r.b ≤ X) ∧ ∀ z, inR (putTo P B k) z = true ↔ (P z = true ∧ z < X)
  | 0, X, hX => by
    refine ⟨⟨by simp [putTo], by simp [putTo]⟩, by simp [putTo], fun z => ?_⟩
    simp only [putTo, inR, List.any_nil, Bool.false_eq_true, false_iff, not_and]
    intro hP hz
    have : P z = false := h0 z fun x hx => by
      obtain ⟨j, hj⟩ := List.mem_iff_getElem?.1 hx
      by_cases e : j = 0
      · subst e; rw [hX] at hj; cases hj; exact hz
      · have := List.pairwise_iff_getElem.1 hB 0 j (List.getElem?_eq_some_iff.1 hX).1 (List.getElem?_eq_some_iff.1 hj).1 (by omega)
        rw [(List.getElem?_eq_some_iff.1 hX).2, (List.getElem?_eq_some_iff.1 hj).2] at this
        omega
    rw [this] at hP; cases hP
  | k + 1, Y, hY => by
    have hk : k < B.length := by have := (List.getElem?_eq_some_iff.1 hY).1; omega
    obtain ⟨X, hX⟩ : ∃ X, B[k]? = some X := ⟨B[k], List.getElem?_eq_getElem hk⟩
    obtain ⟨i1, i2, i3⟩ := putTo_inv hB hc h0 k X hX
    have hXY : X < Y := by
      have := List.pairwise_iff_getElem.1 hB k (k + 1) hk (List.getElem?_eq_some_iff.1 hY).1 (by omega)
      rw [(List.getElem?_eq_some_iff.1 hX).2, (List.getElem?_eq_some_iff.1 hY).2] at this
      exact this
    have hcon := fun z => hc k X Y z hX hY
    rw [putTo_next hX hY]
    generalize putTo P B k = O at *
    by_cases hP : P X = true
    · rw [if_pos hP]
      have hval : ∀ z, (P z = true ∧ z < Y) ↔ (P z = true ∧ z < X) ∨ (X ≤ z ∧ z < Y) := fun z => by
        constructor
        · rintro ⟨h1, h2⟩
          by_cases h : z < X
          · exact .inl ⟨h1, h⟩
          · exact .inr ⟨by omega, h2⟩
        · rintro (⟨h1, h2⟩ | ⟨h1, h2⟩)
          · exact ⟨h1, by omega⟩
          · exact ⟨by rw [hcon z h1 h2]; exact hP, h2⟩
      unfold putU
      split
      · rename_i r hr
        have hO : O = O.dropLast ++ [r] := by
          have hne : O ≠ [] := fun h => by rw [h] at hr; simp at hr
          have hlast : O.getLast hne = r := by
            rw [List.getLast_eq_getElem]
            have := (List.getElem?_eq_some_iff.1 hr).2
            exact this
          rw [← hlast]
          exact (List.dropLast_concat_getLast hne).symm
        split
        · rename_i hrb
          generalize O.dropLast = Q at *
          subst hO
          obtain ⟨a1, a2⟩ := i1
          have hra := a1 r (by simp)
          rw [List.pairwise_append] at a2
          refine ⟨⟨fun q hq => ?_, ?_⟩, fun q hq => ?_, fun z => ?_⟩
          · rcases List.mem_append.1 hq with hq | hq
            · exact a1 q (by simp [hq])
            · simp at hq; subst hq; simp only; omega
          · rw [List.pairwise_append]
            refine ⟨a2.1, by simp, fun p hp q hq => ?_⟩
            simp at hq; subst hq
            exact a2.2.2 p hp r (by simp)
          · rcases List.mem_append.1 hq with hq | hq
            · have := i2 q (by simp [hq]); omega
            · simp at hq; subst hq; simp
          · rw [hval, ← i3]
            simp only [inR, List.any_append, List.any_cons, List.any_nil, Bool.or_false, Bool.or_eq_true, Bool.and_eq_true, decide_eq_true_eq]
            constructor
            · rintro (h | h)
              · exact .inl (.inl h)
              · by_cases h2 : z < r.b
                · exact .inl (.inr ⟨h.1, h2⟩)
                · exact .inr ⟨by omega, h.2⟩
            · rintro ((h | h) | h)
              · exact .inl h
              · exact .inr ⟨h.1, by omega⟩
              · exact .inr ⟨by omega, h.2⟩
        · rename_i hrb
          obtain ⟨a1, a2⟩ := i1
          refine ⟨⟨fun q hq => ?_, ?_⟩, fun q hq => ?_, fun z => ?_⟩
          · rcases List.mem_append.1 hq with hq | hq
            · exact a1 q hq
            · simp at hq; subst hq; exact hXY
          · rw [List.pairwise_append]
            refine ⟨a2, by simp, fun p hp q hq => ?_⟩
            simp at hq; subst hq
            show p.b < X
            have hpb := i2 p hp
            have hrX : r.b < X := by
              have := i2 r (by rw [hO]; simp)
              omega
            rw [hO] at hp a2
            rcases List.mem_append.1 hp with hp | hp
            · have h5 := (List.pairwise_append.1 a2).2.2 p hp r (by simp)
              have h6 := a1 r (by rw [hO]; simp)
              omega
            · simp at hp; subst hp; exact hrX
          · rcases List.mem_append.1 hq with hq | hq
            · have := i2 q hq; omega
            · simp at hq; subst hq; simp
          · rw [hval, ← i3]
            simp [inR]
      · rename_i hr
        have hO : O = [] := by
          cases O with
          | nil => rfl
          | cons q O => simp at hr
        subst hO
        refine ⟨⟨by simp; exact hXY, by simp⟩, by simp, fun z => ?_⟩
        rw [hval, ← i3]
        simp [inR]
    · rw [if_neg hP]
      refine ⟨i1, fun r hr => by have := i2 r hr; omega, fun z => ?_⟩
      rw [i3]
      constructor
      · rintro ⟨h1, h2⟩; exact ⟨h1, by omega⟩
      · rintro ⟨h1, h2⟩
        refine ⟨h1, ?_⟩
        by_cases h : z < X
        · exact h
        · rw [hcon z (by omega) h2] at h1; exact absurd h1 hP
/-- All of it. -/
def putAll (P : Int → Bool) (B : List Int) : List Run := putTo P B (B.length - 1)
theorem putAll_facts {P : Int → Bool} {B : List Int} (hB : B.Pairwise (· < ·)) (hc : ∀ (k : Nat) (x y z : Int), B[k]? = some x → B[k + 1]? = some y → x ≤ z → z < y → P z = P x) (h0 : ∀ z, (∀ x ∈ B, z < x) → P z = false) (h1 : ∀ z, (∀ x ∈ B, x ≤ z) → P z = false) : Apart (putAll P B) ∧ ∀ z, inR (putAll P B) z = P z := by
  cases hn : B.length with
  | zero =>
    have hB0 : B = [] := List.eq_nil_of_length_eq_zero hn
    subst hB0
    refine ⟨⟨by simp [putAll, putTo], by simp [putAll, putTo]⟩, fun z => ?_⟩
    rw [h0 z (by simp)]
    simp [putAll, putTo, inR]
  | succ n =>
    have hX : B[n]? = some B[n] := List.getElem?_eq_getElem (by omega)
    obtain ⟨i1, _, i3⟩ := putTo_inv hB hc h0 n _ hX
    unfold putAll
    rw [hn, Nat.add_sub_cancel]
    refine ⟨i1, fun z => ?_⟩
    rw [Bool.eq_iff_iff, i3]
    constructor
    · exact fun h => h.1
    · intro hP
      refine ⟨hP, ?_⟩
      apply Int.not_le.1
      intro hle
      have : P z = false := h1 z fun x hx => by
        obtain ⟨j, hj⟩ := List.mem_iff_getElem?.1 hx
        have hjl := (List.getElem?_eq_some_iff.1 hj).1
        by_cases e : j = n
        · subst e; rw [hX] at hj; cases hj; exact hle
        · have := List.pairwise_iff_getElem.1 hB j n hjl (by omega) (by omega)
          rw [(List.getElem?_eq_some_iff.1 hj).2] at this
          omega
      rw [this] at hP; cases hP
end Go.Proofs.YtagakfaiimaifaaGreat

set_option linter.unusedVariables false
set_option linter.unusedSimpArgs false
set_option maxRecDepth 100000
namespace Go.Proofs.YtagakfaiimaifaaGreat
open Go.Abs

/-! What the sort of package region compares; the copy of a list. -/
def cmpI (a b : Int) : Int := if a < b then -1 else if b < a then 1 else 0
def intRow (x : Int) : List D := [.int .i64 x]
abbrev encInts (l : List Int) : D := .sl (l.map intRow)
def orI (a b : Int) : Int := if a ≠ 0 then a else b

theorem isNaN_ok (a : Int) : PC Tryz.prog 192 [.int .i64 a] (.p (.bool false)) := by
  refine pc_of_awp cx (fn := Tryz.f192) (c := _) Tryz.func192 rfl rfl (Nat.le_of_ble_eq_true rfl) ?_
  rw [Tryz.ntmps192]; refine Nav.imp ?_
  refine awp_region cx [] fun K hK => ?_
  simp [push_cast]
  repeat (refine And.intro (by clear hK; intros; first | omega | (simp_all; done) | (simp_all <;> omega)) ?_)
  refine hK _ ?_; clear hK K; refine Nav.imp ?_
  refine awp_region cx [] fun K hK => ?_
  simp [push_cast]
  repeat (refine And.intro (by clear hK; intros; first | omega | (simp_all; done) | (simp_all <;> omega)) ?_)
  refine hK _ ?_; clear hK K; refine Nav.imp ?_
  simp [push_cast]

theorem compare_ok (a b : Int) : PC Tryz.prog 153 [.int .i64 a, .int .i64 b] (.p (.int .i64 (cmpI a b))) := by
  have c1 := isNaN_ok a
  have c2 := isNaN_ok b
  refine pc_of_awp cx (fn := Tryz.f153) (c := _) Tryz.func153 rfl rfl (Nat.le_of_ble_eq_true rfl) ?_
  rw [Tryz.ntmps153]; refine Nav.imp ?_
  refine awp_region cx [] fun K hK => ?_
  simp [push_cast]
  repeat (refine And.intro (by clear hK; intros; first | omega | (simp_all; done) | (simp_all <;> omega)) ?_)
  refine hK _ ?_; clear hK K; refine Nav.imp ?_
  refine awp_region cx [(1, .p (.bool false))] fun K hK => ?_
  simp [push_cast, c1]
  repeat (refine And.intro (by clear hK; intros; first | omega | (simp_all; done) | (simp_all <;> omega)) ?_)
  refine hK _ ?_; clear hK K; refine Nav.imp ?_
  refine awp_region cx [(1, .p (.bool false))] fun K hK => ?_
  simp [push_cast, c2]
  repeat (refine And.intro (by clear hK; intros; first | omega | (simp_all; done) | (simp_all <;> omega)) ?_)
  refine hK _ ?_; clear hK K; refine Nav.imp ?_
  refine awp_region cx [] fun K hK => ?_
  simp [push_cast]
  repeat (refine And.intro (by clear hK; intros; first | omega | (simp_all; done) | (simp_all <;> omega)) ?_)
  refine hK _ ?_; clear hK K; refine Nav.imp ?_
  refine awp_cond (b := false) (by simp [push_cast]) (fun hb => ?_) (fun hb => ?_) <;> (refine Nav.imp ?_)
  · simp at hb
  · refine awp_region cx [] fun K hK => ?_
    simp [push_cast]
    repeat (refine And.intro (by clear hK; intros; first | omega | (simp_all; done) | (simp_all <;> omega)) ?_)
    refine hK _ ?_; clear hK K; refine Nav.imp ?_
    refine awp_cond (b := false) (by simp [push_cast]) (fun hb => ?_) (fun hb => ?_) <;> (refine Nav.imp ?_)
    · simp at hb
    · refine awp_region cx [] fun K hK => ?_
      simp [push_cast]
      repeat (refine And.intro (by clear hK; intros; first | omega | (simp_all; done) | (simp_all <;> omega)) ?_)
      refine hK _ ?_; clear hK K; refine Nav.imp ?_
      refine awp_cond (b := decide (a < b)) (by simp [push_cast]) (fun hb => ?_) (fun hb => ?_) <;> (refine Nav.imp ?_)
      · have hb : a < b := by simpa using hb
        refine awp_region cx [] fun K hK => ?_
        simp [push_cast]
        repeat (refine And.intro (by clear hK; intros; first | omega | (simp_all; done) | (simp_all <;> omega)) ?_)
        refine hK _ ?_; clear hK K; refine Nav.imp ?_
        simp [push_cast, cmpI, hb]
      · have hb : ¬ a < b := by simpa using hb
        refine awp_region cx [] fun K hK => ?_
        simp [push_cast]
        repeat (refine And.intro (by clear hK; intros; first | omega | (simp_all; done) | (simp_all <;> omega)) ?_)
        refine hK _ ?_; clear hK K; refine Nav.imp ?_
        refine awp_cond (b := decide (b < a)) (by simp [push_cast]) (fun hb => ?_) (fun hb => ?_) <;> (refine Nav.imp ?_)
        · have hb2 : b < a := by simpa using hb
          refine awp_region cx [] fun K hK => ?_
          simp [push_cast]
          repeat (refine And.intro (by clear hK; intros; first | omega | (simp_all; done) | (simp_all <;> omega)) ?_)
          refine hK _ ?_; clear hK K; refine Nav.imp ?_
          simp [push_cast, cmpI, hb, hb2]
          try omega
        · have hb2 : ¬ b < a := by simp at hb; omega
          refine awp_region cx [] fun K hK => ?_
          simp [push_cast]
          repeat (refine And.intro (by clear hK; intros; first | omega | (simp_all; done) | (simp_all <;> omega)) ?_)
          refine hK _ ?_; clear hK K; refine Nav.imp ?_
          simp [push_cast, cmpI, hb, hb2]
          try omega


def cfO (a b : Cell) : Int := orI (cmpI a.y b.y) (cmpI a.x b.x)

end Go.Proofs.YtagakfaiimaifaaGreat

set_option linter.unusedVariables false
set_option linter.unusedSimpArgs false
set_option maxRecDepth 100000
namespace Go.Proofs.YtagakfaiimaifaaGreat
open Go.Abs

def okX (x : Int) : Bool := decide (-1048576 ≤ x) && decide (x ≤ 1048576)
theorem ok6_ok (x : Int) : PC Tryz.prog 154 [.int .i64 x] (.p (.bool (okX x))) := by
  refine pc_of_awp cx (fn := Tryz.f154) (c := _) Tryz.func154 rfl rfl (Nat.le_of_ble_eq_true rfl) ?_
  rw [Tryz.ntmps154]; refine Nav.imp ?_
  refine awp_region cx [] fun K hK => ?_
  simp [push_cast]
  repeat (refine And.intro (by clear hK; intros; first | omega | (simp_all; done) | (simp_all <;> omega)) ?_)
  refine hK _ ?_; clear hK K; refine Nav.imp ?_
  refine awp_region cx [] fun K hK => ?_
  simp [push_cast]
  repeat (refine And.intro (by clear hK; intros; first | omega | (simp_all; done) | (simp_all <;> omega)) ?_)
  refine hK _ ?_; clear hK K; refine Nav.imp ?_
  simp [push_cast, okX]

theorem in6_ok (l : List Run) (x : Int) (hl : l.length ≤ 1000000) : PC Tryz.prog 196 [encRuns l, .int .i64 x] (.p (.bool (inR l x))) := by
  have hall : (l.take l.length).any (fun r => decide (r.a ≤ x) && decide (x < r.b)) = inR l x := by rw [List.take_length]; rfl
  have hnx : ∀ (k : Nat) (r : Run), l[k]? = some r → (l.take (k + 1)).any (fun r => decide (r.a ≤ x) && decide (x < r.b)) = ((l.take k).any (fun r => decide (r.a ≤ x) && decide (x < r.b)) || (decide (r.a ≤ x) && decide (x < r.b))) := fun k r h => by rw [take_get h]; simp
  have hyes : ∀ (k : Nat) (r : Run), l[k]? = some r → (decide (r.a ≤ x) && decide (x < r.b)) = true → inR l x = true := fun k r h h2 => List.any_eq_true.2 ⟨r, List.mem_of_getElem? h, h2⟩
  generalize inR l x = v at *
  refine pc_of_awp cx (fn := Tryz.f196) (c := _) Tryz.func196 rfl rfl (Nat.le_of_ble_eq_true rfl) ?_
  rw [Tryz.ntmps196]; refine Nav.imp ?_
  refine awp_region cx [] fun K hK => ?_
  simp [push_cast]
  repeat (refine And.intro (by clear hK; intros; first | omega | (simp_all; done) | (simp_all <;> omega)) ?_)
  refine hK _ ?_; clear hK K; refine Nav.imp ?_
  refine awp_region cx [] fun K hK => ?_
  simp [push_cast]
  repeat (refine And.intro (by clear hK; intros; first | omega | (simp_all; done) | (simp_all <;> omega)) ?_)
  refine hK _ ?_; clear hK K; refine Nav.imp ?_
  refine awp_loop (β := Nat) (fun k => ⟨28, [(0, .d (encRuns l)), (1, .d (.int .i64 x)), (5, .d (.int .i64 k))], [], 0⟩) (fun k => k ≤ l.length ∧ (l.take k).any (fun r => decide (r.a ≤ x) && decide (x < r.b)) = false) (fun k => l.length - k) 0 ?_ ⟨Nat.zero_le _, rfl⟩ ?_
  · refine weak_of [] rfl (by simp [upT, up, upL, push_cast]) (by simp [upH, upR, upL, up, push_cast]) (by simp [namesOk, push_cast]) (by simp [olds])
  · rintro k ⟨hk, hX⟩
    refine Nav.imp ?_
    refine awp_region cx [] fun K hK => ?_
    simp [push_cast]
    repeat (refine And.intro (by clear hK; intros; first | omega | (simp_all; done) | (simp_all <;> omega)) ?_)
    refine hK _ ?_; clear hK K; refine Nav.imp ?_
    refine awp_cond (b := decide ((k : Int) < l.length)) (by simp [push_cast]) (fun hb => ?_) (fun hb => ?_) <;> (refine Nav.imp ?_)
    · have hlt : k < l.length := by simpa using hb
      obtain ⟨r, hr⟩ := getq hlt
      have e0 := wrap_i64 (n := (k : Int) + 1) (by omega) (by omega)
      have h1 := hnx k r hr
      have h2 := hyes k r hr
      rw [hX, Bool.false_or] at h1
      obtain ⟨a, b⟩ := r
      simp only at h1 h2
      by_cases ha : a ≤ x
      · by_cases hx : x < b
        · have hv := h2 (by simp [ha, hx])
          subst hv
          refine awp_region cx [] fun K hK => ?_
          simp [push_cast, hr, ha, hx, Run.row]
          repeat (refine And.intro (by clear hK; intros; first | omega | (simp_all; done) | (simp_all <;> omega)) ?_)
          refine hK _ ?_; clear hK K; refine Nav.imp ?_
          refine awp_cond (b := true) (by simp [push_cast, ha, hx]) (fun hb => ?_) (fun hb => ?_) <;> (refine Nav.imp ?_)
          · refine awp_region cx [] fun K hK => ?_
            simp [push_cast]
            repeat (refine And.intro (by clear hK; intros; first | omega | (simp_all; done) | (simp_all <;> omega)) ?_)
            refine hK _ ?_; clear hK K; refine Nav.imp ?_
            simp [push_cast]
          · simp at hb
        · refine awp_region cx [] fun K hK => ?_
          simp [push_cast, hr, ha, hx, Run.row]
          repeat (refine And.intro (by clear hK; intros; first | omega | (simp_all; done) | (simp_all <;> omega)) ?_)
          refine hK _ ?_; clear hK K; refine Nav.imp ?_
          refine awp_cond (b := false) (by simp [push_cast, ha, hx]) (fun hb => ?_) (fun hb => ?_) <;> (refine Nav.imp ?_)
          · simp at hb
          · refine awp_region cx [] fun K hK => ?_
            simp [push_cast, e0]
            repeat (refine And.intro (by clear hK; intros; first | omega | (simp_all; done) | (simp_all <;> omega)) ?_)
            refine hK _ ?_; clear hK K; refine Nav.imp ?_
            refine ⟨k + 1, ⟨hlt, by rw [h1]; simp [hx]⟩, by omega, ?_⟩
            refine weak_of [] rfl (by simp [upT, up, upL, push_cast]) (by simp [upH, upR, upL, up, push_cast]) (by simp [namesOk, push_cast]) (by simp [olds])
      · refine awp_region cx [] fun K hK => ?_
        simp [push_cast, hr, ha, Run.row]
        repeat (refine And.intro (by clear hK; intros; first | omega | (simp_all; done) | (simp_all <;> omega)) ?_)
        refine hK _ ?_; clear hK K; refine Nav.imp ?_
        refine awp_cond (b := false) (by simp [push_cast, ha]) (fun hb => ?_) (fun hb => ?_) <;> (refine Nav.imp ?_)
        · simp at hb
        · refine awp_region cx [] fun K hK => ?_
          simp [push_cast, e0]
          repeat (refine And.intro (by clear hK; intros; first | omega | (simp_all; done) | (simp_all <;> omega)) ?_)
          refine hK _ ?_; clear hK K; refine Nav.imp ?_
          refine ⟨k + 1, ⟨hlt, by rw [h1]; simp [ha]⟩, by omega, ?_⟩
          refine weak_of [] rfl (by simp [upT, up, upL, push_cast]) (by simp [upH, upR, upL, up, push_cast]) (by simp [namesOk, push_cast]) (by simp [olds])
    · have hke : k = l.length := by simp at hb; omega
      subst hke
      rw [hall] at hX
      subst hX
      refine awp_region cx [] fun K hK => ?_
      simp [push_cast]
      repeat (refine And.intro (by clear hK; intros; first | omega | (simp_all; done) | (simp_all <;> omega)) ?_)
      refine hK _ ?_; clear hK K; refine Nav.imp ?_
      simp [push_cast]

abbrev encI (l : List Int) : D := .sl (l.map intRow)
set_option maxHeartbeats 4000000 in
theorem insert6_ok (l : List Int) (x : Int) (hl : l.length ≤ 1000000) : PC Tryz.prog 217 [encI l, .int .i64 x] (.p (encI (insU l x))) := by
  have hnx := fun k y (h : l[k]? = some y) => insAt6_next (x := x) h
  have hno := fun k y (h : l[k]? = some y) => insOut_next (x := x) h
  have hend := insOut_end (l := l) (x := x)
  have hlen := insOut_len l x
  generalize insU l x = W at *
  refine pc_of_awp cx (fn := Tryz.f217) (c := _) Tryz.func217 rfl rfl (Nat.le_of_ble_eq_true rfl) ?_
  rw [Tryz.ntmps217]; refine Nav.imp ?_
  refine awp_region cx [] fun K hK => ?_
  simp [push_cast]
  repeat (refine And.intro (by clear hK; intros; first | omega | (simp_all; done) | (simp_all <;> omega)) ?_)
  refine hK _ ?_; clear hK K; refine Nav.imp ?_
  refine awp_region cx [] fun K hK => ?_
  simp [push_cast]
  repeat (refine And.intro (by clear hK; intros; first | omega | (simp_all; done) | (simp_all <;> omega)) ?_)
  refine hK _ ?_; clear hK K; refine Nav.imp ?_
  refine awp_region cx [] fun K hK => ?_
  simp [push_cast]
  repeat (refine And.intro (by clear hK; intros; first | omega | (simp_all; done) | (simp_all <;> omega)) ?_)
  refine hK _ ?_; clear hK K; refine Nav.imp ?_
  refine awp_region cx [] fun K hK => ?_
  simp [push_cast]
  repeat (refine And.intro (by clear hK; intros; first | omega | (simp_all; done) | (simp_all <;> omega)) ?_)
  refine hK _ ?_; clear hK K; refine Nav.imp ?_
  refine awp_loop (β := Nat × Bool × List Int) (fun s => ⟨48, [(0, .d (encI l)), (1, .d (.int .i64 x)), (5, .hs 0 0 s.2.2.length), (6, .d (.bool s.2.1)), (7, .d (.int .i64 s.1))], [(0, some ⟨3, 1, dr (s.2.2.map intRow)⟩)], 1⟩) (fun s => s.1 ≤ l.length ∧ s.2.1 = insAt6 l x s.1 ∧ s.2.2 = insOut l x s.1) (fun s => l.length - s.1) (0, false, []) ?_ ⟨Nat.zero_le _, rfl, rfl⟩ ?_
  · refine weak_of [(0, none)] rfl (by simp [upT, up, upL, push_cast, intRow]) (by simp [upH, upR, upL, up, push_cast, intRow]) (by simp [namesOk, push_cast]) (by simp [olds])
  · rintro ⟨k, d, X⟩ ⟨hk, hd, hX⟩
    simp only at hk hd hX
    have hXl := hlen k
    rw [← hX] at hXl
    have h8 : (X.length + 1) * 8 ≤ 140737488355328 := by omega
    have h8b : (X.length + 1 + 1) * 8 ≤ 140737488355328 := by omega
    refine Nav.imp ?_
    refine awp_region cx [] fun K hK => ?_
    simp [push_cast]
    repeat (refine And.intro (by clear hK; intros; first | omega | (simp_all; done) | (simp_all <;> omega)) ?_)
    refine hK _ ?_; clear hK K; refine Nav.imp ?_
    refine awp_cond (b := decide ((k : Int) < l.length)) (by simp [push_cast]) (fun hb => ?_) (fun hb => ?_) <;> (refine Nav.imp ?_)
    · have hlt : k < l.length := by simpa using hb
      obtain ⟨y, hy⟩ := getq hlt
      have e0 := wrap_i64 (n := (k : Int) + 1) (by omega) (by omega)
      have q1 := hnx k y hy
      have q2 := hno k y hy
      rw [← hd] at q1 q2
      rw [← hX] at q2
      cases d with
      | true =>
        simp only [Bool.true_or, Bool.not_true, Bool.false_and, Bool.false_eq_true, if_false] at q1 q2
        refine awp_region cx [] fun K hK => ?_
        simp [push_cast, hy, intRow]
        repeat (refine And.intro (by clear hK; intros; first | omega | (simp_all; done) | (simp_all <;> omega)) ?_)
        refine hK _ ?_; clear hK K; refine Nav.imp ?_
        refine awp_cond (b := false) (by simp [push_cast]) (fun hb => ?_) (fun hb => ?_) <;> (refine Nav.imp ?_)
        · simp at hb
        · refine awp_region cx [] fun K hK => ?_
          simp [push_cast, hy, h8, intRow]
          repeat (refine And.intro (by clear hK; intros; first | omega | (simp_all; done) | (simp_all <;> omega)) ?_)
          refine hK _ ?_; clear hK K; refine Nav.imp ?_
          refine awp_region cx [] fun K hK => ?_
          simp [push_cast, e0]
          repeat (refine And.intro (by clear hK; intros; first | omega | (simp_all; done) | (simp_all <;> omega)) ?_)
          refine hK _ ?_; clear hK K; refine Nav.imp ?_
          refine ⟨(k + 1, true, X ++ [y]), ⟨hlt, q1.symm, q2.symm⟩, by simp only; omega, ?_⟩
          refine weak_of [(0, some 21)] rfl (by simp [upT, up, upL, push_cast, intRow]) (by simp [upH, upR, upL, up, push_cast, intRow]) (by simp [namesOk, push_cast]) (by simp [olds])
      | false =>
        simp only [Bool.false_or, Bool.not_false, Bool.true_and, decide_eq_true_eq] at q1 q2
        by_cases hxy : x ≤ y
        · rw [decide_eq_true hxy] at q1
          by_cases hlt2 : x < y
          · rw [if_pos hlt2] at q2
            refine awp_region cx [] fun K hK => ?_
            simp [push_cast, hy, hxy, intRow]
            repeat (refine And.intro (by clear hK; intros; first | omega | (simp_all; done) | (simp_all <;> omega)) ?_)
            refine hK _ ?_; clear hK K; refine Nav.imp ?_
            refine awp_cond (b := true) (by simp [push_cast, hxy]) (fun hb => ?_) (fun hb => ?_) <;> (refine Nav.imp ?_)
            · refine awp_region cx [] fun K hK => ?_
              simp [push_cast]
              repeat (refine And.intro (by clear hK; intros; first | omega | (simp_all; done) | (simp_all <;> omega)) ?_)
              refine hK _ ?_; clear hK K; refine Nav.imp ?_
              refine awp_region cx [] fun K hK => ?_
              simp [push_cast, hy, hlt2, intRow]
              repeat (refine And.intro (by clear hK; intros; first | omega | (simp_all; done) | (simp_all <;> omega)) ?_)
              refine hK _ ?_; clear hK K; refine Nav.imp ?_
              refine awp_cond (b := true) (by simp [push_cast, hlt2]) (fun hb => ?_) (fun hb => ?_) <;> (refine Nav.imp ?_)
              · refine awp_region cx [] fun K hK => ?_
                simp [push_cast, h8, intRow]
                repeat (refine And.intro (by clear hK; intros; first | omega | (simp_all; done) | (simp_all <;> omega)) ?_)
                refine hK _ ?_; clear hK K; refine Nav.imp ?_
                have ht2 : List.take (X.length + 1) (dr (X.map intRow) ++ [[AV.d (.int .i64 x)]]) = dr (X.map intRow) ++ [[AV.d (.int .i64 x)]] := List.take_of_length_le (by simp [dr])
                refine awp_region cx [] fun K hK => ?_
                simp [push_cast, hy, h8b, ht2, intRow]
                repeat (refine And.intro (by clear hK; intros; first | omega | (simp_all; done) | (simp_all <;> omega)) ?_)
                refine hK _ ?_; clear hK K; refine Nav.imp ?_
                refine awp_region cx [] fun K hK => ?_
                simp [push_cast, e0]
                repeat (refine And.intro (by clear hK; intros; first | omega | (simp_all; done) | (simp_all <;> omega)) ?_)
                refine hK _ ?_; clear hK K; refine Nav.imp ?_
                refine ⟨(k + 1, true, X ++ [x] ++ [y]), ⟨hlt, q1.symm, q2.symm⟩, by simp only; omega, ?_⟩
                refine weak_of [(0, some 33)] rfl (by simp [upT, up, upL, push_cast, intRow]) (by simp [upH, upR, upL, up, push_cast, intRow]) (by simp [namesOk, push_cast]) (by simp [olds])
              · simp at hb
            · simp at hb
          · rw [if_neg hlt2] at q2
            refine awp_region cx [] fun K hK => ?_
            simp [push_cast, hy, hxy, intRow]
            repeat (refine And.intro (by clear hK; intros; first | omega | (simp_all; done) | (simp_all <;> omega)) ?_)
            refine hK _ ?_; clear hK K; refine Nav.imp ?_
            refine awp_cond (b := true) (by simp [push_cast, hxy]) (fun hb => ?_) (fun hb => ?_) <;> (refine Nav.imp ?_)
            · refine awp_region cx [] fun K hK => ?_
              simp [push_cast]
              repeat (refine And.intro (by clear hK; intros; first | omega | (simp_all; done) | (simp_all <;> omega)) ?_)
              refine hK _ ?_; clear hK K; refine Nav.imp ?_
              refine awp_region cx [] fun K hK => ?_
              simp [push_cast, hy, hlt2, intRow]
              repeat (refine And.intro (by clear hK; intros; first | omega | (simp_all; done) | (simp_all <;> omega)) ?_)
              refine hK _ ?_; clear hK K; refine Nav.imp ?_
              refine awp_cond (b := false) (by simp [push_cast, hlt2]) (fun hb => ?_) (fun hb => ?_) <;> (refine Nav.imp ?_)
              · simp at hb
              · refine awp_region cx [] fun K hK => ?_
                simp [push_cast, hy, h8, intRow]
                repeat (refine And.intro (by clear hK; intros; first | omega | (simp_all; done) | (simp_all <;> omega)) ?_)
                refine hK _ ?_; clear hK K; refine Nav.imp ?_
                refine awp_region cx [] fun K hK => ?_
                simp [push_cast, e0]
                repeat (refine And.intro (by clear hK; intros; first | omega | (simp_all; done) | (simp_all <;> omega)) ?_)
                refine hK _ ?_; clear hK K; refine Nav.imp ?_
                refine ⟨(k + 1, true, X ++ [y]), ⟨hlt, q1.symm, q2.symm⟩, by simp only; omega, ?_⟩
                refine weak_of [(0, some 28)] rfl (by simp [upT, up, upL, push_cast, intRow]) (by simp [upH, upR, upL, up, push_cast, intRow]) (by simp [namesOk, push_cast]) (by simp [olds])
            · simp at hb
        · have hlt2 : ¬ x < y := by omega
          rw [decide_eq_false hxy] at q1
          rw [if_neg hlt2] at q2
          refine awp_region cx [] fun K hK => ?_
          simp [push_cast, hy, hxy, intRow]
          repeat (refine And.intro (by clear hK; intros; first | omega | (simp_all; done) | (simp_all <;> omega)) ?_)
          refine hK _ ?_; clear hK K; refine Nav.imp ?_
          refine awp_cond (b := false) (by simp [push_cast, hxy]) (fun hb => ?_) (fun hb => ?_) <;> (refine Nav.imp ?_)
          · simp at hb
          · refine awp_region cx [] fun K hK => ?_
            simp [push_cast, hy, h8, intRow]
            repeat (refine And.intro (by clear hK; intros; first | omega | (simp_all; done) | (simp_all <;> omega)) ?_)
            refine hK _ ?_; clear hK K; refine Nav.imp ?_
            refine awp_region cx [] fun K hK => ?_
            simp [push_cast, e0]
            repeat (refine And.intro (by clear hK; intros; first | omega | (simp_all; done) | (simp_all <;> omega)) ?_)
            refine hK _ ?_; clear hK K; refine Nav.imp ?_
            refine ⟨(k + 1, false, X ++ [y]), ⟨hlt, q1.symm, q2.symm⟩, by simp only; omega, ?_⟩
            refine weak_of [(0, some 21)] rfl (by simp [upT, up, upL, push_cast, intRow]) (by simp [upH, upR, upL, up, push_cast, intRow]) (by simp [namesOk, push_cast]) (by simp [olds])
    · have hke : k = l.length := by simp at hb; omega
      subst hke
      rw [← hd, ← hX] at hend
      cases d with
      | true =>
        simp only [if_true] at hend
        subst hend
        have ht : List.take W.length (W.map intRow) = W.map intRow := List.take_of_length_le (by simp)
        refine awp_region cx [] fun K hK => ?_
        simp [push_cast]
        repeat (refine And.intro (by clear hK; intros; first | omega | (simp_all; done) | (simp_all <;> omega)) ?_)
        refine hK _ ?_; clear hK K; refine Nav.imp ?_
        refine awp_cond (b := false) (by simp [push_cast]) (fun hb => ?_) (fun hb => ?_) <;> (refine Nav.imp ?_)
        · simp at hb
        · refine awp_region cx [] fun K hK => ?_
          simp [push_cast]
          repeat (refine And.intro (by clear hK; intros; first | omega | (simp_all; done) | (simp_all <;> omega)) ?_)
          refine hK _ ?_; clear hK K; refine Nav.imp ?_
          simp [push_cast, ht]
      | false =>
        simp only [Bool.false_eq_true, if_false] at hend
        subst hend
        have ht : List.take (X.length + 1) (X.map intRow ++ [[.int .i64 x]]) = X.map intRow ++ [[.int .i64 x]] := List.take_of_length_le (by simp)
        refine awp_region cx [] fun K hK => ?_
        simp [push_cast]
        repeat (refine And.intro (by clear hK; intros; first | omega | (simp_all; done) | (simp_all <;> omega)) ?_)
        refine hK _ ?_; clear hK K; refine Nav.imp ?_
        refine awp_cond (b := true) (by simp [push_cast]) (fun hb => ?_) (fun hb => ?_) <;> (refine Nav.imp ?_)
        · refine awp_region cx [] fun K hK => ?_
          simp [push_cast, h8, intRow]
          repeat (refine And.intro (by clear hK; intros; first | omega | (simp_all; done) | (simp_all <;> omega)) ?_)
          refine hK _ ?_; clear hK K; refine Nav.imp ?_
          refine awp_region cx [] fun K hK => ?_
          simp [push_cast]
          repeat (refine And.intro (by clear hK; intros; first | omega | (simp_all; done) | (simp_all <;> omega)) ?_)
          refine hK _ ?_; clear hK K; refine Nav.imp ?_
          simp [push_cast, ht, intRow]
        · simp at hb
end Go.Proofs.YtagakfaiimaifaaGreat
