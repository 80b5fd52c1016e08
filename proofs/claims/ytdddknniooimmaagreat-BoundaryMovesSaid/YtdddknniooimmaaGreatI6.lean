/-
  Texts of this seat put together: R5, Q1, Q2, G1, G2, G3, X1, X2.
-/
import Derived.Test.YtdddknniooimmaaGreatI5
set_option linter.unusedVariables false
set_option linter.unusedSimpArgs false
set_option maxRecDepth 100000
namespace Go.Proofs.YtdddknniooimmaaGreat
open Go.Abs

def trkOf (y : Int) (r : Run) : List Track := if r.b = r.a + 1 then [] else [⟨2, false, runCells y r⟩]
def sngOf (y : Int) (r : Run) : List Cell := if r.b = r.a + 1 then [⟨r.a, y⟩] else []
def rowTrk (w : Row) : List Track := w.runs.flatMap (trkOf w.y)
def rowSng (w : Row) : List Cell := w.runs.flatMap (sngOf w.y)
def regTrk (R : List Row) : List Track := R.flatMap rowTrk
def regSng (R : List Row) : List Cell := R.flatMap rowSng

theorem row_runs {R : List Row} (h : validR R = true) {w : Row} (hw : w ∈ R) {r : Run} (hr : r ∈ w.runs) : -4096 ≤ r.a ∧ r.a < r.b ∧ r.b ≤ 4096 := by
  obtain ⟨i, hi⟩ := List.mem_iff_getElem?.1 hw
  obtain ⟨k, hk⟩ := List.mem_iff_getElem?.1 hr
  exact fine_at (validR_at h hi).2 hk
end Go.Proofs.YtdddknniooimmaaGreat

namespace Go.Proofs.YtdddknniooimmaaGreat
open Go.Abs

theorem mem_runCells {y : Int} {r : Run} {c : Cell} : c ∈ runCells y r ↔ c.y = y ∧ r.a ≤ c.x ∧ c.x < r.b := by
  simp only [runCells, List.mem_map, List.mem_range]
  constructor
  · rintro ⟨k, hk, rfl⟩
    exact ⟨rfl, by simp only; omega, by simp only; omega⟩
  · rintro ⟨h1, h2, h3⟩
    refine ⟨(c.x - r.a).toNat, by omega, ?_⟩
    cases c
    simp only [Cell.mk.injEq] at *
    exact ⟨by omega, h1.symm⟩
theorem mem_regCells {R : List Row} {c : Cell} : c ∈ regCells R ↔ ∃ w ∈ R, c.y = w.y ∧ ∃ r ∈ w.runs, r.a ≤ c.x ∧ c.x < r.b := by
  simp only [regCells, rowCells, List.mem_flatMap, mem_runCells]
  constructor
  · rintro ⟨w, hw, r, hr, h1, h2, h3⟩
    exact ⟨w, hw, h1, r, hr, h2, h3⟩
  · rintro ⟨w, hw, h1, r, hr, h2, h3⟩
    exact ⟨w, hw, r, hr, h1, h2, h3⟩

theorem rows_lt {R : List Row} (h : validR R = true) : ∀ (j i : Nat) (w p : Row), i < j → R[j]? = some w → R[i]? = some p → p.y < w.y
  | 0, i, w, p, hij, _, _ => by omega
  | j + 1, i, w, p, hij, hw, hp => by
    by_cases e : i = j
    · subst e; exact validR_gap h hw hp
    · have hj := (List.getElem?_eq_some_iff.1 hw).1
      obtain ⟨q, hq⟩ : ∃ q, R[j]? = some q := getq (by omega)
      have h1 := rows_lt h j i q p (by omega) hq hp
      have h2 := validR_gap h hw hq
      omega
theorem rows_eq {R : List Row} (h : validR R = true) {w p : Row} (hw : w ∈ R) (hp : p ∈ R) (he : w.y = p.y) : w = p := by
  obtain ⟨j, hj⟩ := List.mem_iff_getElem?.1 hw
  obtain ⟨i, hi⟩ := List.mem_iff_getElem?.1 hp
  rcases Nat.lt_trichotomy i j with hlt | e | hlt
  · have := rows_lt h j i w p hlt hj hi; omega
  · subst e; rw [hj] at hi; exact Option.some.inj hi
  · have := rows_lt h i j p w hlt hi hj; omega
theorem runs_lt {l : List Run} (h : fine l = true) : ∀ (j i : Nat) (r p : Run), i < j → l[j]? = some r → l[i]? = some p → p.b < r.a
  | 0, i, r, p, hij, _, _ => by omega
  | j + 1, i, r, p, hij, hr, hp => by
    by_cases e : i = j
    · subst e; exact fine_gap h hr hp
    · have hj := (List.getElem?_eq_some_iff.1 hr).1
      obtain ⟨q, hq⟩ : ∃ q, l[j]? = some q := getq (by omega)
      have h1 := runs_lt h j i q p (by omega) hq hp
      have h2 := fine_gap h hr hq
      have h3 := fine_at h hq
      omega
theorem row_fine {R : List Row} (h : validR R = true) {w : Row} (hw : w ∈ R) : (-4096 ≤ w.y ∧ w.y < 4096) ∧ fine w.runs = true := by
  obtain ⟨i, hi⟩ := List.mem_iff_getElem?.1 hw
  exact validR_at h hi
theorem cells_on {R : List Row} (h : validR R = true) {c : Cell} (hc : c ∈ regCells R) : onG c = true := by
  obtain ⟨w, hw, hy, r, hr, h1, h2⟩ := mem_regCells.1 hc
  have h3 := row_fine h hw
  have h4 := row_runs h hw hr
  simp [onG]; omega

def rgt (c : Cell) : Cell := ⟨c.x + 1, c.y⟩
def upc (c : Cell) : Cell := ⟨c.x, c.y + 1⟩
def hN (l : List Cell) : Nat → Cell → List Cell
  | 0, _ => []
  | n + 1, c => if c ∈ l then c :: hN l n (rgt c) else []
def hch (l : List Cell) (c : Cell) : List Cell := hN l (4096 - c.x).toNat c
def vN (l : List Cell) : Nat → Cell → List Cell
  | 0, _ => []
  | n + 1, c => if c ∈ l then c :: vN l n (upc c) else []
def vch (l : List Cell) (c : Cell) : List Cell := vN l (4096 - c.y).toNat c
def hst (l : List Cell) (c : Cell) : Bool := !decide ((⟨c.x - 1, c.y⟩ : Cell) ∈ l)
def vst (l : List Cell) (c : Cell) : Bool := !decide ((⟨c.x, c.y - 1⟩ : Cell) ∈ l)
def trk (l : List Cell) : Track := ⟨2, false, l⟩

def isLong (l : List Cell) : Bool := decide (1 < l.length)
def fT (l : List Cell) (c : Cell) : List Track := if hst l c then (if isLong (hch l c) then [trk (hch l c)] else []) else []
def fS (l : List Cell) (c : Cell) : List Cell := if hst l c then (if isLong (hch l c) then [] else [c]) else []

end Go.Proofs.YtdddknniooimmaaGreat

namespace Go.Proofs.YtdddknniooimmaaGreat
open Go.Abs

def ltY (a b : Cell) : Prop := a.y < b.y ∨ a.y = b.y ∧ a.x < b.x
def ltX (a b : Cell) : Prop := a.x < b.x ∨ a.x = b.x ∧ a.y < b.y
def leX (a b : Cell) : Bool := decide (a.x < b.x) || (decide (a.x = b.x) && decide (a.y ≤ b.y))
def sortX (l : List Cell) : List Cell := l.mergeSort leX

theorem rows_pw {R : List Row} (h : validR R = true) : R.Pairwise fun a b => a.y < b.y := by
  rw [List.pairwise_iff_getElem]
  intro i j hi hj hij
  exact rows_lt h j i R[j] R[i] hij (List.getElem?_eq_getElem hj) (List.getElem?_eq_getElem hi)
theorem runs_pw {l : List Run} (h : fine l = true) : l.Pairwise fun p r => p.b < r.a := by
  rw [List.pairwise_iff_getElem]
  intro i j hi hj hij
  exact runs_lt h j i l[j] l[i] hij (List.getElem?_eq_getElem hj) (List.getElem?_eq_getElem hi)
theorem cells_pw {R : List Row} (h : validR R = true) : (regCells R).Pairwise ltY := by
  unfold regCells
  rw [List.pairwise_flatMap]
  refine ⟨fun w hw => ?_, ?_⟩
  · unfold rowCells
    rw [List.pairwise_flatMap]
    refine ⟨fun r hr => ?_, ?_⟩
    · unfold runCells
      rw [List.pairwise_map]
      exact List.Pairwise.imp (fun {a b} hab => .inr ⟨rfl, by simp only; omega⟩) List.pairwise_lt_range
    · refine List.Pairwise.imp_of_mem (fun {p r} hp hr hpr => ?_) (runs_pw (row_fine h hw).2)
      intro a ha b hb
      have h1 := mem_runCells.1 ha
      have h2 := mem_runCells.1 hb
      exact .inr ⟨by omega, by omega⟩
  · refine List.Pairwise.imp_of_mem (fun {w v} hw hv hwv => ?_) (rows_pw h)
    intro a ha b hb
    simp only [rowCells, List.mem_flatMap] at ha hb
    obtain ⟨r, hr, ha⟩ := ha
    obtain ⟨p, hp, hb⟩ := hb
    have h1 := mem_runCells.1 ha
    have h2 := mem_runCells.1 hb
    exact .inl (by omega)

theorem nodup_of_ltY {l : List Cell} (h : l.Pairwise ltY) : l.Nodup :=
  h.imp fun {a b} hab e => by subst e; simp [ltY] at hab
def vT (s : List Cell) (c : Cell) : List Track := if vst s c then [trk (vch s c)] else []
def upAll (s : List Cell) : List Track := s.flatMap (vT s)

end Go.Proofs.YtdddknniooimmaaGreat

namespace Go.Proofs.YtdddknniooimmaaGreat
open Go.Abs

def addRun (l : List Run) (x : Int) : List Run := match l.getLast? with
  | none => [⟨x, x + 1⟩]
  | some r => if r.b < x then l ++ [⟨x, x + 1⟩] else l.dropLast ++ [⟨r.a, max r.b (x + 1)⟩]
def addC (R : List Row) (c : Cell) : List Row := match R.getLast? with
  | none => [⟨c.y, [⟨c.x, c.x + 1⟩]⟩]
  | some w => if w.y = c.y then R.dropLast ++ [⟨w.y, addRun w.runs c.x⟩] else R ++ [⟨c.y, [⟨c.x, c.x + 1⟩]⟩]
def build (l : List Cell) : List Row := l.foldl addC []

theorem addRun_nil (x : Int) : addRun [] x = [⟨x, x + 1⟩] := rfl
theorem addRun_end (l : List Run) (r : Run) (x : Int) : addRun (l ++ [r]) x = if r.b < x then l ++ [r] ++ [⟨x, x + 1⟩] else l ++ [⟨r.a, max r.b (x + 1)⟩] := by simp [addRun]
theorem addC_nil (c : Cell) : addC [] c = [⟨c.y, [⟨c.x, c.x + 1⟩]⟩] := rfl
theorem addC_end (R : List Row) (w : Row) (c : Cell) : addC (R ++ [w]) c = if w.y = c.y then R ++ [⟨w.y, addRun w.runs c.x⟩] else R ++ [w] ++ [⟨c.y, [⟨c.x, c.x + 1⟩]⟩] := by simp [addC]
theorem addC_len (R : List Row) (c : Cell) : (addC R c).length ≤ R.length + 1 := by
  rcases List.eq_nil_or_concat R with rfl | ⟨R', w, rfl⟩
  · simp [addC_nil]
  · rw [List.concat_eq_append, addC_end]; split <;> simp
theorem build_take {l : List Cell} {k : Nat} {c : Cell} (h : l[k]? = some c) : build (l.take (k + 1)) = addC (build (l.take k)) c := by
  simp [build, take_get h]

theorem build_run (P : List Row) (L : List Run) (y a : Int) : ∀ (n j : Nat), ((List.range n).map fun k : Nat => (⟨a + (j + 1) + k, y⟩ : Cell)).foldl addC (P ++ [⟨y, L ++ [⟨a, a + j + 1⟩]⟩]) = P ++ [⟨y, L ++ [⟨a, a + j + 1 + n⟩]⟩]
  | 0, j => by simp
  | n + 1, j => by
    rw [List.range_succ_eq_map, List.map_cons, List.foldl_cons, addC_end, addRun_end]
    simp only [if_true, Int.natCast_zero, Int.add_zero]
    have h1 : ¬ a + (j : Int) + 1 < a + ((j : Int) + 1) := by omega
    have h2 : max (a + (j : Int) + 1) (a + ((j : Int) + 1) + 1) = a + ((j + 1 : Nat) : Int) + 1 := by omega
    rw [if_neg h1, h2]
    have := build_run P L y a n (j + 1)
    rw [List.map_map]
    have e : ((fun k : Nat => (⟨a + ((j : Int) + 1) + k, y⟩ : Cell)) ∘ Nat.succ) = fun k : Nat => (⟨a + (((j + 1 : Nat) : Int) + 1) + k, y⟩ : Cell) := by
      funext k; simp; omega
    rw [e, this]
    congr 4
    simp; omega
theorem run_cells {y : Int} {r : Run} (h : r.a < r.b) : ∃ n : Nat, r.b = r.a + 1 + n ∧ runCells y r = ⟨r.a, y⟩ :: (List.range n).map fun k : Nat => (⟨r.a + ((0 : Nat) + 1) + k, y⟩ : Cell) := by
  refine ⟨(r.b - r.a - 1).toNat, by omega, ?_⟩
  unfold runCells
  rw [show (r.b - r.a).toNat = (r.b - r.a - 1).toNat + 1 from by omega, List.range_succ_eq_map, List.map_cons, List.map_map]
  congr 1
  · simp
  · apply List.map_congr_left; intro k _; simp; omega
theorem build_next (P : List Row) (L : List Run) (y : Int) (r : Run) (h : r.a < r.b) (hL : L ≠ []) (hgap : ∀ p, L.getLast? = some p → p.b < r.a) : (runCells y r).foldl addC (P ++ [⟨y, L⟩]) = P ++ [⟨y, L ++ [r]⟩] := by
  obtain ⟨n, hn, hc⟩ := run_cells (y := y) h
  obtain ⟨L', p, rfl⟩ : ∃ L' p, L = L' ++ [p] := by
    rcases List.eq_nil_or_concat L with e | ⟨L', p, e⟩
    · exact absurd e hL
    · exact ⟨L', p, by rw [e, List.concat_eq_append]⟩
  have := hgap p (by simp)
  rw [hc, List.foldl_cons, addC_end, addRun_end]
  simp only [if_true]
  rw [if_pos this]
  have h2 := build_run P (L' ++ [p]) y r.a n 0
  simp only [Int.natCast_zero, Int.add_zero, Int.zero_add] at h2 ⊢
  rw [h2, ← hn]
theorem build_first (P : List Row) (y : Int) (r : Run) (h : r.a < r.b) (hP : ∀ w, P.getLast? = some w → w.y ≠ y) : (runCells y r).foldl addC P = P ++ [⟨y, [r]⟩] := by
  obtain ⟨n, hn, hc⟩ := run_cells (y := y) h
  rw [hc, List.foldl_cons]
  have h1 : addC P ⟨r.a, y⟩ = P ++ [⟨y, [] ++ [⟨r.a, r.a + (0 : Nat) + 1⟩]⟩] := by
    rcases List.eq_nil_or_concat P with rfl | ⟨P', w, rfl⟩
    · simp [addC_nil]
    · rw [List.concat_eq_append] at hP ⊢
      have := hP w (by simp)
      rw [addC_end, if_neg this]; simp
  have h2 := build_run P [] y r.a n 0
  rw [h1]
  simp only [Int.natCast_zero, Int.add_zero, Int.zero_add, List.nil_append] at h2 ⊢
  rw [h2, ← hn]
theorem build_runs (P : List Row) (y : Int) : ∀ (l L : List Run), L ≠ [] → fine (L ++ l) = true → (l.flatMap (runCells y)).foldl addC (P ++ [⟨y, L⟩]) = P ++ [⟨y, L ++ l⟩]
  | [], L, _, _ => by simp
  | r :: l, L, hL, hf => by
    rw [List.flatMap_cons, List.foldl_append]
    have hr : (L ++ r :: l)[L.length]? = some r := by simp
    have h1 := fine_at hf hr
    rw [build_next P L y r h1.2.1 hL]
    · have := build_runs P y l (L ++ [r]) (by simp) (by simpa using hf)
      rw [this]; simp
    · intro p hp
      rw [List.getLast?_eq_getElem?] at hp
      have hlp : 0 < L.length := List.length_pos_iff.2 hL
      refine fine_gap hf (k := L.length - 1) (by rw [show L.length - 1 + 1 = L.length from by omega]; exact hr) ?_
      rw [List.getElem?_append_left (by omega)]; exact hp
theorem build_row (P : List Row) (w : Row) (hw : fine w.runs = true) (hP : ∀ v, P.getLast? = some v → v.y ≠ w.y) : (rowCells w).foldl addC P = P ++ [w] := by
  obtain ⟨y, l⟩ := w
  cases l with
  | nil => simp [fine] at hw
  | cons r l =>
    have h1 := fine_at hw (k := 0) (r := r) (by simp)
    simp only [rowCells, List.flatMap_cons, List.foldl_append]
    rw [build_first P y r h1.2.1 hP, build_runs P y l [r] (by simp) hw]
    simp
theorem build_rows {R : List Row} (h : validR R = true) : ∀ (n : Nat), n ≤ R.length → ((R.take n).flatMap rowCells).foldl addC [] = R.take n
  | 0, _ => by simp
  | n + 1, hn => by
    obtain ⟨w, hw⟩ : ∃ w, R[n]? = some w := getq (by omega)
    rw [take_get hw, List.flatMap_append, List.foldl_append, build_rows h n (by omega)]
    simp only [List.flatMap_cons, List.flatMap_nil, List.append_nil]
    refine build_row _ w (validR_at h hw).2 fun v hv => ?_
    rw [List.getLast?_eq_getElem?, List.length_take, Nat.min_eq_left (by omega)] at hv
    by_cases e : n = 0
    · subst e; simp at hv
    · rw [List.getElem?_take, if_pos (by omega)] at hv
      have := validR_gap h (i := n - 1) (by rw [show n - 1 + 1 = n from by omega]; exact hw) hv
      omega
theorem build_cells {R : List Row} (h : validR R = true) : build (regCells R) = R := by
  have := build_rows h R.length (Nat.le_refl _)
  rwa [List.take_length] at this

def leY (a b : Cell) : Bool := decide (a.y < b.y) || (decide (a.y = b.y) && decide (a.x ≤ b.x))
def sortY (l : List Cell) : List Cell := l.mergeSort leY
theorem sortY_perm (l : List Cell) : (sortY l).Perm l := List.mergeSort_perm l leY
theorem sortY_le (l : List Cell) : (sortY l).Pairwise fun a b => leY a b = true :=
  List.pairwise_mergeSort (fun a b c h1 h2 => by simp [leY] at *; omega) (fun a b => by simp [leY]; omega) l
theorem leY_anti {a b : Cell} (h1 : leY a b = true) (h2 : leY b a = true) : a = b := by
  cases a; cases b; simp [leY] at *; omega
theorem sortedY_uniq : ∀ {l l' : List Cell}, l.Perm l' → (l.Pairwise fun a b => leY a b = true) → (l'.Pairwise fun a b => leY a b = true) → l = l'
  | [], l', h, _, _ => by have := h.length_eq; simp at this; exact (List.length_eq_zero_iff.1 this.symm).symm
  | a :: l, [], h, _, _ => by have := h.length_eq; simp at this
  | a :: l, b :: l', h, h2, h3 => by
    have hab : a = b := by
      have ha : a ∈ b :: l' := h.subset (by simp)
      have hb : b ∈ a :: l := h.symm.subset (by simp)
      rcases List.mem_cons.1 ha with e | ha
      · exact e
      · rcases List.mem_cons.1 hb with e | hb
        · exact e.symm
        · exact leY_anti ((List.pairwise_cons.1 h2).1 b hb) ((List.pairwise_cons.1 h3).1 a ha)
    subst hab
    rw [sortedY_uniq h.cons_inv (List.pairwise_cons.1 h2).2 (List.pairwise_cons.1 h3).2]
theorem leY_of_lt {a b : Cell} (h : ltY a b) : leY a b = true := by simp [leY, ltY] at *; omega
theorem sortY_cells {R : List Row} (h : validR R = true) {l : List Cell} (hp : l.Perm (regCells R)) : sortY l = regCells R :=
  sortedY_uniq ((sortY_perm l).trans hp) (sortY_le l) ((cells_pw h).imp fun h => leY_of_lt h)
end Go.Proofs.YtdddknniooimmaaGreat

namespace Go.Proofs.YtdddknniooimmaaGreat
open Go.Abs

theorem ltY_uniq : ∀ {l l' : List Cell}, l.Pairwise ltY → l'.Pairwise ltY → (∀ c, c ∈ l ↔ c ∈ l') → l = l' := by
  intro l l' h1 h2 h
  refine sortedY_uniq ?_ (h1.imp fun h => leY_of_lt h) (h2.imp fun h => leY_of_lt h)
  exact (List.perm_ext_iff_of_nodup (nodup_of_ltY h1) (nodup_of_ltY h2)).2 h
theorem region_uniq {R S : List Row} (hR : validR R = true) (hS : validR S = true) (h : ∀ c, c ∈ regCells R ↔ c ∈ regCells S) : R = S := by
  rw [← build_cells hR, ← build_cells hS, ltY_uniq (cells_pw hR) (cells_pw hS) h]

def inR (l : List Run) (x : Int) : Bool := l.any fun r => decide (r.a ≤ x) && decide (x < r.b)
theorem inR_iff {l : List Run} {x : Int} : inR l x = true ↔ ∃ r ∈ l, r.a ≤ x ∧ x < r.b := by simp [inR]
def Apart (l : List Run) : Prop := (∀ r ∈ l, r.a < r.b) ∧ l.Pairwise fun p r => p.b < r.a
theorem rv_gap {l : List Run} (h : rvalid l = true) {k : Nat} {r p : Run} (hr : l[k + 1]? = some r) (hp : l[k]? = some p) : p.b < r.a := by
  have hk := (List.getElem?_eq_some_iff.1 hr).1
  have := all_range_at h hk
  rw [rvAt_some hr (by simpa using hp)] at this
  simp at this
  omega
theorem rv_lt {l : List Run} (h : rvalid l = true) : ∀ (j i : Nat) (r p : Run), i < j → l[j]? = some r → l[i]? = some p → p.b < r.a
  | 0, i, r, p, hij, _, _ => by omega
  | j + 1, i, r, p, hij, hr, hp => by
    by_cases e : i = j
    · subst e; exact rv_gap h hr hp
    · have hj := (List.getElem?_eq_some_iff.1 hr).1
      obtain ⟨q, hq⟩ : ∃ q, l[j]? = some q := getq (by omega)
      have h1 := rv_lt h j i q p (by omega) hq hp
      have h2 := rv_gap h hr hq
      have h3 := rvalid_at h hq
      omega
theorem rvalid_iff {l : List Run} : rvalid l = true ↔ Apart l ∧ ∀ r ∈ l, fitsB r = true := by
  constructor
  · intro h
    refine ⟨⟨fun r hr => ?_, ?_⟩, fun r hr => ?_⟩
    · obtain ⟨i, hi⟩ := List.mem_iff_getElem?.1 hr; exact (rvalid_at h hi).1
    · rw [List.pairwise_iff_getElem]
      intro i j hi hj hij
      exact rv_lt h j i l[j] l[i] hij (List.getElem?_eq_getElem hj) (List.getElem?_eq_getElem hi)
    · obtain ⟨i, hi⟩ := List.mem_iff_getElem?.1 hr; exact (rvalid_at h hi).2
  · rintro ⟨⟨h1, h2⟩, h3⟩
    apply List.all_eq_true.2
    intro i hi
    have hi : i < l.length := by simpa using hi
    obtain ⟨r, hr⟩ := getq hi
    obtain ⟨p, hp⟩ : ∃ q, l[i - 1]? = some q := getq (by omega)
    rw [rvAt_some hr hp]
    have hm := List.mem_of_getElem? hr
    simp only [Bool.and_eq_true, decide_eq_true_eq, Bool.or_eq_true, beq_iff_eq]
    refine ⟨⟨h1 r hm, h3 r hm⟩, ?_⟩
    by_cases e : i = 0
    · exact .inl e
    · right
      obtain ⟨hi', rfl⟩ := List.getElem?_eq_some_iff.1 hr
      obtain ⟨hp', rfl⟩ := List.getElem?_eq_some_iff.1 hp
      exact List.pairwise_iff_getElem.1 h2 (i - 1) i hp' hi' (by omega)
theorem fine_apart {l : List Run} : fine l = true ↔ l ≠ [] ∧ Apart l ∧ ∀ r ∈ l, -4096 ≤ r.a ∧ r.b ≤ 4096 := by
  constructor
  · intro h
    have hne : l ≠ [] := by rintro rfl; simp [fine] at h
    refine ⟨hne, (rvalid_iff.1 (fine_rv h)).1, fun r hr => ?_⟩
    obtain ⟨i, hi⟩ := List.mem_iff_getElem?.1 hr
    have := fine_at h hi
    omega
  · rintro ⟨hne, h1, h2⟩
    have hrv : rvalid l = true := rvalid_iff.2 ⟨h1, fun r hr => by
      have := h2 r hr; have := h1.1 r hr; simp [fitsB]; omega⟩
    have hlp := List.length_pos_iff.2 hne
    obtain ⟨f, hf⟩ : ∃ f, l[0]? = some f := getq hlp
    obtain ⟨z, hz⟩ : ∃ f, l[l.length - 1]? = some f := getq (by omega)
    rw [fine_iff hf hz, hrv]
    have a1 := h2 f (List.mem_of_getElem? hf)
    have a2 := h1.1 f (List.mem_of_getElem? hf)
    have a3 := h2 z (List.mem_of_getElem? hz)
    have a4 := h1.1 z (List.mem_of_getElem? hz)
    simp [okB]; omega

def bnd (l : List Run) (i : Nat) : Int := match l[i / 2]? with
  | some r => if i % 2 = 1 then r.b else r.a
  | none => 1048577
theorem bnd_even {l : List Run} {k : Nat} {r : Run} (h : l[k]? = some r) : bnd l (2 * k) = r.a := by
  have e : 2 * k / 2 = k := by omega
  have e2 : ¬ 2 * k % 2 = 1 := by omega
  simp only [bnd, e, h, if_neg e2]
theorem bnd_odd {l : List Run} {k : Nat} {r : Run} (h : l[k]? = some r) : bnd l (2 * k + 1) = r.b := by
  have e : (2 * k + 1) / 2 = k := by omega
  have e2 : (2 * k + 1) % 2 = 1 := by omega
  simp only [bnd, e, h, if_pos e2]
theorem bnd_over (l : List Run) : bnd l (2 * l.length) = 1048577 := by
  have e : 2 * l.length / 2 = l.length := by omega
  simp [bnd, e]
theorem bnd_cases {l : List Run} {i : Nat} (h : i < 2 * l.length) : ∃ k r, l[k]? = some r ∧ (i = 2 * k ∧ bnd l i = r.a ∨ i = 2 * k + 1 ∧ bnd l i = r.b) := by
  obtain ⟨r, hr⟩ : ∃ r, l[i / 2]? = some r := getq (by omega)
  refine ⟨i / 2, r, hr, ?_⟩
  by_cases e : i % 2 = 1
  · right
    have e1 : i = 2 * (i / 2) + 1 := by omega
    exact ⟨e1, (congrArg (bnd l) e1).trans (bnd_odd hr)⟩
  · left
    have e1 : i = 2 * (i / 2) := by omega
    exact ⟨e1, (congrArg (bnd l) e1).trans (bnd_even hr)⟩
theorem bnd_step {l : List Run} (h : rvalid l = true) {i : Nat} (hi : i < 2 * l.length) : bnd l i < bnd l (i + 1) := by
  obtain ⟨k, r, hr, ⟨e1, e2⟩ | ⟨e1, e2⟩⟩ := bnd_cases hi
  · rw [e2, e1, bnd_odd hr]; exact (rvalid_at h hr).1
  · by_cases hk : k + 1 < l.length
    · obtain ⟨s, hs⟩ := getq hk
      rw [e2, e1, show 2 * k + 1 + 1 = 2 * (k + 1) from by omega, bnd_even hs]
      exact rv_gap h hs hr
    · have := (List.getElem?_eq_some_iff.1 hr).1
      rw [e2, e1, show 2 * k + 1 + 1 = 2 * l.length from by omega, bnd_over]
      have := fitsB_bd (rvalid_at h hr).2
      omega
theorem bnd_asc {l : List Run} (h : rvalid l = true) : ∀ (n i : Nat), i + n ≤ 2 * l.length → bnd l i ≤ bnd l (i + n)
  | 0, i, _ => Int.le_refl _
  | n + 1, i, hi => by
    have h1 := bnd_asc h n i (by omega)
    have h2 := bnd_step h (i := i + n) (by omega)
    rw [show i + (n + 1) = i + n + 1 from by omega]
    omega
theorem bnd_fits {l : List Run} (h : rvalid l = true) {i : Nat} (hi : i < 2 * l.length) : -1048576 ≤ bnd l i ∧ bnd l i ≤ 1048576 := by
  obtain ⟨k, r, hr, ⟨e1, e2⟩ | ⟨e1, e2⟩⟩ := bnd_cases hi <;>
  · have := fitsB_bd (rvalid_at h hr).2
    omega
theorem inR_bnd {l : List Run} (h : rvalid l = true) {p : Nat} {y : Int} (hp : p ≤ 2 * l.length) (h1 : ∀ i, i < p → bnd l i ≤ y) (h2 : p < 2 * l.length → y < bnd l p) : inR l y = (p % 2 == 1) := by
  apply Bool.eq_iff_iff.2
  rw [inR_iff]
  simp only [beq_iff_eq]
  constructor
  · rintro ⟨r, hr, h3, h4⟩
    obtain ⟨k, hk⟩ := List.mem_iff_getElem?.1 hr
    have hkl := (List.getElem?_eq_some_iff.1 hk).1
    apply Classical.byContradiction
    intro he
    have e : p = 2 * (p / 2) := by omega
    by_cases hlt : k < p / 2
    · have := h1 (2 * k + 1) (by omega)
      rw [bnd_odd hk] at this
      omega
    · have h5 := h2 (by omega)
      have h6 := bnd_asc h (2 * k - p) p (by omega)
      rw [show p + (2 * k - p) = 2 * k from by omega, bnd_even hk] at h6
      omega
  · intro he
    have e : p = 2 * (p / 2) + 1 := by omega
    obtain ⟨r, hr⟩ : ∃ r, l[p / 2]? = some r := getq (by omega)
    refine ⟨r, List.mem_of_getElem? hr, ?_, ?_⟩
    · have := h1 (2 * (p / 2)) (by omega)
      rwa [bnd_even hr] at this
    · have := h2 (by omega)
      rw [e, bnd_odd hr] at this
      exact this

def swX (a b : List Run) (p q : Nat) : Int := min (bnd a p) (bnd b q)
def swP (a : List Run) (x : Int) (p : Nat) : Nat := if bnd a p = x then p + 1 else p
def swOut (now o : Bool) (out : List Run) (x : Int) : List Run :=
  if now && !o then out ++ [⟨x, 0⟩] else if !now && o then out.dropLast ++ [⟨(out.getLast?.getD ⟨0, 0⟩).a, x⟩] else out
def swF (f : Bool → Bool → Bool) (a b : List Run) : Nat → Nat → Nat → List Run → Bool → List Run
  | 0, _, _, out, _ => out
  | n + 1, p, q, out, o =>
    if p = 2 * a.length ∧ q = 2 * b.length then out else
      swF f a b n (swP a (swX a b p q) p) (swP b (swX a b p q) q)
        (swOut (f (swP a (swX a b p q) p % 2 == 1) (swP b (swX a b p q) q % 2 == 1)) o out (swX a b p q)) (f (swP a (swX a b p q) p % 2 == 1) (swP b (swX a b p q) q % 2 == 1))
def sweep (f : Bool → Bool → Bool) (a b : List Run) : List Run := if rvalid a && rvalid b then swF f a b (2 * a.length + 2 * b.length) 0 0 [] false else []

structure SwAt (f : Bool → Bool → Bool) (a b : List Run) (p q : Nat) (out : List Run) (o : Bool) (X : Int) (C : List Run) (s : Int) : Prop where
  hp : p ≤ 2 * a.length
  hq : q ≤ 2 * b.length
  p1 : ∀ i, i < p → bnd a i ≤ X
  p2 : p < 2 * a.length → X < bnd a p
  q1 : ∀ i, i < q → bnd b i ≤ X
  q2 : q < 2 * b.length → X < bnd b q
  eout : out = if o then C ++ [⟨s, 0⟩] else C
  ap : Apart C
  le : ∀ r ∈ C, r.b ≤ X
  so : o = true → s ≤ X ∧ ∀ r ∈ C, r.b < s
  eo : o = f (p % 2 == 1) (q % 2 == 1)
  mem : ∀ y, y ≤ X → (f (inR a y) (inR b y) = true ↔ (inR C y = true ∨ (o = true ∧ s ≤ y)))

theorem swP_facts {a : List Run} (ha : rvalid a = true) {p : Nat} {X x : Int} (hp : p ≤ 2 * a.length) (p1 : ∀ i, i < p → bnd a i ≤ X) (hX : X < x) (hx : x ≤ bnd a p) (hb : x ≤ 1048576) :
    swP a x p ≤ 2 * a.length ∧ (∀ i, i < swP a x p → bnd a i ≤ x) ∧ (swP a x p < 2 * a.length → x < bnd a (swP a x p)) := by
  unfold swP
  split
  · rename_i e
    have hlt : p < 2 * a.length := by
      apply Classical.byContradiction
      intro h
      have h3 : bnd a p = 1048577 := by rw [show p = 2 * a.length from by omega]; exact bnd_over a
      omega
    refine ⟨hlt, fun i hi => ?_, fun h => ?_⟩
    · by_cases e2 : i = p
      · subst e2; omega
      · have := p1 i (by omega); omega
    · have := bnd_step ha hlt; omega
  · rename_i e
    refine ⟨hp, fun i hi => by have := p1 i hi; omega, fun h => by omega⟩

theorem inR_app (C : List Run) (r : Run) (y : Int) : inR (C ++ [r]) y = (inR C y || (decide (r.a ≤ y) && decide (y < r.b))) := by simp [inR]
theorem sw_step {f : Bool → Bool → Bool} {a b : List Run} (ha : rvalid a = true) (hb : rvalid b = true) {p q : Nat} {out : List Run} {o : Bool} {X : Int} {C : List Run} {s : Int} (h : SwAt f a b p q out o X C s) (hn : ¬ (p = 2 * a.length ∧ q = 2 * b.length)) :
    X < swX a b p q ∧ ∃ C' s', SwAt f a b (swP a (swX a b p q) p) (swP b (swX a b p q) q) (swOut (f (swP a (swX a b p q) p % 2 == 1) (swP b (swX a b p q) q % 2 == 1)) o out (swX a b p q)) (f (swP a (swX a b p q) p % 2 == 1) (swP b (swX a b p q) q % 2 == 1)) (swX a b p q) C' s' := by
  obtain ⟨hp, hq, p1, p2, q1, q2, hout, hap, hle, hso, ho, hmem⟩ := h
  have x1 : swX a b p q ≤ bnd a p := Int.min_le_left _ _
  have x2 : swX a b p q ≤ bnd b q := Int.min_le_right _ _
  have x3 : swX a b p q = bnd a p ∨ swX a b p q = bnd b q := by unfold swX; omega
  have hXb : swX a b p q ≤ 1048576 := by
    by_cases e : p < 2 * a.length
    · have := bnd_fits ha e; omega
    · have := bnd_fits hb (i := q) (by omega); omega
  have hX : X < swX a b p q := by
    rcases x3 with e | e
    · rw [e]
      refine p2 ?_
      apply Classical.byContradiction
      intro h
      have h3 : bnd a p = 1048577 := by rw [show p = 2 * a.length from by omega]; exact bnd_over a
      omega
    · rw [e]
      refine q2 ?_
      apply Classical.byContradiction
      intro h
      have h3 : bnd b q = 1048577 := by rw [show q = 2 * b.length from by omega]; exact bnd_over b
      omega
  obtain ⟨P1, P2, P3⟩ := swP_facts ha hp p1 hX x1 hXb
  obtain ⟨Q1, Q2, Q3⟩ := swP_facts hb hq q1 hX x2 hXb
  generalize swX a b p q = x at *
  generalize swP a x p = p' at *
  generalize swP b x q = q' at *
  have hbet : ∀ y, X ≤ y → y < x → f (inR a y) (inR b y) = o := fun y h1 h2 => by
    rw [inR_bnd ha hp (fun i hi => Int.le_trans (p1 i hi) h1) (fun _ => by omega), inR_bnd hb hq (fun i hi => Int.le_trans (q1 i hi) h1) (fun _ => by omega)]
    exact ho.symm
  have hat : f (inR a x) (inR b x) = f (p' % 2 == 1) (q' % 2 == 1) := by rw [inR_bnd ha P1 P2 P3, inR_bnd hb Q1 Q2 Q3]
  generalize hnow : f (p' % 2 == 1) (q' % 2 == 1) = now at *
  have hnoC : ∀ y, X ≤ y → inR C y = false := fun y h1 => by
    rw [Bool.eq_false_iff]
    intro hc
    obtain ⟨r, hr, h2, h3⟩ := inR_iff.1 hc
    have := hle r hr
    omega
  refine ⟨hX, ?_⟩
  have dich : ∀ y, y ≤ x → y ≤ X ∨ (X < y ∧ y < x) ∨ y = x := fun y hy => by omega
  cases hnw : now <;> cases hoo : o
  · -- neither
    refine ⟨C, s, P1, Q1, P2, P3, Q2, Q3, ?_, hap, fun r hr => by have := hle r hr; omega, fun h => (by cases h), by rw [hnow, hnw], fun y hy => ?_⟩
    · simp [swOut, hout, hoo]
    · rcases dich y hy with h | ⟨h1, h2⟩ | h
      · rw [hmem y h, hoo]
      · rw [hbet y (by omega) h2, hoo, hnoC y (by omega)]; simp
      · rw [h, hat, hnw, hnoC x (by omega)]; simp
  · -- the run ends
    have ⟨hs1, hs2⟩ := hso hoo
    refine ⟨C ++ [⟨s, x⟩], 0, P1, Q1, P2, P3, Q2, Q3, ?_, ⟨?_, ?_⟩, ?_, fun h => (by cases h), by rw [hnow, hnw], fun y hy => ?_⟩
    · simp [swOut, hout, hoo]
    · intro r hr
      rcases List.mem_append.1 hr with hr | hr
      · exact hap.1 r hr
      · simp at hr; subst hr; simp only; omega
    · rw [List.pairwise_append]
      refine ⟨hap.2, by simp, fun r hr t ht => ?_⟩
      simp at ht; subst ht; exact hs2 r hr
    · intro r hr
      rcases List.mem_append.1 hr with hr | hr
      · have := hle r hr; omega
      · simp at hr; subst hr; simp
    · rw [inR_app]
      rcases dich y hy with h | ⟨h1, h2⟩ | h
      · have : y < x := by omega
        rw [hmem y h, hoo]; simp [this]
      · rw [hbet y (by omega) h2, hoo, hnoC y (by omega)]; simp; omega
      · rw [h, hat, hnw, hnoC x (by omega)]; simp
  · -- a run begins
    refine ⟨C, x, P1, Q1, P2, P3, Q2, Q3, ?_, hap, fun r hr => by have := hle r hr; omega, fun _ => ⟨Int.le_refl _, fun r hr => by have := hle r hr; omega⟩, by rw [hnow, hnw], fun y hy => ?_⟩
    · simp [swOut, hout, hoo]
    · rcases dich y hy with h | ⟨h1, h2⟩ | h
      · rw [hmem y h, hoo]; simp; omega
      · rw [hbet y (by omega) h2, hoo, hnoC y (by omega)]; simp; omega
      · rw [h, hat, hnw]; simp
  · -- the run goes on
    have ⟨hs1, hs2⟩ := hso hoo
    refine ⟨C, s, P1, Q1, P2, P3, Q2, Q3, ?_, hap, fun r hr => by have := hle r hr; omega, fun _ => ⟨by omega, hs2⟩, by rw [hnow, hnw], fun y hy => ?_⟩
    · simp [swOut, hout, hoo]
    · rcases dich y hy with h | ⟨h1, h2⟩ | h
      · rw [hmem y h, hoo]
      · rw [hbet y (by omega) h2, hoo]; simp; omega
      · rw [h, hat, hnw]; simp; omega
theorem sw_all {f : Bool → Bool → Bool} (hf : f false false = false) {a b : List Run} (ha : rvalid a = true) (hb : rvalid b = true) : ∀ (n p q : Nat) (out : List Run) (o : Bool) (X : Int) (C : List Run) (s : Int), SwAt f a b p q out o X C s → 2 * a.length + 2 * b.length ≤ n + (p + q) →
    Apart (swF f a b n p q out o) ∧ ∀ y, inR (swF f a b n p q out o) y = f (inR a y) (inR b y) := by
  have fin : ∀ (p q : Nat) (out : List Run) (o : Bool) (X : Int) (C : List Run) (s : Int), SwAt f a b p q out o X C s → p = 2 * a.length ∧ q = 2 * b.length → Apart out ∧ ∀ y, inR out y = f (inR a y) (inR b y) := by
    rintro p q out o X C s ⟨hp, hq, p1, p2, q1, q2, hout, hap, hle, hso, ho, hmem⟩ ⟨e1, e2⟩
    have ho0 : o = false := by
      rw [ho, e1, e2]
      have h1 : (2 * a.length % 2 == 1) = false := by simp
      have h2 : (2 * b.length % 2 == 1) = false := by simp
      rw [h1, h2, hf]
    subst ho0
    simp only [Bool.false_eq_true, if_false] at hout
    subst hout
    refine ⟨hap, fun y => ?_⟩
    by_cases hy : y ≤ X
    · have := hmem y hy
      simp only [Bool.false_eq_true, false_and, or_false] at this
      exact (Bool.eq_iff_iff.2 this).symm
    · have h1 := inR_bnd ha hp (fun i hi => Int.le_trans (p1 i hi) (by omega : X ≤ y)) (fun h => by omega)
      have h2 := inR_bnd hb hq (fun i hi => Int.le_trans (q1 i hi) (by omega : X ≤ y)) (fun h => by omega)
      rw [h1, h2, ← ho, Bool.eq_false_iff]
      intro hc
      obtain ⟨r, hr, h3, h4⟩ := inR_iff.1 hc
      have := hle r hr
      omega
  intro n
  induction n with
  | zero =>
    intro p q out o X C s h hn
    exact fin p q out o X C s h ⟨by have := h.hp; have := h.hq; omega, by have := h.hp; have := h.hq; omega⟩
  | succ n ih =>
    intro p q out o X C s h hn
    unfold swF
    split
    · rename_i e; exact fin p q out o X C s h e
    · rename_i e
      obtain ⟨hX, C', s', h'⟩ := sw_step ha hb h e
      refine ih _ _ _ _ _ C' s' h' ?_
      have : p + q + 1 ≤ swP a (swX a b p q) p + swP b (swX a b p q) q := by
        unfold swP swX
        split <;> split <;> omega
      omega
theorem sweep_facts {f : Bool → Bool → Bool} (hf : f false false = false) {a b : List Run} (ha : rvalid a = true) (hb : rvalid b = true) : Apart (sweep f a b) ∧ ∀ y, inR (sweep f a b) y = f (inR a y) (inR b y) := by
  have e : sweep f a b = swF f a b (2 * a.length + 2 * b.length) 0 0 [] false := by simp [sweep, ha, hb]
  rw [e]
  refine sw_all hf ha hb _ 0 0 [] false (-1048577) [] 0 ⟨Nat.zero_le _, Nat.zero_le _, fun i hi => by omega, fun h => ?_, fun i hi => by omega, fun h => ?_, rfl, ⟨by simp, List.Pairwise.nil⟩, by simp, fun h => (by cases h), by simp [hf], fun y hy => ?_⟩ (by omega)
  · have := bnd_fits ha h; omega
  · have := bnd_fits hb h; omega
  · have h1 := inR_bnd ha (p := 0) (y := y) (Nat.zero_le _) (fun i hi => by omega) (fun h => by have := bnd_fits ha h; omega)
    have h2 := inR_bnd hb (p := 0) (y := y) (Nat.zero_le _) (fun i hi => by omega) (fun h => by have := bnd_fits hb h; omega)
    rw [h1, h2]
    simp [hf, inR]
theorem apart_bounds {l : List Run} (h : Apart l) {lo hi : Int} (hm : ∀ y, inR l y = true → lo ≤ y ∧ y < hi) : ∀ r ∈ l, lo ≤ r.a ∧ r.b ≤ hi := fun r hr => by
  have h1 := h.1 r hr
  have h2 := hm r.a (inR_iff.2 ⟨r, hr, Int.le_refl _, h1⟩)
  have h3 := hm (r.b - 1) (inR_iff.2 ⟨r, hr, by omega, by omega⟩)
  omega
theorem inR_fits {l : List Run} (h : rvalid l = true) {y : Int} (hy : inR l y = true) : -1048576 ≤ y ∧ y < 1048576 := by
  obtain ⟨r, hr, h1, h2⟩ := inR_iff.1 hy
  obtain ⟨i, hi⟩ := List.mem_iff_getElem?.1 hr
  have := fitsB_bd (rvalid_at h hi).2
  omega
theorem sweep_valid {f : Bool → Bool → Bool} (hf : f false false = false) {a b : List Run} (ha : rvalid a = true) (hb : rvalid b = true) : rvalid (sweep f a b) = true := by
  obtain ⟨h1, h2⟩ := sweep_facts hf ha hb
  refine rvalid_iff.2 ⟨h1, fun r hr => ?_⟩
  have h0 := h1.1 r hr
  have := apart_bounds h1 (lo := -1048576) (hi := 1048576) (fun y hy => by
    rw [h2] at hy
    cases e1 : inR a y with
    | true => exact inR_fits ha e1
    | false =>
      cases e2 : inR b y with
      | true => exact inR_fits hb e2
      | false => rw [e1, e2, hf] at hy; cases hy) r hr
  simp [fitsB]; omega
end Go.Proofs.YtdddknniooimmaaGreat

namespace Go.Proofs.YtdddknniooimmaaGreat
open Go.Abs

theorem apart_uniq : ∀ {l l' : List Run}, Apart l → Apart l' → (∀ y, inR l y = inR l' y) → l = l'
  | [], [], _, _, _ => rfl
  | [], s :: l', _, h', h => by
    have := h s.a
    have h1 : inR (s :: l') s.a = true := inR_iff.2 ⟨s, by simp, Int.le_refl _, h'.1 s (by simp)⟩
    rw [h1] at this; simp [inR] at this
  | r :: l, [], h', _, h => by
    have := h r.a
    have h1 : inR (r :: l) r.a = true := inR_iff.2 ⟨r, by simp, Int.le_refl _, h'.1 r (by simp)⟩
    rw [h1] at this; simp [inR] at this
  | r :: l, s :: l', h1, h2, h => by
    have p1 := List.pairwise_cons.1 h1.2
    have p2 := List.pairwise_cons.1 h2.2
    have r0 := h1.1 r (by simp)
    have s0 := h2.1 s (by simp)
    have a1 : s.a ≤ r.a := by
      have : inR (s :: l') r.a = true := by rw [← h]; exact inR_iff.2 ⟨r, by simp, Int.le_refl _, r0⟩
      obtain ⟨t, ht, h3, h4⟩ := inR_iff.1 this
      rcases List.mem_cons.1 ht with rfl | ht
      · exact h3
      · have := p2.1 t ht; omega
    have a2 : r.a ≤ s.a := by
      have : inR (r :: l) s.a = true := by rw [h]; exact inR_iff.2 ⟨s, by simp, Int.le_refl _, s0⟩
      obtain ⟨t, ht, h3, h4⟩ := inR_iff.1 this
      rcases List.mem_cons.1 ht with rfl | ht
      · exact h3
      · have := p1.1 t ht; omega
    have b1 : ¬ r.b < s.b := by
      intro hlt
      have : inR (r :: l) r.b = true := by rw [h]; exact inR_iff.2 ⟨s, by simp, by omega, hlt⟩
      obtain ⟨t, ht, h3, h4⟩ := inR_iff.1 this
      rcases List.mem_cons.1 ht with rfl | ht
      · omega
      · have := p1.1 t ht; omega
    have b2 : ¬ s.b < r.b := by
      intro hlt
      have : inR (s :: l') s.b = true := by rw [← h]; exact inR_iff.2 ⟨r, by simp, by omega, hlt⟩
      obtain ⟨t, ht, h3, h4⟩ := inR_iff.1 this
      rcases List.mem_cons.1 ht with rfl | ht
      · omega
      · have := p2.1 t ht; omega
    have e : r = s := by cases r; cases s; simp at *; omega
    subst e
    have ih : l = l' := by
      refine apart_uniq ⟨fun t ht => h1.1 t (by simp [ht]), p1.2⟩ ⟨fun t ht => h2.1 t (by simp [ht]), p2.2⟩ fun y => ?_
      have hy := h y
      simp only [inR, List.any_cons] at hy
      by_cases hin : r.a ≤ y ∧ y < r.b
      · have n1 : inR l y = false := by
          rw [Bool.eq_false_iff]; intro hc
          obtain ⟨t, ht, h3, h4⟩ := inR_iff.1 hc
          have := p1.1 t ht; omega
        have n2 : inR l' y = false := by
          rw [Bool.eq_false_iff]; intro hc
          obtain ⟨t, ht, h3, h4⟩ := inR_iff.1 hc
          have := p2.1 t ht; omega
        rw [n1, n2]
      · have e : (decide (r.a ≤ y) && decide (y < r.b)) = false := by
          rw [Bool.eq_false_iff]; intro hc; simp at hc; exact hin hc
        rw [e] at hy
        simpa [inR] using hy
    rw [ih]

def rowOf (R : List Row) (y : Int) : List Run := match R.find? (fun w => decide (w.y = y)) with
  | some w => w.runs
  | none => []
theorem rowOf_mem {R : List Row} (h : validR R = true) {w : Row} (hw : w ∈ R) : rowOf R w.y = w.runs := by
  unfold rowOf
  cases hf : R.find? (fun v => decide (v.y = w.y)) with
  | none => have := List.find?_eq_none.1 hf w hw; simp at this
  | some v =>
    have h1 := List.mem_of_find?_eq_some hf
    have h2 := List.find?_some hf
    have := rows_eq h h1 hw (by simpa using h2)
    rw [this]
theorem rowOf_none {R : List Row} {y : Int} (h : ∀ w ∈ R, w.y ≠ y) : rowOf R y = [] := by
  unfold rowOf
  cases hf : R.find? (fun v => decide (v.y = y)) with
  | none => rfl
  | some v => exact absurd (by simpa using List.find?_some hf) (h v (List.mem_of_find?_eq_some hf))
theorem rowOf_cases {R : List Row} (h : validR R = true) (y : Int) : (∃ w ∈ R, w.y = y ∧ rowOf R y = w.runs) ∨ ((∀ w ∈ R, w.y ≠ y) ∧ rowOf R y = []) := by
  by_cases e : ∃ w ∈ R, w.y = y
  · obtain ⟨w, hw, rfl⟩ := e
    exact .inl ⟨w, hw, rfl, rowOf_mem h hw⟩
  · have : ∀ w ∈ R, w.y ≠ y := fun w hw hy => e ⟨w, hw, hy⟩
    exact .inr ⟨this, rowOf_none this⟩
theorem rowOf_rv {R : List Row} (h : validR R = true) (y : Int) : rvalid (rowOf R y) = true := by
  rcases rowOf_cases h y with ⟨w, hw, _, e⟩ | ⟨_, e⟩
  · rw [e]; exact fine_rv (row_fine h hw).2
  · rw [e]; rfl
theorem rowOf_in {R : List Row} (h : validR R = true) (c : Cell) : c ∈ regCells R ↔ inR (rowOf R c.y) c.x = true := by
  rw [mem_regCells, inR_iff]
  constructor
  · rintro ⟨w, hw, hy, r, hr, h1, h2⟩
    rw [hy, rowOf_mem h hw]
    exact ⟨r, hr, h1, h2⟩
  · rintro ⟨r, hr, h1, h2⟩
    rcases rowOf_cases h c.y with ⟨w, hw, hy, e⟩ | ⟨_, e⟩
    · rw [e] at hr; exact ⟨w, hw, hy.symm, r, hr, h1, h2⟩
    · rw [e] at hr; cases hr
theorem rowOf_range {R : List Row} (h : validR R = true) {y x : Int} (hx : inR (rowOf R y) x = true) : -4096 ≤ y ∧ y < 4096 ∧ -4096 ≤ x ∧ x < 4096 := by
  have := cells_on h ((rowOf_in h ⟨x, y⟩).2 hx)
  simp [onG] at this; omega
theorem validR_pw {R : List Row} : validR R = true ↔ (∀ w ∈ R, (-4096 ≤ w.y ∧ w.y < 4096) ∧ fine w.runs = true) ∧ R.Pairwise fun a b => a.y < b.y := by
  constructor
  · intro h; exact ⟨fun w hw => row_fine h hw, rows_pw h⟩
  · rintro ⟨h1, h2⟩
    apply List.all_eq_true.2
    intro i hi
    have hi : i < R.length := by simpa using hi
    obtain ⟨r, hr⟩ := getq hi
    obtain ⟨p, hp⟩ : ∃ q, R[i - 1]? = some q := getq (by omega)
    obtain ⟨h3, h4⟩ := h1 r (List.mem_of_getElem? hr)
    rw [rowAt_some hr hp, h4]
    simp only [Bool.and_true, Bool.and_eq_true, Bool.or_eq_true, beq_iff_eq, decide_eq_true_eq]
    refine ⟨by simp [okB]; omega, ?_⟩
    by_cases e : i = 0
    · exact .inl e
    · right
      obtain ⟨hi', rfl⟩ := List.getElem?_eq_some_iff.1 hr
      obtain ⟨hp', rfl⟩ := List.getElem?_eq_some_iff.1 hp
      exact List.pairwise_iff_getElem.1 h2 (i - 1) i hp' hi' (by omega)

def opRow (f : Bool → Bool → Bool) (a b : List Row) (y : Int) : List Row := if sweep f (rowOf a y) (rowOf b y) = [] then [] else [⟨y, sweep f (rowOf a y) (rowOf b y)⟩]
def opOn (f : Bool → Bool → Bool) (a b : List Row) (ys : List Int) : List Row := ys.flatMap (opRow f a b)
def allY (a b : List Row) : List Int := (a.map Row.y ++ b.map Row.y).mergeSort (fun x y => decide (x ≤ y))
def dedup : List Int → List Int
  | [] => []
  | [x] => [x]
  | x :: y :: l => if x = y then dedup (y :: l) else x :: dedup (y :: l)
def opR (f : Bool → Bool → Bool) (a b : List Row) : List Row := if validR a && validR b then opOn f a b (dedup (allY a b)) else []
theorem apart_len : ∀ {l : List Run} {lo hi : Int}, Apart l → (∀ r ∈ l, lo ≤ r.a ∧ r.b ≤ hi) → l.length ≤ (hi - lo).toNat
  | [], _, _, _, _ => by simp
  | r :: l, lo, hi, h, hb => by
    have h1 := h.1 r (by simp)
    have h2 := List.pairwise_cons.1 h.2
    have h3 := hb r (by simp)
    have ih := apart_len (l := l) (lo := r.b) (hi := hi) ⟨fun q hq => h.1 q (by simp [hq]), h2.2⟩ (fun q hq => ⟨by have := h2.1 q hq; omega, (hb q (by simp [hq])).2⟩)
    simp only [List.length_cons]
    omega

end Go.Proofs.YtdddknniooimmaaGreat

namespace Go.Proofs.YtdddknniooimmaaGreat
open Go.Abs

abbrev bdRow (l : List Run) (p : Nat) : List D := [encRuns l, .int .i64 p]
theorem over_ok (l : List Run) (p : Nat) (hl : l.length ≤ 1000000) (hp : p ≤ 2 * l.length) : PX Tryz.prog 168 [.ptr 0 0 0] [(0, ⟨208, 2, [(bdRow l p).map .d]⟩)] [(0, 0)] [(0, ⟨208, 2, [(bdRow l p).map .d]⟩)] (.d (.bool (decide (p = 2 * l.length)))) := by
  have e1 := wrap_i64 (n := 2 * (l.length : Int)) (by omega) (by omega)
  have e2 : ((p : Int) == 2 * (l.length : Int)) = decide (p = 2 * l.length) := by
    rw [Bool.eq_iff_iff]; simp; omega
  refine px_of_awp cx (fn := Tryz.f168) (c := _) 1 Tryz.func168 rfl rfl (Nat.le_of_ble_eq_true rfl) rfl rfl fun Ls => ?_
  rw [Tryz.ntmps168]; refine Nav.imp ?_
  refine awp_region cx [] fun K hK => ?_
  simp [push_cast]
  repeat (refine And.intro (by clear hK; intros; first | omega | (simp_all; done) | (simp_all <;> omega)) ?_)
  refine hK _ ?_; clear hK K; refine Nav.imp ?_
  refine awp_region_draw cx mixed [] fun K hK => ?_
  simp [push_cast, e1, e2]
  repeat (refine And.intro (by clear hK; intros; first | omega | (simp_all; done) | (simp_all <;> omega)) ?_)
  refine hK _ _ (by kernel_rfl) ?_; clear hK K; refine Nav.imp ?_
  first | refine rx_r [(0, 0)] ?_ | refine rx_n [(0, 0)] ?_
  simp [push_cast]
  try decide
theorem inside_ok (l : List Run) (p : Nat) (hl : l.length ≤ 1000000) (hp : p ≤ 2 * l.length) : PX Tryz.prog 171 [.ptr 0 0 0] [(0, ⟨208, 2, [(bdRow l p).map .d]⟩)] [(0, 0)] [(0, ⟨208, 2, [(bdRow l p).map .d]⟩)] (.d (.bool (p % 2 == 1))) := by
  have e1 : Int.tmod (p : Int) 2 = (p : Int) % 2 := by rw [Int.tmod_eq_emod_of_nonneg (by omega)]
  have e2 := wrap_i64 (n := (p : Int) % 2) (by omega) (by omega)
  have e3 : ((p : Int) % 2 == 1) = (p % 2 == 1) := by rw [Bool.eq_iff_iff]; simp; omega
  refine px_of_awp cx (fn := Tryz.f171) (c := _) 1 Tryz.func171 rfl rfl (Nat.le_of_ble_eq_true rfl) rfl rfl fun Ls => ?_
  rw [Tryz.ntmps171]; refine Nav.imp ?_
  refine awp_region cx [] fun K hK => ?_
  simp [push_cast]
  repeat (refine And.intro (by clear hK; intros; first | omega | (simp_all; done) | (simp_all <;> omega)) ?_)
  refine hK _ ?_; clear hK K; refine Nav.imp ?_
  refine awp_region cx [] fun K hK => ?_
  simp [push_cast, e1, e2, e3]
  repeat (refine And.intro (by clear hK; intros; first | omega | (simp_all; done) | (simp_all <;> omega)) ?_)
  refine hK _ ?_; clear hK K; refine Nav.imp ?_
  first | refine rx_r [(0, 0)] ?_ | refine rx_n [(0, 0)] ?_
  simp [push_cast, e3]
  try decide
theorem next_ok (l : List Run) (p : Nat) (hl : l.length ≤ 1000000) (hp : p ≤ 2 * l.length) : PX Tryz.prog 169 [.ptr 0 0 0] [(0, ⟨208, 2, [(bdRow l p).map .d]⟩)] [(0, 0)] [(0, ⟨208, 2, [(bdRow l p).map .d]⟩)] (.d (.int .i64 (bnd l p))) := by
  have c1 := over_ok l p hl hp
  have c2 := inside_ok l p hl hp
  by_cases ho : p = 2 * l.length
  · have hb : bnd l p = 1048577 := by rw [ho, bnd_over]
    rw [decide_eq_true ho] at c1
    rw [hb]
    refine px_of_awp cx (fn := Tryz.f169) (c := _) 1 Tryz.func169 rfl rfl (Nat.le_of_ble_eq_true rfl) rfl rfl fun Ls => ?_
    rw [Tryz.ntmps169]; refine Nav.imp ?_
    refine awp_region cx [] fun K hK => ?_
    simp [push_cast]
    repeat (refine And.intro (by clear hK; intros; first | omega | (simp_all; done) | (simp_all <;> omega)) ?_)
    refine hK _ ?_; clear hK K; refine Nav.imp ?_
    refine awp_region cx [(1, .x ⟨[(0, 0)], [.ptr 0 0 0], [(0, ⟨208, 2, [(bdRow l p).map .d]⟩)], [(0, 0)], none, [(0, ⟨208, 2, [(bdRow l p).map .d]⟩)], .d (.bool true)⟩)] fun K hK => ?_
    simp [push_cast, c1]
    repeat (refine And.intro (by clear hK; intros; first | omega | (simp_all; done) | (simp_all <;> omega)) ?_)
    refine hK _ ?_; clear hK K; refine Nav.imp ?_
    refine awp_cond (b := true) (by simp [push_cast]) (fun hb => ?_) (fun hb => ?_) <;> (refine Nav.imp ?_)
    · refine awp_region cx [] fun K hK => ?_
      simp [push_cast]
      repeat (refine And.intro (by clear hK; intros; first | omega | (simp_all; done) | (simp_all <;> omega)) ?_)
      refine hK _ ?_; clear hK K; refine Nav.imp ?_
      first | refine rx_r [(0, 0)] ?_ | refine rx_n [(0, 0)] ?_
      simp [push_cast]
      try decide
    · simp at hb
  · rw [decide_eq_false ho] at c1
    obtain ⟨r, hr⟩ : ∃ r, l[p / 2]? = some r := getq (by omega)
    have hb : bnd l p = if p % 2 = 1 then r.b else r.a := by simp only [bnd, hr]
    have e1 : Int.tdiv (p : Int) 2 = (p : Int) / 2 := by rw [Int.tdiv_eq_ediv_of_nonneg (by omega)]
    have e2 := wrap_i64 (n := (p : Int) / 2) (by omega) (by omega)
    have e3 : ((p : Int) / 2).toNat = p / 2 := by omega
    have e4 : (0 : Int) ≤ (p : Int) / 2 := by omega
    obtain ⟨ra, rb⟩ := r
    simp only at hb
    rw [hb]
    clear hb
    by_cases hi : p % 2 = 1
    · have hi' : (p % 2 == 1) = true := by simpa using hi
      rw [hi'] at c2
      rw [if_pos hi]
      refine px_of_awp cx (fn := Tryz.f169) (c := _) 1 Tryz.func169 rfl rfl (Nat.le_of_ble_eq_true rfl) rfl rfl fun Ls => ?_
      rw [Tryz.ntmps169]; refine Nav.imp ?_
      refine awp_region cx [] fun K hK => ?_
      simp [push_cast]
      repeat (refine And.intro (by clear hK; intros; first | omega | (simp_all; done) | (simp_all <;> omega)) ?_)
      refine hK _ ?_; clear hK K; refine Nav.imp ?_
      refine awp_region cx [(1, .x ⟨[(0, 0)], [.ptr 0 0 0], [(0, ⟨208, 2, [(bdRow l p).map .d]⟩)], [(0, 0)], none, [(0, ⟨208, 2, [(bdRow l p).map .d]⟩)], .d (.bool false)⟩)] fun K hK => ?_
      simp [push_cast, c1]
      repeat (refine And.intro (by clear hK; intros; first | omega | (simp_all; done) | (simp_all <;> omega)) ?_)
      refine hK _ ?_; clear hK K; refine Nav.imp ?_
      refine awp_cond (b := false) (by simp [push_cast]) (fun hb => ?_) (fun hb => ?_) <;> (refine Nav.imp ?_)
      · simp at hb
      · refine awp_region cx [(1, .x ⟨[(0, 0)], [.ptr 0 0 0], [(0, ⟨208, 2, [(bdRow l p).map .d]⟩)], [(0, 0)], none, [(0, ⟨208, 2, [(bdRow l p).map .d]⟩)], .d (.bool true)⟩)] fun K hK => ?_
        simp [push_cast, c2]
        repeat (refine And.intro (by clear hK; intros; first | omega | (simp_all; done) | (simp_all <;> omega)) ?_)
        refine hK _ ?_; clear hK K; refine Nav.imp ?_
        refine awp_cond (b := true) (by simp [push_cast]) (fun hb => ?_) (fun hb => ?_) <;> (refine Nav.imp ?_)
        · refine awp_region_draw cx mixed [] fun K hK => ?_
          simp [push_cast, hr, e1, e2, e3, e4, Run.row]
          repeat (refine And.intro (by clear hK; intros; first | omega | (simp_all; done) | (simp_all <;> omega)) ?_)
          refine hK _ _ (by kernel_rfl) ?_; clear hK K; refine Nav.imp ?_
          first | refine rx_r [(0, 0)] ?_ | refine rx_n [(0, 0)] ?_
          simp [push_cast]
          try decide
        · simp at hb
    · have hi' : (p % 2 == 1) = false := by simpa using hi
      rw [hi'] at c2
      rw [if_neg hi]
      refine px_of_awp cx (fn := Tryz.f169) (c := _) 1 Tryz.func169 rfl rfl (Nat.le_of_ble_eq_true rfl) rfl rfl fun Ls => ?_
      rw [Tryz.ntmps169]; refine Nav.imp ?_
      refine awp_region cx [] fun K hK => ?_
      simp [push_cast]
      repeat (refine And.intro (by clear hK; intros; first | omega | (simp_all; done) | (simp_all <;> omega)) ?_)
      refine hK _ ?_; clear hK K; refine Nav.imp ?_
      refine awp_region cx [(1, .x ⟨[(0, 0)], [.ptr 0 0 0], [(0, ⟨208, 2, [(bdRow l p).map .d]⟩)], [(0, 0)], none, [(0, ⟨208, 2, [(bdRow l p).map .d]⟩)], .d (.bool false)⟩)] fun K hK => ?_
      simp [push_cast, c1]
      repeat (refine And.intro (by clear hK; intros; first | omega | (simp_all; done) | (simp_all <;> omega)) ?_)
      refine hK _ ?_; clear hK K; refine Nav.imp ?_
      refine awp_cond (b := false) (by simp [push_cast]) (fun hb => ?_) (fun hb => ?_) <;> (refine Nav.imp ?_)
      · simp at hb
      · refine awp_region cx [(1, .x ⟨[(0, 0)], [.ptr 0 0 0], [(0, ⟨208, 2, [(bdRow l p).map .d]⟩)], [(0, 0)], none, [(0, ⟨208, 2, [(bdRow l p).map .d]⟩)], .d (.bool false)⟩)] fun K hK => ?_
        simp [push_cast, c2]
        repeat (refine And.intro (by clear hK; intros; first | omega | (simp_all; done) | (simp_all <;> omega)) ?_)
        refine hK _ ?_; clear hK K; refine Nav.imp ?_
        refine awp_cond (b := false) (by simp [push_cast]) (fun hb => ?_) (fun hb => ?_) <;> (refine Nav.imp ?_)
        · simp at hb
        · refine awp_region_draw cx mixed [] fun K hK => ?_
          simp [push_cast, hr, e1, e2, e3, e4, Run.row]
          repeat (refine And.intro (by clear hK; intros; first | omega | (simp_all; done) | (simp_all <;> omega)) ?_)
          refine hK _ _ (by kernel_rfl) ?_; clear hK K; refine Nav.imp ?_
          first | refine rx_r [(0, 0)] ?_ | refine rx_n [(0, 0)] ?_
          simp [push_cast]
          try decide
theorem pass_ok (l : List Run) (p : Nat) (x : Int) (hl : l.length ≤ 1000000) (hp : p ≤ 2 * l.length) : PX Tryz.prog 170 [.ptr 0 0 0, .d (.int .i64 x)] [(0, ⟨208, 2, [(bdRow l p).map .d]⟩)] [(0, 0)] [(0, ⟨208, 2, [(bdRow l (swP l x p)).map .d]⟩)] (.tup []) := by
  have c1 := next_ok l p hl hp
  have e0 := wrap_i64 (n := (p : Int) + 1) (by omega) (by omega)
  have hs : swP l x p = if bnd l p = x then p + 1 else p := rfl
  generalize bnd l p = n at *
  rw [hs]
  refine px_of_awp cx (fn := Tryz.f170) (c := _) 1 Tryz.func170 rfl rfl (Nat.le_of_ble_eq_true rfl) rfl rfl fun Ls => ?_
  rw [Tryz.ntmps170]; refine Nav.imp ?_
  refine awp_region cx [(1, .x ⟨[(0, 0)], [.ptr 0 0 0], [(0, ⟨208, 2, [(bdRow l p).map .d]⟩)], [(0, 0)], none, [(0, ⟨208, 2, [(bdRow l p).map .d]⟩)], .d (.int .i64 n)⟩)] fun K hK => ?_
  simp [push_cast, c1]
  repeat (refine And.intro (by clear hK; intros; first | omega | (simp_all; done) | (simp_all <;> omega)) ?_)
  refine hK _ ?_; clear hK K; refine Nav.imp ?_
  refine awp_cond (b := n == x) (by simp [push_cast]) (fun hb => ?_) (fun hb => ?_) <;> (refine Nav.imp ?_)
  · have hb : n = x := by simpa using hb
    rw [if_pos hb]
    refine awp_region cx [] fun K hK => ?_
    simp [push_cast, e0]
    repeat (refine And.intro (by clear hK; intros; first | omega | (simp_all; done) | (simp_all <;> omega)) ?_)
    refine hK _ ?_; clear hK K; refine Nav.imp ?_
    first | refine rx_r [(0, 0)] ?_ | refine rx_n [(0, 0)] ?_
    simp [push_cast]
    try decide
  · have hb : ¬ n = x := by simpa using hb
    rw [if_neg hb]
    first | refine rx_r [(0, 0)] ?_ | refine rx_n [(0, 0)] ?_
    simp [push_cast]
    try decide
end Go.Proofs.YtdddknniooimmaaGreat

namespace Go.Proofs.YtdddknniooimmaaGreat
open Go.Abs

theorem swX_le {a b : List Run} (ha : rvalid a = true) (hb : rvalid b = true) {p q : Nat} (hp : p ≤ 2 * a.length) (hq : q ≤ 2 * b.length) (hn : ¬ (p = 2 * a.length ∧ q = 2 * b.length)) :
    swP a (swX a b p q) p ≤ 2 * a.length ∧ swP b (swX a b p q) q ≤ 2 * b.length ∧ p + q + 1 ≤ swP a (swX a b p q) p + swP b (swX a b p q) q ∧ p ≤ swP a (swX a b p q) p := by
  have x1 : swX a b p q ≤ bnd a p := Int.min_le_left _ _
  have x2 : swX a b p q ≤ bnd b q := Int.min_le_right _ _
  have x3 : swX a b p q = bnd a p ∨ swX a b p q = bnd b q := by unfold swX; omega
  have hXb : swX a b p q ≤ 1048576 := by
    by_cases e : p < 2 * a.length
    · have := bnd_fits ha e; omega
    · have := bnd_fits hb (i := q) (by omega); omega
  have k1 : bnd a p = swX a b p q → p < 2 * a.length := fun e => by
    apply Classical.byContradiction
    intro h
    have h3 : bnd a p = 1048577 := by rw [show p = 2 * a.length from by omega]; exact bnd_over a
    omega
  have k2 : bnd b q = swX a b p q → q < 2 * b.length := fun e => by
    apply Classical.byContradiction
    intro h
    have h3 : bnd b q = 1048577 := by rw [show q = 2 * b.length from by omega]; exact bnd_over b
    omega
  unfold swP
  refine ⟨?_, ?_, ?_, ?_⟩
  · split
    · rename_i e; have := k1 e; omega
    · exact hp
  · split
    · rename_i e; have := k2 e; omega
    · exact hq
  · split <;> split <;> omega
  · split <;> omega

set_option maxRecDepth 100000 in
set_option maxHeartbeats 4000000 in
theorem sweepc_ok (f : Bool → Bool → Bool) (g : FuncId) (hg : ∀ x y, PC Tryz.prog g [.bool x, .bool y] (.p (.bool (f x y)))) (a b : List Run) (hal : a.length ≤ 1000000) (hbl : b.length ≤ 1000000) (ha : rvalid a = true) (hb : rvalid b = true) :
    PC Tryz.prog 119 [encRuns a, encRuns b, .fn (.func g) []] (.p (encRuns (sweep f a b))) := by
  have c1 := rvalid_ok a hal
  have c2 := rvalid_ok b hbl
  rw [ha] at c1
  rw [hb] at c2
  have hres : sweep f a b = swF f a b (2 * a.length + 2 * b.length) 0 0 [] false := by simp [sweep, ha, hb]
  generalize sweep f a b = res at *
  refine pc_of_awp cx (fn := Tryz.f119) (c := _) Tryz.func119 rfl rfl (Nat.le_of_ble_eq_true rfl) ?_
  rw [Tryz.ntmps119]; refine Nav.imp ?_
  refine awp_region cx [] fun K hK => ?_
  simp [push_cast]
  repeat (refine And.intro (by clear hK; intros; first | omega | (simp_all; done) | (simp_all <;> omega)) ?_)
  refine hK _ ?_; clear hK K; refine Nav.imp ?_
  refine awp_region cx [(1, .p (.bool true)), (5, .p (.bool true))] fun K hK => ?_
  simp [push_cast, c1, c2]
  repeat (refine And.intro (by clear hK; intros; first | omega | (simp_all; done) | (simp_all <;> omega)) ?_)
  refine hK _ ?_; clear hK K; refine Nav.imp ?_
  refine awp_cond (b := false) (by simp [push_cast]) (fun hb => ?_) (fun hb => ?_) <;> (refine Nav.imp ?_)
  · simp at hb
  · clear hb
    refine awp_region cx [] fun K hK => ?_
    simp [push_cast]
    repeat (refine And.intro (by clear hK; intros; first | omega | (simp_all; done) | (simp_all <;> omega)) ?_)
    refine hK _ ?_; clear hK K; refine Nav.imp ?_
    refine awp_region cx [] fun K hK => ?_
    simp [push_cast]
    repeat (refine And.intro (by clear hK; intros; first | omega | (simp_all; done) | (simp_all <;> omega)) ?_)
    refine hK _ ?_; clear hK K; refine Nav.imp ?_
    refine awp_region cx [] fun K hK => ?_
    simp [push_cast]
    repeat (refine And.intro (by clear hK; intros; first | omega | (simp_all; done) | (simp_all <;> omega)) ?_)
    refine hK _ ?_; clear hK K; refine Nav.imp ?_
    refine awp_loop (β := Nat × Nat × List Run × Bool) (fun s => ⟨78, [(2, .d (.fn (.func g) [])), (7, .ptr 0 0 0), (8, .ptr 1 0 0), (9, .hs 2 0 s.2.2.1.length), (10, .d (.bool s.2.2.2))], [(0, some ⟨208, 2, [(bdRow a s.1).map .d]⟩), (1, some ⟨208, 2, [(bdRow b s.2.1).map .d]⟩), (2, some ⟨85, 2, dr (s.2.2.1.map Run.row)⟩)], 3⟩)
      (fun s => s.1 ≤ 2 * a.length ∧ s.2.1 ≤ 2 * b.length ∧ (∃ n, 2 * a.length + 2 * b.length ≤ n + (s.1 + s.2.1) ∧ swF f a b n s.1 s.2.1 s.2.2.1 s.2.2.2 = res) ∧ (s.2.2.2 = true → s.2.2.1 ≠ []) ∧ s.2.2.1.length ≤ s.1 + s.2.1) (fun s => 2 * a.length + 2 * b.length - (s.1 + s.2.1)) (0, 0, [], false) ?_ ⟨Nat.zero_le _, Nat.zero_le _, ⟨_, by simp only; omega, hres.symm⟩, by simp, by simp⟩ ?_
    · refine weak_of [(0, some 11), (1, some 14), (2, none)] rfl (by simp [upT, up, upL, push_cast]) (by simp [upH, upR, upL, up, push_cast]) (by simp [namesOk, push_cast]) (by simp [olds])
    · rintro ⟨p, q, out, o⟩ ⟨hp, hq, ⟨n, hn, hsw⟩, hone, hol⟩
      simp only at hp hq hn hsw hone hol
      clear hres
      have d1 := over_ok a p hal hp
      have d2 := over_ok b q hbl hq
      have d3 := next_ok a p hal hp
      have d4 := next_ok b q hbl hq
      refine Nav.imp ?_
      by_cases hover : p = 2 * a.length ∧ q = 2 * b.length
      · rw [decide_eq_true hover.1] at d1
        rw [decide_eq_true hover.2] at d2
        have hre : res = out := by
          rw [← hsw]
          cases n with
          | zero => rfl
          | succ n => unfold swF; rw [if_pos hover]
        rw [hre]
        refine awp_region cx [(1, .x ⟨[(0, 0)], [.ptr 0 0 0], [(0, ⟨208, 2, [(bdRow a p).map .d]⟩)], [(0, 0)], none, [(0, ⟨208, 2, [(bdRow a p).map .d]⟩)], .d (.bool true)⟩), (5, .x ⟨[(0, 1)], [.ptr 0 0 0], [(0, ⟨208, 2, [(bdRow b q).map .d]⟩)], [(0, 0)], none, [(0, ⟨208, 2, [(bdRow b q).map .d]⟩)], .d (.bool true)⟩)] fun K hK => ?_
        simp [push_cast, d1, d2]
        repeat (refine And.intro (by clear hK; intros; first | omega | (simp_all; done) | (simp_all <;> omega)) ?_)
        refine hK _ ?_; clear hK K; refine Nav.imp ?_
        refine awp_cond (b := false) (by simp [push_cast]) (fun hb => ?_) (fun hb => ?_) <;> (refine Nav.imp ?_)
        · simp at hb
        · refine awp_region cx [] fun K hK => ?_
          simp [push_cast]
          repeat (refine And.intro (by clear hK; intros; first | omega | (simp_all; done) | (simp_all <;> omega)) ?_)
          refine hK _ ?_; clear hK K; refine Nav.imp ?_
          have ht : List.take out.length (out.map Run.row) = out.map Run.row := List.take_of_length_le (by simp)
          simp [push_cast, ht]
      · apply cut_
        · intro key
          by_cases hpo : p = 2 * a.length
          · have hqo : ¬ q = 2 * b.length := fun e => hover ⟨hpo, e⟩
            rw [decide_eq_true hpo] at d1
            rw [decide_eq_false hqo] at d2
            refine awp_region cx [(1, .x ⟨[(0, 0)], [.ptr 0 0 0], [(0, ⟨208, 2, [(bdRow a p).map .d]⟩)], [(0, 0)], none, [(0, ⟨208, 2, [(bdRow a p).map .d]⟩)], .d (.bool true)⟩), (5, .x ⟨[(0, 1)], [.ptr 0 0 0], [(0, ⟨208, 2, [(bdRow b q).map .d]⟩)], [(0, 0)], none, [(0, ⟨208, 2, [(bdRow b q).map .d]⟩)], .d (.bool false)⟩)] fun K hK => ?_
            simp [push_cast, d1, d2]
            repeat (refine And.intro (by clear hK; intros; first | omega | (simp_all; done) | (simp_all <;> omega)) ?_)
            refine hK _ ?_; clear hK K; refine Nav.imp ?_
            refine awp_cond (b := true) (by simp [push_cast]) (fun hb => ?_) (fun hb => ?_) <;> (refine Nav.imp ?_)
            · refine awp_weak (s' := ⟨78, [(2, .d (.fn (.func g) [])), (7, .ptr 0 0 0), (8, .ptr 1 0 0), (9, .hs 2 0 out.length), (10, .d (.bool o))], [(0, some ⟨208, 2, [(bdRow a p).map .d]⟩), (1, some ⟨208, 2, [(bdRow b q).map .d]⟩), (2, some ⟨85, 2, dr (out.map Run.row)⟩)], 3⟩) ?_ key.h
              refine weak_of [(0, some 0), (1, some 1), (2, some 2)] rfl (by simp [upT, up, upL, push_cast]) (by simp [upH, upR, upL, up, push_cast]) (by simp [namesOk, push_cast]) (by simp [olds])
            · simp at hb
          · rw [decide_eq_false hpo] at d1
            refine awp_region cx [(1, .x ⟨[(0, 0)], [.ptr 0 0 0], [(0, ⟨208, 2, [(bdRow a p).map .d]⟩)], [(0, 0)], none, [(0, ⟨208, 2, [(bdRow a p).map .d]⟩)], .d (.bool false)⟩), (5, .skip)] fun K hK => ?_
            simp [push_cast, d1]
            repeat (refine And.intro (by clear hK; intros; first | omega | (simp_all; done) | (simp_all <;> omega)) ?_)
            refine hK _ ?_; clear hK K; refine Nav.imp ?_
            refine awp_cond (b := true) (by simp [push_cast]) (fun hb => ?_) (fun hb => ?_) <;> (refine Nav.imp ?_)
            · refine awp_weak (s' := ⟨78, [(2, .d (.fn (.func g) [])), (7, .ptr 0 0 0), (8, .ptr 1 0 0), (9, .hs 2 0 out.length), (10, .d (.bool o))], [(0, some ⟨208, 2, [(bdRow a p).map .d]⟩), (1, some ⟨208, 2, [(bdRow b q).map .d]⟩), (2, some ⟨85, 2, dr (out.map Run.row)⟩)], 3⟩) ?_ key.h
              refine weak_of [(0, some 0), (1, some 1), (2, some 2)] rfl (by simp [upT, up, upL, push_cast]) (by simp [upH, upR, upL, up, push_cast]) (by simp [namesOk, push_cast]) (by simp [olds])
            · simp at hb
        · obtain ⟨n, rfl⟩ : ∃ m, n = m + 1 := ⟨n - 1, by omega⟩
          obtain ⟨y1, y2, y3, y4⟩ := swX_le ha hb hp hq hover
          unfold swF at hsw
          rw [if_neg hover] at hsw
          have hx : swX a b p q = min (bnd a p) (bnd b q) := rfl
          have d5 := pass_ok a p (swX a b p q) hal hp
          have d6 := pass_ok b q (swX a b p q) hbl hq
          have d7 := inside_ok a (swP a (swX a b p q) p) hal y1
          have d8 := inside_ok b (swP b (swX a b p q) q) hbl y2
          have d9 := hg (swP a (swX a b p q) p % 2 == 1) (swP b (swX a b p q) q % 2 == 1)
          generalize swP a (swX a b p q) p = p' at *
          generalize swP b (swX a b p q) q = q' at *
          generalize swX a b p q = x at *
          generalize bnd a p = ba at *
          generalize bnd b q = bb at *
          generalize (p' % 2 == 1) = i1 at *
          generalize (q' % 2 == 1) = i2 at *
          generalize f i1 i2 = now at *
          refine Nav.imp ?_
          refine awp_region cx [(1, .x ⟨[(0, 0)], [.ptr 0 0 0], [(0, ⟨208, 2, [(bdRow a p).map .d]⟩)], [(0, 0)], none, [(0, ⟨208, 2, [(bdRow a p).map .d]⟩)], .d (.int .i64 ba)⟩), (3, .x ⟨[(0, 1)], [.ptr 0 0 0], [(0, ⟨208, 2, [(bdRow b q).map .d]⟩)], [(0, 0)], none, [(0, ⟨208, 2, [(bdRow b q).map .d]⟩)], .d (.int .i64 bb)⟩)] fun K hK => ?_
          simp [push_cast, d3, d4]
          repeat (refine And.intro (by clear hK; intros; first | omega | (simp_all; done) | (simp_all <;> omega)) ?_)
          refine hK _ ?_; clear hK K; refine Nav.imp ?_
          rw [← hx]
          refine awp_region cx [(2, .x ⟨[(0, 0)], [.ptr 0 0 0, .d (.int .i64 x)], [(0, ⟨208, 2, [(bdRow a p).map .d]⟩)], [(0, 0)], none, [(0, ⟨208, 2, [(bdRow a p').map .d]⟩)], .tup []⟩)] fun K hK => ?_
          simp [push_cast, d5]
          repeat (refine And.intro (by clear hK; intros; first | omega | (simp_all; done) | (simp_all <;> omega)) ?_)
          refine hK _ ?_; clear hK K; refine Nav.imp ?_
          refine awp_region cx [(2, .x ⟨[(0, 1)], [.ptr 0 0 0, .d (.int .i64 x)], [(0, ⟨208, 2, [(bdRow b q).map .d]⟩)], [(0, 0)], none, [(0, ⟨208, 2, [(bdRow b q').map .d]⟩)], .tup []⟩)] fun K hK => ?_
          simp [push_cast, d6]
          repeat (refine And.intro (by clear hK; intros; first | omega | (simp_all; done) | (simp_all <;> omega)) ?_)
          refine hK _ ?_; clear hK K; refine Nav.imp ?_
          refine awp_region cx [(2, .x ⟨[(0, 0)], [.ptr 0 0 0], [(0, ⟨208, 2, [(bdRow a p').map .d]⟩)], [(0, 0)], none, [(0, ⟨208, 2, [(bdRow a p').map .d]⟩)], .d (.bool i1)⟩), (4, .x ⟨[(0, 1)], [.ptr 0 0 0], [(0, ⟨208, 2, [(bdRow b q').map .d]⟩)], [(0, 0)], none, [(0, ⟨208, 2, [(bdRow b q').map .d]⟩)], .d (.bool i2)⟩), (5, .p (.bool now))] fun K hK => ?_
          simp [push_cast, d7, d8, d9]
          repeat (refine And.intro (by clear hK; intros; first | omega | (simp_all; done) | (simp_all <;> omega)) ?_)
          refine hK _ ?_; clear hK K; refine Nav.imp ?_
          clear d1 d2 d3 d4 d5 d6 d7 d8 d9 c1 c2
          have ho16 : (out.length + 1) * 16 ≤ 140737488355328 := by omega
          cases now with
          | true =>
            cases o with
            | false =>
              have hso : swOut true false out x = out ++ [⟨x, 0⟩] := by simp [swOut]
              rw [hso] at hsw
              refine awp_region cx [] fun K hK => ?_
              simp [push_cast]
              repeat (refine And.intro (by clear hK; intros; first | omega | (simp_all; done) | (simp_all <;> omega)) ?_)
              refine hK _ ?_; clear hK K; refine Nav.imp ?_
              refine awp_cond (b := true) (by simp [push_cast]) (fun hb => ?_) (fun hb => ?_) <;> (refine Nav.imp ?_)
              · refine awp_region cx [] fun K hK => ?_
                simp [push_cast, ho16]
                repeat (refine And.intro (by clear hK; intros; first | omega | (simp_all; done) | (simp_all <;> omega)) ?_)
                refine hK _ ?_; clear hK K; refine Nav.imp ?_
                refine awp_region cx [] fun K hK => ?_
                simp [push_cast]
                repeat (refine And.intro (by clear hK; intros; first | omega | (simp_all; done) | (simp_all <;> omega)) ?_)
                refine hK _ ?_; clear hK K; refine Nav.imp ?_
                refine ⟨(p', q', out ++ [⟨x, 0⟩], true), ⟨y1, y2, ⟨n, by simp only; omega, hsw⟩, by simp, by simp; omega⟩, by simp only; omega, ?_⟩
                refine weak_of [(0, some 0), (1, some 1), (2, some 32)] rfl (by simp [upT, up, upL, push_cast, Run.row]) (by simp [upH, upR, upL, up, push_cast, Run.row]) (by simp [namesOk, push_cast]) (by simp [olds])
              · simp at hb
            | true =>
              have hso : swOut true true out x = out := by simp [swOut]
              rw [hso] at hsw
              refine awp_region cx [] fun K hK => ?_
              simp [push_cast]
              repeat (refine And.intro (by clear hK; intros; first | omega | (simp_all; done) | (simp_all <;> omega)) ?_)
              refine hK _ ?_; clear hK K; refine Nav.imp ?_
              refine awp_cond (b := false) (by simp [push_cast]) (fun hb => ?_) (fun hb => ?_) <;> (refine Nav.imp ?_)
              · simp at hb
              · refine awp_region cx [] fun K hK => ?_
                simp [push_cast]
                repeat (refine And.intro (by clear hK; intros; first | omega | (simp_all; done) | (simp_all <;> omega)) ?_)
                refine hK _ ?_; clear hK K; refine Nav.imp ?_
                refine awp_cond (b := false) (by simp [push_cast]) (fun hb => ?_) (fun hb => ?_) <;> (refine Nav.imp ?_)
                · simp at hb
                · refine awp_region cx [] fun K hK => ?_
                  simp [push_cast]
                  repeat (refine And.intro (by clear hK; intros; first | omega | (simp_all; done) | (simp_all <;> omega)) ?_)
                  refine hK _ ?_; clear hK K; refine Nav.imp ?_
                  refine ⟨(p', q', out, true), ⟨y1, y2, ⟨n, by simp only; omega, hsw⟩, hone, by simp only; omega⟩, by simp only; omega, ?_⟩
                  refine weak_of [(0, some 0), (1, some 1), (2, some 2)] rfl (by simp [upT, up, upL, push_cast, Run.row]) (by simp [upH, upR, upL, up, push_cast, Run.row]) (by simp [namesOk, push_cast]) (by simp [olds])
          | false =>
            cases o with
            | false =>
              have hso : swOut false false out x = out := by simp [swOut]
              rw [hso] at hsw
              refine awp_region cx [] fun K hK => ?_
              simp [push_cast]
              repeat (refine And.intro (by clear hK; intros; first | omega | (simp_all; done) | (simp_all <;> omega)) ?_)
              refine hK _ ?_; clear hK K; refine Nav.imp ?_
              refine awp_cond (b := false) (by simp [push_cast]) (fun hb => ?_) (fun hb => ?_) <;> (refine Nav.imp ?_)
              · simp at hb
              · refine awp_region cx [] fun K hK => ?_
                simp [push_cast]
                repeat (refine And.intro (by clear hK; intros; first | omega | (simp_all; done) | (simp_all <;> omega)) ?_)
                refine hK _ ?_; clear hK K; refine Nav.imp ?_
                refine awp_cond (b := false) (by simp [push_cast]) (fun hb => ?_) (fun hb => ?_) <;> (refine Nav.imp ?_)
                · simp at hb
                · refine awp_region cx [] fun K hK => ?_
                  simp [push_cast]
                  repeat (refine And.intro (by clear hK; intros; first | omega | (simp_all; done) | (simp_all <;> omega)) ?_)
                  refine hK _ ?_; clear hK K; refine Nav.imp ?_
                  refine ⟨(p', q', out, false), ⟨y1, y2, ⟨n, by simp only; omega, hsw⟩, by simp, by simp only; omega⟩, by simp only; omega, ?_⟩
                  refine weak_of [(0, some 0), (1, some 1), (2, some 2)] rfl (by simp [upT, up, upL, push_cast, Run.row]) (by simp [upH, upR, upL, up, push_cast, Run.row]) (by simp [namesOk, push_cast]) (by simp [olds])
            | true =>
              obtain ⟨L, r, rfl⟩ : ∃ L r, out = L ++ [r] := by
                rcases List.eq_nil_or_concat out with e | ⟨L, r, e⟩
                · exact absurd e (hone rfl)
                · exact ⟨L, r, by rw [e, List.concat_eq_append]⟩
              obtain ⟨ra, rb⟩ := r
              have hso : swOut false true (L ++ [⟨ra, rb⟩]) x = L ++ [⟨ra, x⟩] := by simp [swOut]
              rw [hso] at hsw
              have hz : (L ++ [(⟨ra, rb⟩ : Run)])[L.length]? = some ⟨ra, rb⟩ := by simp
              have hlen : (L ++ [(⟨ra, rb⟩ : Run)]).length = L.length + 1 := by simp
              have hset : (dr ((L ++ [(⟨ra, rb⟩ : Run)]).map Run.row)).set L.length [AV.d (.int .i64 ra), AV.d (.int .i64 x)] = dr ((L ++ [(⟨ra, x⟩ : Run)]).map Run.row) := by simp [dr, Run.row]
              have hlen2 : (L ++ [(⟨ra, x⟩ : Run)]).length = (L ++ [(⟨ra, rb⟩ : Run)]).length := by simp
              have hne : L ++ [(⟨ra, x⟩ : Run)] ≠ [] := by simp
              generalize L ++ [(⟨ra, x⟩ : Run)] = C at *
              generalize L ++ [(⟨ra, rb⟩ : Run)] = B at *
              have e7 := wrap_i64 (n := (B.length : Int) - 1) (by omega) (by omega)
              have e8 : ((B.length : Int) - 1).toNat = L.length := by omega
              have e9 : (0 : Int) ≤ (B.length : Int) - 1 := by omega
              refine awp_region cx [] fun K hK => ?_
              simp [push_cast]
              repeat (refine And.intro (by clear hK; intros; first | omega | (simp_all; done) | (simp_all <;> omega)) ?_)
              refine hK _ ?_; clear hK K; refine Nav.imp ?_
              refine awp_cond (b := false) (by simp [push_cast]) (fun hb => ?_) (fun hb => ?_) <;> (refine Nav.imp ?_)
              · simp at hb
              · refine awp_region cx [] fun K hK => ?_
                simp [push_cast]
                repeat (refine And.intro (by clear hK; intros; first | omega | (simp_all; done) | (simp_all <;> omega)) ?_)
                refine hK _ ?_; clear hK K; refine Nav.imp ?_
                refine awp_cond (b := true) (by simp [push_cast]) (fun hb => ?_) (fun hb => ?_) <;> (refine Nav.imp ?_)
                · refine awp_region cx [] fun K hK => ?_
                  simp [push_cast, hz, e7, e8, e9, hset, Run.row]
                  repeat (refine And.intro (by clear hK; intros; first | omega | (simp_all; done) | (simp_all <;> omega)) ?_)
                  refine hK _ ?_; clear hK K; refine Nav.imp ?_
                  refine awp_region cx [] fun K hK => ?_
                  simp [push_cast]
                  repeat (refine And.intro (by clear hK; intros; first | omega | (simp_all; done) | (simp_all <;> omega)) ?_)
                  refine hK _ ?_; clear hK K; refine Nav.imp ?_
                  rw [← hlen2]
                  refine ⟨(p', q', C, false), ⟨y1, y2, ⟨n, by simp only; omega, hsw⟩, by simp, by simp only; omega⟩, by simp only; omega, ?_⟩
                  refine weak_of [(0, some 0), (1, some 1), (2, some 2)] rfl (by simp [upT, up, upL, push_cast, Run.row]) (by simp [upH, upR, upL, up, push_cast, Run.row]) (by simp [namesOk, push_cast]) (by simp [olds])
                · simp at hb

def fU (x y : Bool) : Bool := x || y
def fI (x y : Bool) : Bool := x && y
def fD (x y : Bool) : Bool := x && !y
theorem keepD (x y : Bool) : PC Tryz.prog 120 [.bool x, .bool y] (.p (.bool (fD x y))) := by
  refine pc_of_awp cx (fn := Tryz.f120) (c := _) Tryz.func120 rfl rfl (Nat.le_of_ble_eq_true rfl) ?_
  rw [Tryz.ntmps120]; refine Nav.imp ?_
  refine awp_region cx [] fun K hK => ?_
  simp [push_cast]
  repeat (refine And.intro (by clear hK; intros; first | omega | (simp_all; done) | (simp_all <;> omega)) ?_)
  refine hK _ ?_; clear hK K; refine Nav.imp ?_
  cases x <;> cases y
  · refine awp_region cx [] fun K hK => ?_
    simp [push_cast]
    repeat (refine And.intro (by clear hK; intros; first | omega | (simp_all; done) | (simp_all <;> omega)) ?_)
    refine hK _ ?_; clear hK K; refine Nav.imp ?_
    simp [push_cast, fD]
  · refine awp_region cx [] fun K hK => ?_
    simp [push_cast]
    repeat (refine And.intro (by clear hK; intros; first | omega | (simp_all; done) | (simp_all <;> omega)) ?_)
    refine hK _ ?_; clear hK K; refine Nav.imp ?_
    simp [push_cast, fD]
  · refine awp_region cx [] fun K hK => ?_
    simp [push_cast]
    repeat (refine And.intro (by clear hK; intros; first | omega | (simp_all; done) | (simp_all <;> omega)) ?_)
    refine hK _ ?_; clear hK K; refine Nav.imp ?_
    simp [push_cast, fD]
  · refine awp_region cx [] fun K hK => ?_
    simp [push_cast]
    repeat (refine And.intro (by clear hK; intros; first | omega | (simp_all; done) | (simp_all <;> omega)) ?_)
    refine hK _ ?_; clear hK K; refine Nav.imp ?_
    simp [push_cast, fD]
theorem subtract_ok (a b : List Run) (hal : a.length ≤ 1000000) (hbl : b.length ≤ 1000000) (ha : rvalid a = true) (hb : rvalid b = true) : PC Tryz.prog 56 [encRuns a, encRuns b] (.p (encRuns (sweep fD a b))) := by
  have c1 := sweepc_ok fD 120 keepD a b hal hbl ha hb
  generalize sweep fD a b = r at *
  refine pc_of_awp cx (fn := Tryz.f56) (c := _) Tryz.func56 rfl rfl (Nat.le_of_ble_eq_true rfl) ?_
  rw [Tryz.ntmps56]; refine Nav.imp ?_
  refine awp_region cx [] fun K hK => ?_
  simp [push_cast]
  repeat (refine And.intro (by clear hK; intros; first | omega | (simp_all; done) | (simp_all <;> omega)) ?_)
  refine hK _ ?_; clear hK K; refine Nav.imp ?_
  refine awp_region cx [(2, .p (encRuns r))] fun K hK => ?_
  simp [push_cast, c1]
  repeat (refine And.intro (by clear hK; intros; first | omega | (simp_all; done) | (simp_all <;> omega)) ?_)
  refine hK _ ?_; clear hK K; refine Nav.imp ?_
  simp [push_cast]
end Go.Proofs.YtdddknniooimmaaGreat
