/-
  The walks of this seat's functions and the plain laws behind them: part G1.
-/
import Derived.Test.YtmfkfgonedgjnaaQ2
set_option linter.unusedVariables false
set_option linter.unusedSimpArgs false
namespace Go.Proofs.Ytmfkfgonedgjnaa
open Go.Abs

/-! The region of cells: what is built of them, one after the other. -/
def addRun (l : List Run) (x : Int) : List Run := match l.getLast? with
  | none => [⟨x, x + 1⟩]
  | some r => if r.b < x then l ++ [⟨x, x + 1⟩] else l.dropLast ++ [⟨r.a, max r.b (x + 1)⟩]
def addC (R : List Row) (c : Cell) : List Row := match R.getLast? with
  | none => [⟨c.y, [⟨c.x, c.x + 1⟩]⟩]
  | some w => if w.y = c.y then R.dropLast ++ [⟨w.y, addRun w.runs c.x⟩] else R ++ [⟨c.y, [⟨c.x, c.x + 1⟩]⟩]
def build (l : List Cell) : List Row := l.foldl addC []

theorem addRun_nil (x : Int) : addRun [] x = [⟨x, x + 1⟩] := rfl
theorem addRun_end (l : List Run) (r : Run) (x : Int) : addRun (l ++ [r]) x = if r.b < x then l ++ [r] ++ [⟨x, x + 1⟩] else l ++ [⟨r.a, max r.b (x + 1)⟩] := by simp [addRun]
theorem addC_nil (c : Cell) : addC [] c = [⟨c.y, [⟨c.x, c.x + 1⟩]⟩] := rfl
theorem addC_end (R : List Row) (w : Row) (c : Cell) : addC (R ++ [w]) c = if w.y = c.y then R ++ [⟨w.y, addRun w.runs c.x⟩] else R ++ [w] ++ [⟨c.y, [⟨c.x, c.x + 1⟩]⟩] := by simp [addC]
theorem addC_len (R : List Row) (c : Cell) : (addC R c).length ≤ R.length + 1 := by
  rcases List.eq_nil_or_concat R with rfl | ⟨R', w, rfl⟩
  · simp [addC_nil]
  · rw [List.concat_eq_append, addC_end]; split <;> simp
theorem build_take {l : List Cell} {k : Nat} {c : Cell} (h : l[k]? = some c) : build (l.take (k + 1)) = addC (build (l.take k)) c := by
  simp [build, take_get h]

/-- A run, drawn cell by cell. -/
theorem build_run (P : List Row) (L : List Run) (y a : Int) : ∀ (n j : Nat), ((List.range n).map fun k : Nat => (⟨a + (j + 1) + k, y⟩ : Cell)).foldl addC (P ++ [⟨y, L ++ [⟨a, a + j + 1⟩]⟩]) = P ++ [⟨y, L ++ [⟨a, a + j + 1 + n⟩]⟩]
  | 0, j => by simp
  | n + 1, j => by
    rw [List.range_succ_eq_map, List.map_cons, List.foldl_cons, addC_end, addRun_end]
    simp only [if_true, Int.natCast_zero, Int.add_zero]
    have h1 : ¬ a + (j : Int) + 1 < a + ((j : Int) + 1) := by omega
    have h2 : max (a + (j : Int) + 1) (a + ((j : Int) + 1) + 1) = a + ((j + 1 : Nat) : Int) + 1 := by omega
    rw [if_neg h1, h2]
    have := build_run P L y a n (j + 1)
    rw [List.map_map]
    have e : ((fun k : Nat => (⟨a + ((j : Int) + 1) + k, y⟩ : Cell)) ∘ Nat.succ) = fun k : Nat => (⟨a + (((j + 1 : Nat) : Int) + 1) + k, y⟩ : Cell) := by
      funext k; simp; omega
    rw [e, this]
    congr 4
    simp; omega
theorem run_cells {y : Int} {r : Run} (h : r.a < r.b) : ∃ n : Nat, r.b = r.a + 1 + n ∧ runCells y r = ⟨r.a, y⟩ :: (List.range n).map fun k : Nat => (⟨r.a + ((0 : Nat) + 1) + k, y⟩ : Cell) := by
  refine ⟨(r.b - r.a - 1).toNat, by omega, ?_⟩
  unfold runCells
  rw [show (r.b - r.a).toNat = (r.b - r.a - 1).toNat + 1 from by omega, List.range_succ_eq_map, List.map_cons, List.map_map]
  congr 1
  · simp
  · apply List.map_congr_left; intro k _; simp; omega
/-- .. in a row that has begun. -/
theorem build_next (P : List Row) (L : List Run) (y : Int) (r : Run) (h : r.a < r.b) (hL : L ≠ []) (hgap : ∀ p, L.getLast? = some p → p.b < r.a) : (runCells y r).foldl addC (P ++ [⟨y, L⟩]) = P ++ [⟨y, L ++ [r]⟩] := by
  obtain ⟨n, hn, hc⟩ := run_cells (y := y) h
  obtain ⟨L', p, rfl⟩ : ∃ L' p, L = L' ++ [p] := by
    rcases List.eq_nil_or_concat L with e | ⟨L', p, e⟩
    · exact absurd e hL
    · exact ⟨L', p, by rw [e, List.concat_eq_append]⟩
  have := hgap p (by simp)
  rw [hc, List.foldl_cons, addC_end, addRun_end]
  simp only [if_true]
  rw [if_pos this]
  have h2 := build_run P (L' ++ [p]) y r.a n 0
  simp only [Int.natCast_zero, Int.add_zero, Int.zero_add] at h2 ⊢
  rw [h2, ← hn]
theorem build_first (P : List Row) (y : Int) (r : Run) (h : r.a < r.b) (hP : ∀ w, P.getLast? = some w → w.y ≠ y) : (runCells y r).foldl addC P = P ++ [⟨y, [r]⟩] := by
  obtain ⟨n, hn, hc⟩ := run_cells (y := y) h
  rw [hc, List.foldl_cons]
  have h1 : addC P ⟨r.a, y⟩ = P ++ [⟨y, [] ++ [⟨r.a, r.a + (0 : Nat) + 1⟩]⟩] := by
    rcases List.eq_nil_or_concat P with rfl | ⟨P', w, rfl⟩
    · simp [addC_nil]
    · rw [List.concat_eq_append] at hP ⊢
      have := hP w (by simp)
      rw [addC_end, if_neg this]; simp
  have h2 := build_run P [] y r.a n 0
  rw [h1]
  simp only [Int.natCast_zero, Int.add_zero, Int.zero_add, List.nil_append] at h2 ⊢
  rw [h2, ← hn]
theorem build_runs (P : List Row) (y : Int) : ∀ (l L : List Run), L ≠ [] → fine (L ++ l) = true → (l.flatMap (runCells y)).foldl addC (P ++ [⟨y, L⟩]) = P ++ [⟨y, L ++ l⟩]
  | [], L, _, _ => by simp
  | r :: l, L, hL, hf => by
    rw [List.flatMap_cons, List.foldl_append]
    have hr : (L ++ r :: l)[L.length]? = some r := by simp
    have h1 := fine_at hf hr
    rw [build_next P L y r h1.2.1 hL]
    · have := build_runs P y l (L ++ [r]) (by simp) (by simpa using hf)
      rw [this]; simp
    · intro p hp
      rw [List.getLast?_eq_getElem?] at hp
      have hlp : 0 < L.length := List.length_pos_iff.2 hL
      refine fine_gap hf (k := L.length - 1) (by rw [show L.length - 1 + 1 = L.length from by omega]; exact hr) ?_
      rw [List.getElem?_append_left (by omega)]; exact hp
theorem build_row (P : List Row) (w : Row) (hw : fine w.runs = true) (hP : ∀ v, P.getLast? = some v → v.y ≠ w.y) : (rowCells w).foldl addC P = P ++ [w] := by
  obtain ⟨y, l⟩ := w
  cases l with
  | nil => simp [fine] at hw
  | cons r l =>
    have h1 := fine_at hw (k := 0) (r := r) (by simp)
    simp only [rowCells, List.flatMap_cons, List.foldl_append]
    rw [build_first P y r h1.2.1 hP, build_runs P y l [r] (by simp) hw]
    simp
theorem build_rows {R : List Row} (h : validR R = true) : ∀ (n : Nat), n ≤ R.length → ((R.take n).flatMap rowCells).foldl addC [] = R.take n
  | 0, _ => by simp
  | n + 1, hn => by
    obtain ⟨w, hw⟩ : ∃ w, R[n]? = some w := getq (by omega)
    rw [take_get hw, List.flatMap_append, List.foldl_append, build_rows h n (by omega)]
    simp only [List.flatMap_cons, List.flatMap_nil, List.append_nil]
    refine build_row _ w (validR_at h hw).2 fun v hv => ?_
    rw [List.getLast?_eq_getElem?, List.length_take, Nat.min_eq_left (by omega)] at hv
    by_cases e : n = 0
    · subst e; simp at hv
    · rw [List.getElem?_take, if_pos (by omega)] at hv
      have := validR_gap h (i := n - 1) (by rw [show n - 1 + 1 = n from by omega]; exact hw) hv
      omega
/-- The region of the cells of a valid region is that region. -/
theorem build_cells {R : List Row} (h : validR R = true) : build (regCells R) = R := by
  have := build_rows h R.length (Nat.le_refl _)
  rwa [List.take_length] at this

/-! The order of cells by rows. -/
def leY (a b : Cell) : Bool := decide (a.y < b.y) || (decide (a.y = b.y) && decide (a.x ≤ b.x))
def sortY (l : List Cell) : List Cell := l.mergeSort leY
theorem sortY_perm (l : List Cell) : (sortY l).Perm l := List.mergeSort_perm l leY
theorem sortY_le (l : List Cell) : (sortY l).Pairwise fun a b => leY a b = true :=
  List.pairwise_mergeSort (fun a b c h1 h2 => by simp [leY] at *; omega) (fun a b => by simp [leY]; omega) l
theorem leY_anti {a b : Cell} (h1 : leY a b = true) (h2 : leY b a = true) : a = b := by
  cases a; cases b; simp [leY] at *; omega
theorem sortedY_uniq : ∀ {l l' : List Cell}, l.Perm l' → (l.Pairwise fun a b => leY a b = true) → (l'.Pairwise fun a b => leY a b = true) → l = l'
  | [], l', h, _, _ => by have := h.length_eq; simp at this; exact (List.length_eq_zero_iff.1 this.symm).symm
  | a :: l, [], h, _, _ => by have := h.length_eq; simp at this
  | a :: l, b :: l', h, h2, h3 => by
    have hab : a = b := by
      have ha : a ∈ b :: l' := h.subset (by simp)
      have hb : b ∈ a :: l := h.symm.subset (by simp)
      rcases List.mem_cons.1 ha with e | ha
      · exact e
      · rcases List.mem_cons.1 hb with e | hb
        · exact e.symm
        · exact leY_anti ((List.pairwise_cons.1 h2).1 b hb) ((List.pairwise_cons.1 h3).1 a ha)
    subst hab
    rw [sortedY_uniq h.cons_inv (List.pairwise_cons.1 h2).2 (List.pairwise_cons.1 h3).2]
theorem leY_of_lt {a b : Cell} (h : ltY a b) : leY a b = true := by simp [leY, ltY] at *; omega
/-- Any list of the cells of a valid region, each once, is sorted into them. -/
theorem sortY_cells {R : List Row} (h : validR R = true) {l : List Cell} (hp : l.Perm (regCells R)) : sortY l = regCells R :=
  sortedY_uniq ((sortY_perm l).trans hp) (sortY_le l) ((cells_pw h).imp fun h => leY_of_lt h)
end Go.Proofs.Ytmfkfgonedgjnaa
