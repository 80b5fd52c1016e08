/-
  The walks of this seat's functions and the plain laws behind them: part Q5.
-/
import Derived.Test.YtmfkfgonedgjnaaQ4
set_option linter.unusedVariables false
set_option linter.unusedSimpArgs false
namespace Go.Proofs.Ytmfkfgonedgjnaa
open Go.Abs

/-! Tracks of one cell are no neighbors. -/
def nbr (a b : Cell) : Bool := (decide (a.y = b.y) && (decide (a.x - b.x = 1) || decide (b.x - a.x = 1))) || (decide (a.x = b.x) && (decide (a.y - b.y = 1) || decide (b.y - a.y = 1)))
theorem sng_run {R : List Row} {c : Cell} (h : c ∈ regSng R) : ∃ w ∈ R, c.y = w.y ∧ ∃ r ∈ w.runs, r.a = c.x ∧ r.b = c.x + 1 := by
  simp only [regSng, rowSng, List.mem_flatMap] at h
  obtain ⟨w, hw, r, hr, hc⟩ := h
  unfold sngOf at hc
  split at hc
  · simp at hc; subst hc; exact ⟨w, hw, rfl, r, hr, rfl, by simpa⟩
  · simp at hc
theorem lines_one {R : List Row} {t : Track} {a : Cell} (ht : t ∈ linesOf R) (h1 : t.cells.length = 1) (ha : t.cells[0]? = some a) : validR R = true ∧ a ∈ regSng R ∧ vst (regSng R) a = true := by
  unfold linesOf at ht
  split at ht
  · rename_i h
    refine ⟨h, ?_⟩
    rcases List.mem_append.1 ht with ht | ht
    · simp only [regTrk, rowTrk, List.mem_flatMap] at ht
      obtain ⟨w, hw, r, hr, ht⟩ := ht
      have := row_runs h hw hr
      unfold trkOf at ht
      split at ht
      · simp at ht
      · simp at ht; subst ht
        simp only [runCells_len] at h1
        omega
    · obtain ⟨c, hc, htv⟩ := List.mem_flatMap.1 ht
      obtain ⟨h2, l, h3⟩ := upT_first hc (cells_on h (sng_mem h hc)) htv
      rw [h3] at ha
      have : c = a := by simpa using ha
      subst this
      refine ⟨hc, ?_⟩
      unfold vT at htv
      split at htv
      · assumption
      · simp at htv
  · simp at ht
theorem lines_nbr {R : List Row} {s t : Track} {a b : Cell} (hs : s ∈ linesOf R) (ht : t ∈ linesOf R) (h1 : s.cells.length = 1) (h2 : t.cells.length = 1) (ha : s.cells[0]? = some a) (hb : t.cells[0]? = some b) : nbr a b = false := by
  obtain ⟨hv, ha1, ha2⟩ := lines_one hs h1 ha
  obtain ⟨_, hb1, hb2⟩ := lines_one ht h2 hb
  rw [Bool.eq_false_iff]
  intro h
  simp [nbr] at h
  rcases h with ⟨hy, hx⟩ | ⟨hx, hy⟩
  · obtain ⟨w, hw, hwy, r, hr, r1, r2⟩ := sng_run ha1
    obtain ⟨w', hw', hwy', r', hr', r1', r2'⟩ := sng_run hb1
    have := rows_eq hv hw hw' (by omega)
    subst this
    have := runs_eq (row_fine hv hw).2 hr hr' (by omega) (by omega)
    subst this
    omega
  · simp only [vst, Bool.not_eq_true', decide_eq_false_iff_not] at ha2 hb2
    rcases hy with hy | hy
    · apply ha2
      have : (⟨a.x, a.y - 1⟩ : Cell) = b := by cases b; simp at hx hy ⊢; omega
      rw [this]; exact hb1
    · apply hb2
      have : (⟨b.x, b.y - 1⟩ : Cell) = a := by cases a; simp at hx hy ⊢; omega
      rw [this]; exact ha1
end Go.Proofs.Ytmfkfgonedgjnaa
