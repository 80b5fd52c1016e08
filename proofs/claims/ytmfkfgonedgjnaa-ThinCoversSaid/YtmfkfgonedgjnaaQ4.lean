/-
  The walks of this seat's functions and the plain laws behind them: part Q4.
-/
import Derived.Test.YtmfkfgonedgjnaaF1
import Derived.Test.YtmfkfgonedgjnaaW2
import Derived.Test.YtmfkfgonedgjnaaQ3
set_option linter.unusedVariables false
set_option linter.unusedSimpArgs false
namespace Go.Proofs.Ytmfkfgonedgjnaa
open Go.Abs

/-! Sizes. -/
theorem flat_bound {α β : Type} {f : α → List β} {k n : Nat} {l : List α} (hl : l.length ≤ n) (h : ∀ x ∈ l, (f x).length ≤ k) : (l.flatMap f).length ≤ n * k := by
  have : ∀ m : List α, (∀ x ∈ m, (f x).length ≤ k) → (m.flatMap f).length ≤ m.length * k := by
    intro m
    induction m with
    | nil => simp
    | cons x m ih =>
      intro h
      have h1 := h x (by simp)
      have h2 := ih fun y hy => h y (by simp [hy])
      rw [List.flatMap_cons, List.length_append, List.length_cons, Nat.succ_mul]
      omega
  exact Nat.le_trans (this l h) (Nat.mul_le_mul_right _ hl)
theorem few_rows (R : List Row) : (fewR R).length ≤ 12 ∧ ∀ w ∈ fewR R, w.runs.length ≤ 4 := by
  refine ⟨by simp [fewR]; omega, fun w hw => ?_⟩
  obtain ⟨v, _, rfl⟩ := List.mem_map.1 hw
  simp [fewW]; omega
theorem few_cells {R : List Row} (h : validR (fewR R) = true) : (regCells (fewR R)).length ≤ 393216 := by
  obtain ⟨h1, h2⟩ := few_rows R
  refine flat_bound (n := 12) (k := 32768) h1 fun w hw => flat_bound (n := 4) (k := 8192) (h2 w hw) fun r hr => ?_
  have := row_runs h hw hr
  rw [runCells_len]; omega
theorem few_cells' {R : List Row} (h : validR (fewR R) = true) : (regCells (fewR R)).length ≤ 1000000 := by have := few_cells h; omega
theorem few_cellsOf (R : List Row) : (cellsOf (fewR R)).length ≤ 1000000 := by
  unfold cellsOf
  split
  · rename_i h; exact few_cells' h
  · simp
theorem refL_lines (R : List Row) : refL (cellsOf R) = linesOf R := by
  unfold refL cellsOf linesOf
  split
  · rename_i h
    rw [(ref_trk h).1, (ref_trk h).2]
  · simp [upAll]
theorem lines_len {R : List Row} : (linesOf (fewR R)).length ≤ 96 := by
  unfold linesOf
  split
  · rename_i h
    obtain ⟨h1, h2⟩ := few_rows R
    have e1 : (regTrk (fewR R)).length ≤ 12 * (4 * 1) := flat_bound h1 fun w hw => flat_bound (h2 w hw) fun r hr => by unfold trkOf; split <;> simp
    have e2 : (regSng (fewR R)).length ≤ 12 * (4 * 1) := flat_bound h1 fun w hw => flat_bound (h2 w hw) fun r hr => by unfold sngOf; split <;> simp
    have e3 : (upAll (regSng (fewR R))).length ≤ (regSng (fewR R)).length := upAll_len
    rw [List.length_append]; omega
  · simp
theorem lines_cells {R : List Row} : ∀ t ∈ linesOf R, t.cells.length ≤ 8192 := by
  intro t ht
  unfold linesOf at ht
  split at ht
  · rename_i h
    rcases List.mem_append.1 ht with ht | ht
    · simp only [regTrk, rowTrk, List.mem_flatMap] at ht
      obtain ⟨w, hw, r, hr, ht⟩ := ht
      have := row_runs h hw hr
      unfold trkOf at ht
      split at ht
      · simp at ht
      · simp at ht; subst ht; simp only; rw [runCells_len]; omega
    · obtain ⟨c, hc, rfl, _⟩ := upAll_mem (fun c hc => cells_on h (sng_mem h hc)) ht
      have hg := onG_bd (cells_on h (sng_mem h hc))
      have := vN_len (regSng R) (4096 - c.y).toNat c
      simp only [trk, vch]; omega
  · simp at ht
end Go.Proofs.Ytmfkfgonedgjnaa
