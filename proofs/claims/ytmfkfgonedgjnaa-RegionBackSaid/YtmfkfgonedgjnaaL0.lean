/-
  The walks of this seat's functions and the plain laws behind them: part L0.
-/
import Derived.Test.YtmfkfgonedgjnaaBase
import Derived.Test.YtmfkfgonedgjnaaChecked
import Derived.Test.YtmfkfgonedgjnaaAbs16
import Derived.Test.YtmfkfgonedgjnaaAbs17
set_option linter.unusedVariables false
set_option linter.unusedSimpArgs false
set_option maxRecDepth 100000
namespace Go.Proofs.Ytmfkfgonedgjnaa
open Go.Abs

/-! What the laws are called with. -/
theorem cell_of {f : Nat} {ds : List D} (h : hasT Try.prog (f + 2) 35 ds) : ∃ c : Cell, ds = c.row := by
  obtain ⟨hl, hp⟩ := hasT_struct (n := 2) (ts := [3, 3]) Try.underlying35 (by kernel_rfl) rfl (by kernel_rfl) h
  obtain ⟨d0, r0, e0, h0, hp0⟩ := parts_one (by kernel_rfl) hp (by simp_all <;> omega)
  subst e0
  obtain ⟨d1, r1, e1, h1, hp1⟩ := parts_one (by kernel_rfl) hp0 (by simp_all <;> omega)
  subst e1
  simp only [parts] at hp1
  subst hp1
  obtain ⟨n0, e0, w0⟩ := hasT_int Try.underlying3 h0
  cases e0
  obtain ⟨n1, e1, w1⟩ := hasT_int Try.underlying3 h1
  cases e1
  exact ⟨⟨n0, n1⟩, rfl⟩
theorem cells_of {f : Nat} {d : D} (h : hasT Try.prog (f + 3) 31 [d]) : ∃ l : List Cell, d = encCells l := by
  obtain ⟨rows, he, _, hr⟩ := hasT_slice Try.underlying31 h
  cases he
  obtain ⟨l, rfl⟩ := rows_of (row := Cell.row) fun r hr' => cell_of (hr r hr')
  exact ⟨l, rfl⟩
theorem run_of {f : Nat} {ds : List D} (h : hasT Try.prog (f + 2) 60 ds) : ∃ c : Run, ds = c.row := by
  obtain ⟨hl, hp⟩ := hasT_struct (n := 2) (ts := [3, 3]) Try.underlying60 (by kernel_rfl) rfl (by kernel_rfl) h
  obtain ⟨d0, r0, e0, h0, hp0⟩ := parts_one (by kernel_rfl) hp (by simp_all <;> omega)
  subst e0
  obtain ⟨d1, r1, e1, h1, hp1⟩ := parts_one (by kernel_rfl) hp0 (by simp_all <;> omega)
  subst e1
  simp only [parts] at hp1
  subst hp1
  obtain ⟨n0, e0, w0⟩ := hasT_int Try.underlying3 h0
  cases e0
  obtain ⟨n1, e1, w1⟩ := hasT_int Try.underlying3 h1
  cases e1
  exact ⟨⟨n0, n1⟩, rfl⟩
theorem runs_of {f : Nat} {d : D} (h : hasT Try.prog (f + 3) 56 [d]) : ∃ l : List Run, d = encRuns l := by
  obtain ⟨rows, he, _, hr⟩ := hasT_slice Try.underlying56 h
  cases he
  obtain ⟨l, rfl⟩ := rows_of (row := Run.row) fun r hr' => run_of (hr r hr')
  exact ⟨l, rfl⟩
theorem regrows_of {f : Nat} {d : D} (h : hasT Try.prog (f + 5) 22 [d]) : ∃ l : List Row, d = encRows l := by
  obtain ⟨rows, he, _, hr⟩ := hasT_slice Try.underlying22 h
  cases he
  obtain ⟨l, rfl⟩ := rows_of (row := Row.row) fun r hr' => by
    obtain ⟨hl, hp⟩ := hasT_struct (n := 2) (ts := [3, 56]) Try.underlying58 (by kernel_rfl) rfl (by kernel_rfl) (hr r hr')
    obtain ⟨d0, r0, e0, h0, hp0⟩ := parts_one (by kernel_rfl) hp (by simp_all <;> omega)
    subst e0
    obtain ⟨d1, r1, e1, h1, hp1⟩ := parts_one (by kernel_rfl) hp0 (by simp_all <;> omega)
    subst e1
    simp only [parts] at hp1
    subst hp1
    obtain ⟨n0, e0, w0⟩ := hasT_int Try.underlying3 h0
    cases e0
    obtain ⟨c, rfl⟩ := runs_of h1
    exact ⟨⟨n0, c⟩, rfl⟩
  exact ⟨l, rfl⟩
theorem region_of {f : Nat} {ds : List D} (h : hasT Try.prog (f + 6) 24 ds) : ∃ l : List Row, ds = regRow l := by
  obtain ⟨hl, hp⟩ := hasT_struct (n := 1) (ts := [22]) Try.underlying24 (by kernel_rfl) rfl (by kernel_rfl) h
  obtain ⟨d0, r0, e0, h0, hp0⟩ := parts_one (by kernel_rfl) hp (by simp_all <;> omega)
  subst e0
  simp only [parts] at hp0
  subst hp0
  obtain ⟨c, rfl⟩ := regrows_of h0
  exact ⟨c, rfl⟩

theorem arg_region {x : D} (h : hasV Try.prog 24 x) : ∃ R : List Row, x = .agg (regRow R) := by
  simp only [hasV, Try.underlying24] at h
  obtain ⟨cs, rfl, h⟩ := h
  obtain ⟨s, rfl⟩ := region_of (f := 24) h
  exact ⟨s, rfl⟩
theorem arg_cells {x : D} (h : hasV Try.prog 31 x) : ∃ l : List Cell, x = encCells l := by
  simp only [hasV, Try.underlying31] at h
  exact cells_of (f := 27) h
theorem arg_cell {x : D} (h : hasV Try.prog 35 x) : ∃ c : Cell, x = .agg c.row := by
  simp only [hasV, Try.underlying35] at h
  obtain ⟨cs, rfl, h⟩ := h
  obtain ⟨s, rfl⟩ := cell_of (f := 28) h
  exact ⟨s, rfl⟩
theorem arg_int {x : D} (h : hasV Try.prog 3 x) : ∃ n : Int, x = .int .i64 n := by
  obtain ⟨n, rfl, _⟩ := hasV_int Try.underlying3 h
  exact ⟨n, rfl⟩

theorem own : ownKnob Try.prog.godebug = none := by kernel_rfl
theorem laidOut : laidOutB Try.prog = true := by kernel_rfl
def zeroCell : Value := .agg #[.int .i64 0, .int .i64 0]
def zeroReg : Value := .agg #[.slice none 0 0]
end Go.Proofs.Ytmfkfgonedgjnaa
