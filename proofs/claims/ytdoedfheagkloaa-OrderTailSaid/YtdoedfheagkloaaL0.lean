/-
  The walks of this seat's functions and the plain laws behind them: part L0.
-/
import Derived.Test.YtdoedfheagkloaaO15
import Derived.Test.YtdoedfheagkloaaAbs16
import Derived.Test.YtdoedfheagkloaaAbs17
set_option linter.unusedVariables false
set_option linter.unusedSimpArgs false
namespace Go.Proofs.Ytdoedfheagkloaa
open Go.Abs

theorem cell_of {f : Nat} {ds : List D} (h : hasT Try.prog (f + 2) 23 ds) : ∃ c : Cell, ds = c.row := by
  obtain ⟨hl, hp⟩ := hasT_struct (n := 2) (ts := [3, 3]) Try.underlying23 (by kernel_rfl) rfl (by kernel_rfl) h
  obtain ⟨d0, r0, e0, h0, hp0⟩ := parts_one (by kernel_rfl) hp (by simp_all <;> omega)
  subst e0
  obtain ⟨d1, r1, e1, h1, hp1⟩ := parts_one (by kernel_rfl) hp0 (by simp_all <;> omega)
  subst e1
  simp only [parts] at hp1
  subst hp1
  obtain ⟨n0, e0, w0⟩ := hasT_int Try.underlying3 h0
  cases e0
  obtain ⟨n1, e1, w1⟩ := hasT_int Try.underlying3 h1
  cases e1
  exact ⟨⟨n0, n1⟩, rfl⟩
theorem cells_of {f : Nat} {d : D} (h : hasT Try.prog (f + 3) 34 [d]) : ∃ l : List Cell, d = encCells l := by
  obtain ⟨rows, he, _, hr⟩ := hasT_slice Try.underlying34 h
  cases he
  obtain ⟨l, rfl⟩ := rows_of (row := Cell.row) fun r hr' => cell_of (hr r hr')
  exact ⟨l, rfl⟩

theorem tracks_of {f : Nat} {d : D} (h : hasT Try.prog (f + 5) 24 [d]) : ∃ l : List Track, d = encTracks l := by
  obtain ⟨rows, he, _, hr⟩ := hasT_slice Try.underlying24 h
  cases he
  obtain ⟨l, rfl⟩ := rows_of (row := Track.row) fun r hr' => by
    obtain ⟨hl, hp⟩ := hasT_struct (n := 3) (ts := [3, 4, 34]) Try.underlying36 (by kernel_rfl) rfl (by kernel_rfl) (hr r hr')
    obtain ⟨d0, r0, e0, h0, hp0⟩ := parts_one (by kernel_rfl) hp (by simp_all <;> omega)
    subst e0
    obtain ⟨d1, r1, e1, h1, hp1⟩ := parts_one (by kernel_rfl) hp0 (by simp_all <;> omega)
    subst e1
    obtain ⟨d2, r2, e2, h2, hp2⟩ := parts_one (by kernel_rfl) hp1 (by simp_all <;> omega)
    subst e2
    simp only [parts] at hp2
    subst hp2
    obtain ⟨n0, e0, w0⟩ := hasT_int Try.underlying3 h0
    cases e0
    obtain ⟨n1, e1⟩ := hasT_bool Try.underlying4 h1
    cases e1
    obtain ⟨c, rfl⟩ := cells_of h2
    exact ⟨⟨n0, n1, c⟩, rfl⟩
  exact ⟨l, rfl⟩

theorem arg_tracks {x : D} (h : hasV Try.prog 24 x) : ∃ l : List Track, x = encTracks l := by
  simp only [hasV, Try.underlying24] at h
  exact tracks_of (f := 25) h
theorem arg_cell {x : D} (h : hasV Try.prog 23 x) : ∃ c : Cell, x = .agg c.row := by
  simp only [hasV, Try.underlying23] at h
  obtain ⟨cs, rfl, h⟩ := h
  obtain ⟨s, rfl⟩ := cell_of (f := 28) h
  exact ⟨s, rfl⟩
theorem arg_int {x : D} (h : hasV Try.prog 3 x) : ∃ n : Int, x = .int .i64 n := by
  obtain ⟨n, rfl, _⟩ := hasV_int Try.underlying3 h
  exact ⟨n, rfl⟩
theorem arg_u8 {x : D} (h : hasV Try.prog 5 x) : ∃ n : Int, x = .int .u8 n ∧ (0 ≤ n ∧ n ≤ 255) := by
  obtain ⟨n, rfl, hw⟩ := hasV_int Try.underlying5 h
  exact ⟨n, rfl, wf_u8 hw⟩

theorem own : ownKnob Try.prog.godebug = none := by kernel_rfl
theorem laidOut : laidOutB Try.prog = true := by kernel_rfl
def zeroCell : Value := .agg #[.int .i64 0, .int .i64 0]
end Go.Proofs.Ytdoedfheagkloaa
