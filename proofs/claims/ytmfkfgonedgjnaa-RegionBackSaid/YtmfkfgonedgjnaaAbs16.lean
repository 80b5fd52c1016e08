/-
  The abstract machine, part 16: what an argument's datum looks like, by its type.
-/
import Derived.Test.YtmfkfgonedgjnaaAbs15
set_option linter.unusedVariables false
set_option linter.unusedSimpArgs false
namespace Go.Abs
open Go.RowKit

section
variable {P : Program} {f : Nat} {t : TypeId} {ds : List D}

theorem hasT_bool (hu : P.underlying t = some .bool) (h : hasT P (f + 1) t ds) : ∃ b, ds = [.bool b] := by
  simp only [hasT, hu] at h; exact h
theorem hasT_int {k : IntKind} (hu : P.underlying t = some (.int k)) (h : hasT P (f + 1) t ds) : ∃ n, ds = [.int k n] ∧ (Lit.int k n).wf = true := by
  simp only [hasT, hu] at h; exact h
theorem hasT_string (hu : P.underlying t = some .string) (h : hasT P (f + 1) t ds) : ∃ s : ByteArray, ds = [.str s] ∧ s.size ≤ maxLen := by
  simp only [hasT, hu] at h; exact h
theorem hasT_slice {e : TypeId} (hu : P.underlying t = some (.slice e)) (h : hasT P (f + 1) t ds) : ∃ rows, ds = [.sl rows] ∧ rows.length ≤ maxLen ∧ ∀ r ∈ rows, hasT P f e r := by
  simp only [hasT, hu] at h; exact h

/-- The fields of a struct, one after the other. -/
def parts (P : Program) (f : Nat) : List TypeId → List D → Prop
  | [], ds => ds = []
  | t :: ts, ds => hasT P f t (ds.take (P.cellsOf t)) ∧ parts P f ts (ds.drop (P.cellsOf t))

theorem parts_of (g : Nat) : ∀ (fs : List Field) (o : Nat) (ds : List D), tileB P fs o ds.length = true → (∀ fd ∈ fs, hasT P g fd.type ((ds.drop fd.offset).take (P.cellsOf fd.type))) → parts P g (fs.map (·.type)) (ds.drop o)
  | [], o, ds, ht, _ => by
    simp only [tileB, beq_iff_eq] at ht
    simp [parts, ht]
  | fd :: fs, o, ds, ht, h => by
    simp only [tileB, Bool.and_eq_true, beq_iff_eq] at ht
    have h0 := h fd List.mem_cons_self
    rw [ht.1] at h0
    simp only [List.map_cons, parts]
    refine ⟨h0, ?_⟩
    rw [List.drop_drop]
    exact parts_of g fs _ ds ht.2 fun x hx => h x (List.mem_cons_of_mem _ hx)

theorem hasT_struct {fs : Array Field} {n : Nat} {ts : List TypeId} (hu : P.underlying t = some (.struct fs)) (hn : P.cellsOf t = n) (hts : fs.toList.map (·.type) = ts) (ht : tileB P fs.toList 0 n = true) (h : hasT P (f + 1) t ds) : ds.length = n ∧ parts P f ts ds := by
  simp only [hasT, hu] at h
  obtain ⟨h1, h2⟩ := h
  rw [hn] at h1
  refine ⟨h1, ?_⟩
  have := parts_of f fs.toList 0 ds (by rw [h1]; exact ht) h2
  rw [hts] at this
  simpa using this

/-- A field of one cell. -/
theorem parts_one {ts : List TypeId} (hc : P.cellsOf t = 1) (h : parts P f (t :: ts) ds) (hl : 0 < ds.length) : ∃ d r, ds = d :: r ∧ hasT P f t [d] ∧ parts P f ts r := by
  cases ds with
  | nil => simp at hl
  | cons d r =>
    simp only [parts, hc] at h
    exact ⟨d, r, rfl, by simpa using h.1, by simpa using h.2⟩

theorem rows_of {α : Type} {row : α → List D} {rows : List (List D)} (h : ∀ r ∈ rows, ∃ a, r = row a) : ∃ l : List α, rows = l.map row := by
  induction rows with
  | nil => exact ⟨[], rfl⟩
  | cons r rs ih =>
    obtain ⟨a, rfl⟩ := h r List.mem_cons_self
    obtain ⟨l, rfl⟩ := ih fun x hx => h x (List.mem_cons_of_mem _ hx)
    exact ⟨a :: l, rfl⟩
end
end Go.Abs
