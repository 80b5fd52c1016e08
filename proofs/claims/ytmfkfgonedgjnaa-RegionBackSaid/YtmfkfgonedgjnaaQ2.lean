/-
  The walks of this seat's functions and the plain laws behind them: part Q2.
-/
import Derived.Test.YtmfkfgonedgjnaaQ1
set_option linter.unusedVariables false
set_option linter.unusedSimpArgs false
namespace Go.Proofs.Ytmfkfgonedgjnaa
open Go.Abs

/-! The orders of cells. -/
def ltY (a b : Cell) : Prop := a.y < b.y ∨ a.y = b.y ∧ a.x < b.x
def ltX (a b : Cell) : Prop := a.x < b.x ∨ a.x = b.x ∧ a.y < b.y
def leX (a b : Cell) : Bool := decide (a.x < b.x) || (decide (a.x = b.x) && decide (a.y ≤ b.y))
def sortX (l : List Cell) : List Cell := l.mergeSort leX

theorem sortX_perm (l : List Cell) : (sortX l).Perm l := List.mergeSort_perm l leX
theorem sortX_le (l : List Cell) : (sortX l).Pairwise fun a b => leX a b = true :=
  List.pairwise_mergeSort (fun a b c h1 h2 => by simp [leX] at *; omega) (fun a b => by simp [leX]; omega) l

theorem rows_pw {R : List Row} (h : validR R = true) : R.Pairwise fun a b => a.y < b.y := by
  rw [List.pairwise_iff_getElem]
  intro i j hi hj hij
  exact rows_lt h j i R[j] R[i] hij (List.getElem?_eq_getElem hj) (List.getElem?_eq_getElem hi)
theorem runs_pw {l : List Run} (h : fine l = true) : l.Pairwise fun p r => p.b < r.a := by
  rw [List.pairwise_iff_getElem]
  intro i j hi hj hij
  exact runs_lt h j i l[j] l[i] hij (List.getElem?_eq_getElem hj) (List.getElem?_eq_getElem hi)
theorem mem_sngOf {y : Int} {r : Run} {c : Cell} (h : c ∈ sngOf y r) (hr : r.a < r.b) : c.y = y ∧ r.a ≤ c.x ∧ c.x < r.b := by
  unfold sngOf at h
  split at h
  · simp at h; subst h; exact ⟨rfl, Int.le_refl _, hr⟩
  · simp at h

theorem sng_pw {R : List Row} (h : validR R = true) : (regSng R).Pairwise ltY := by
  unfold regSng
  rw [List.pairwise_flatMap]
  refine ⟨fun w hw => ?_, ?_⟩
  · unfold rowSng
    rw [List.pairwise_flatMap]
    refine ⟨fun r hr => ?_, ?_⟩
    · unfold sngOf; split <;> simp
    · have := runs_pw (row_fine h hw).2
      refine List.Pairwise.imp_of_mem (fun {p r} hp hr hpr => ?_) this
      intro a ha b hb
      have h1 := mem_sngOf ha (row_runs h hw hp).2.1
      have h2 := mem_sngOf hb (row_runs h hw hr).2.1
      exact .inr ⟨by omega, by omega⟩
  · refine List.Pairwise.imp_of_mem (fun {w v} hw hv hwv => ?_) (rows_pw h)
    intro a ha b hb
    simp only [rowSng, List.mem_flatMap] at ha hb
    obtain ⟨r, hr, ha⟩ := ha
    obtain ⟨p, hp, hb⟩ := hb
    have h1 := mem_sngOf ha (row_runs h hw hr).2.1
    have h2 := mem_sngOf hb (row_runs h hv hp).2.1
    exact .inl (by omega)

theorem cells_pw {R : List Row} (h : validR R = true) : (regCells R).Pairwise ltY := by
  unfold regCells
  rw [List.pairwise_flatMap]
  refine ⟨fun w hw => ?_, ?_⟩
  · unfold rowCells
    rw [List.pairwise_flatMap]
    refine ⟨fun r hr => ?_, ?_⟩
    · unfold runCells
      rw [List.pairwise_map]
      exact List.Pairwise.imp (fun {a b} hab => .inr ⟨rfl, by simp only; omega⟩) List.pairwise_lt_range
    · refine List.Pairwise.imp_of_mem (fun {p r} hp hr hpr => ?_) (runs_pw (row_fine h hw).2)
      intro a ha b hb
      have h1 := mem_runCells.1 ha
      have h2 := mem_runCells.1 hb
      exact .inr ⟨by omega, by omega⟩
  · refine List.Pairwise.imp_of_mem (fun {w v} hw hv hwv => ?_) (rows_pw h)
    intro a ha b hb
    simp only [rowCells, List.mem_flatMap] at ha hb
    obtain ⟨r, hr, ha⟩ := ha
    obtain ⟨p, hp, hb⟩ := hb
    have h1 := mem_runCells.1 ha
    have h2 := mem_runCells.1 hb
    exact .inl (by omega)

theorem nodup_of_ltY {l : List Cell} (h : l.Pairwise ltY) : l.Nodup :=
  h.imp fun {a b} hab e => by subst e; simp [ltY] at hab
theorem sortX_lt {l : List Cell} (h : l.Nodup) : (sortX l).Pairwise ltX := by
  have h1 := sortX_le l
  have h2 : (sortX l).Nodup := (sortX_perm l).nodup_iff.2 h
  refine List.Pairwise.imp₂ (fun {a b} hab hne => ?_) h1 h2
  simp [leX] at hab
  unfold ltX
  by_cases e : a.x = b.x
  · refine .inr ⟨e, ?_⟩
    have : a.y ≠ b.y := fun e2 => hne (by cases a; cases b; simp at e e2; simp [e, e2])
    omega
  · exact .inl (by omega)
theorem sortX_mem {l : List Cell} (c : Cell) : c ∈ sortX l ↔ c ∈ l := (sortX_perm l).mem_iff

/-! Consecutive cells of a list ordered by columns. -/
theorem ltX_get {s : List Cell} (h : s.Pairwise ltX) {i j : Nat} {a b : Cell} (ha : s[i]? = some a) (hb : s[j]? = some b) (hij : i < j) : ltX a b := by
  obtain ⟨hi, rfl⟩ := List.getElem?_eq_some_iff.1 ha
  obtain ⟨hj, rfl⟩ := List.getElem?_eq_some_iff.1 hb
  exact (List.pairwise_iff_getElem.1 h) i j hi hj hij
theorem ltX_irrefl {a : Cell} : ¬ ltX a a := by simp [ltX]
/-- The cell above one of the list, if it is there, comes next. -/
theorem up_next {s : List Cell} (h : s.Pairwise ltX) {j : Nat} {a : Cell} (ha : s[j]? = some a) (hu : upc a ∈ s) : s[j + 1]? = some (upc a) := by
  obtain ⟨m, hm⟩ := List.mem_iff_getElem?.1 hu
  have hl : ltX a (upc a) := by simp [ltX, upc]; omega
  rcases Nat.lt_trichotomy m (j + 1) with hlt | e | hgt
  · exfalso
    by_cases e : m = j
    · subst e; rw [ha] at hm; have := Option.some.inj hm; rw [← this] at hl; exact ltX_irrefl hl
    · have := ltX_get h hm ha (by omega)
      simp [ltX, upc] at this; omega
  · rw [e] at hm; exact hm
  · exfalso
    obtain ⟨b, hb⟩ : ∃ b, s[j + 1]? = some b := getq (by have := (List.getElem?_eq_some_iff.1 hm).1; omega)
    have h1 := ltX_get h ha hb (by omega)
    have h2 := ltX_get h hb hm hgt
    simp [ltX, upc] at h1 h2; omega
/-- The cell below one of the list, if it is there, comes just before. -/
theorem down_prev {s : List Cell} (h : s.Pairwise ltX) {j : Nat} {a b : Cell} (ha : s[j]? = some a) (hb : s[j + 1]? = some b) : vst s b = true ↔ ¬ (b.x = a.x ∧ b.y = a.y + 1) := by
  simp only [vst, Bool.not_eq_true', decide_eq_false_iff_not]
  apply not_congr
  constructor
  · intro hm
    obtain ⟨m, hm⟩ := List.mem_iff_getElem?.1 hm
    have hu : upc (⟨b.x, b.y - 1⟩ : Cell) = b := by cases b; simp [upc]
    have := up_next h hm (by rw [hu]; exact List.mem_of_getElem? hb)
    rw [hu] at this
    have he : m + 1 = j + 1 := by
      rcases Nat.lt_trichotomy (m + 1) (j + 1) with hlt | e | hgt
      · exact absurd (ltX_get h this hb hlt) ltX_irrefl
      · exact e
      · exact absurd (ltX_get h hb this hgt) ltX_irrefl
    have he : m = j := by omega
    subst he
    rw [ha] at hm
    have := Option.some.inj hm
    rw [this]; exact ⟨rfl, by simp only; omega⟩
  · rintro ⟨h1, h2⟩
    have : (⟨b.x, b.y - 1⟩ : Cell) = a := by cases a; simp at h1 h2 ⊢; omega
    rw [this]; exact List.mem_of_getElem? ha

theorem vst_first {s : List Cell} (h : s.Pairwise ltX) {a : Cell} (ha : s[0]? = some a) : vst s a = true := by
  simp only [vst, Bool.not_eq_true', decide_eq_false_iff_not]
  intro hm
  obtain ⟨m, hm⟩ := List.mem_iff_getElem?.1 hm
  by_cases e : m = 0
  · subst e; rw [ha] at hm; have := Option.some.inj hm; have := congrArg Cell.y this; simp at this; omega
  · have := ltX_get h ha hm (by omega)
    simp [ltX] at this; omega

/-! What the program makes of its single cells, and what the reference does. -/
def vT (s : List Cell) (c : Cell) : List Track := if vst s c then [trk (vch s c)] else []
def upAll (s : List Cell) : List Track := s.flatMap (vT s)

theorem upAll_perm {s l : List Cell} (h : s.Perm l) : (upAll s).Perm (upAll l) := by
  have e : vT s = vT l := by
    funext c
    simp only [vT, vst_congr (fun c => h.mem_iff), vch_congr (fun c => h.mem_iff)]
  unfold upAll
  rw [e]
  exact h.flatMap_right _
theorem upT_first {s : List Cell} {c : Cell} {t : Track} (hc : c ∈ s) (hon : onG c = true) (ht : t ∈ vT s c) : t = trk (vch s c) ∧ ∃ l, t.cells = c :: l := by
  unfold vT at ht
  split at ht
  · simp at ht
    subst ht
    have := onG_bd hon
    exact ⟨rfl, _, vch_in hc (by omega)⟩
  · simp at ht
theorem upAll_mem {s : List Cell} (hon : ∀ c ∈ s, onG c = true) {t : Track} (ht : t ∈ upAll s) : ∃ c ∈ s, t = trk (vch s c) ∧ ∃ l, t.cells = c :: l := by
  obtain ⟨c, hc, h⟩ := List.mem_flatMap.1 ht
  exact ⟨c, hc, upT_first hc (hon c hc) h⟩
theorem vch_sub (s : List Cell) : ∀ (n : Nat) (c d : Cell), d ∈ vN s n c → d ∈ s
  | 0, c, d, h => by simp [vN] at h
  | n + 1, c, d, h => by
    simp only [vN] at h
    split at h
    · rename_i hc
      rcases List.mem_cons.1 h with rfl | h
      · exact hc
      · exact vch_sub s n _ d h
    · simp at h
theorem vN_len (s : List Cell) : ∀ (n : Nat) (c : Cell), (vN s n c).length ≤ n
  | 0, c => by simp [vN]
  | n + 1, c => by
    simp only [vN]
    split
    · have := vN_len s n (upc c); simp; omega
    · simp
/-- The reference's vertical tracks are ordered. -/
theorem upAll_pw {l : List Cell} (hp : l.Pairwise ltY) (hon : ∀ c ∈ l, onG c = true) : (upAll l).Pairwise fun s t => ltY ((s.cells[0]?).getD ⟨0, 0⟩) ((t.cells[0]?).getD ⟨0, 0⟩) := by
  unfold upAll
  rw [List.pairwise_flatMap]
  refine ⟨fun c hc => ?_, ?_⟩
  · unfold vT; split <;> simp
  · refine List.Pairwise.imp_of_mem (fun {a b} ha hb hab => ?_) hp
    intro s hs t ht
    obtain ⟨_, _, e1⟩ := upT_first ha (hon a ha) hs
    obtain ⟨_, _, e2⟩ := upT_first hb (hon b hb) ht
    rw [e1, e2]
    exact hab
end Go.Proofs.Ytmfkfgonedgjnaa
