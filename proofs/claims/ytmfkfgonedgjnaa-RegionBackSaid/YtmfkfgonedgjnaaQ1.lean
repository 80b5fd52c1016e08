/-
  The walks of this seat's functions and the plain laws behind them: part Q1.
-/
import Derived.Test.YtmfkfgonedgjnaaR5
set_option linter.unusedVariables false
set_option linter.unusedSimpArgs false
namespace Go.Proofs.Ytmfkfgonedgjnaa
open Go.Abs

/-! Where the cells of a valid region lie. -/
theorem mem_runCells {y : Int} {r : Run} {c : Cell} : c ∈ runCells y r ↔ c.y = y ∧ r.a ≤ c.x ∧ c.x < r.b := by
  simp only [runCells, List.mem_map, List.mem_range]
  constructor
  · rintro ⟨k, hk, rfl⟩
    exact ⟨rfl, by simp only; omega, by simp only; omega⟩
  · rintro ⟨h1, h2, h3⟩
    refine ⟨(c.x - r.a).toNat, by omega, ?_⟩
    cases c
    simp only [Cell.mk.injEq] at *
    exact ⟨by omega, h1.symm⟩
theorem mem_regCells {R : List Row} {c : Cell} : c ∈ regCells R ↔ ∃ w ∈ R, c.y = w.y ∧ ∃ r ∈ w.runs, r.a ≤ c.x ∧ c.x < r.b := by
  simp only [regCells, rowCells, List.mem_flatMap, mem_runCells]
  constructor
  · rintro ⟨w, hw, r, hr, h1, h2, h3⟩
    exact ⟨w, hw, h1, r, hr, h2, h3⟩
  · rintro ⟨w, hw, h1, r, hr, h2, h3⟩
    exact ⟨w, hw, r, hr, h1, h2, h3⟩

theorem rows_lt {R : List Row} (h : validR R = true) : ∀ (j i : Nat) (w p : Row), i < j → R[j]? = some w → R[i]? = some p → p.y < w.y
  | 0, i, w, p, hij, _, _ => by omega
  | j + 1, i, w, p, hij, hw, hp => by
    by_cases e : i = j
    · subst e; exact validR_gap h hw hp
    · have hj := (List.getElem?_eq_some_iff.1 hw).1
      obtain ⟨q, hq⟩ : ∃ q, R[j]? = some q := getq (by omega)
      have h1 := rows_lt h j i q p (by omega) hq hp
      have h2 := validR_gap h hw hq
      omega
theorem rows_eq {R : List Row} (h : validR R = true) {w p : Row} (hw : w ∈ R) (hp : p ∈ R) (he : w.y = p.y) : w = p := by
  obtain ⟨j, hj⟩ := List.mem_iff_getElem?.1 hw
  obtain ⟨i, hi⟩ := List.mem_iff_getElem?.1 hp
  rcases Nat.lt_trichotomy i j with hlt | e | hlt
  · have := rows_lt h j i w p hlt hj hi; omega
  · subst e; rw [hj] at hi; exact Option.some.inj hi
  · have := rows_lt h i j p w hlt hi hj; omega
theorem runs_lt {l : List Run} (h : fine l = true) : ∀ (j i : Nat) (r p : Run), i < j → l[j]? = some r → l[i]? = some p → p.b < r.a
  | 0, i, r, p, hij, _, _ => by omega
  | j + 1, i, r, p, hij, hr, hp => by
    by_cases e : i = j
    · subst e; exact fine_gap h hr hp
    · have hj := (List.getElem?_eq_some_iff.1 hr).1
      obtain ⟨q, hq⟩ : ∃ q, l[j]? = some q := getq (by omega)
      have h1 := runs_lt h j i q p (by omega) hq hp
      have h2 := fine_gap h hr hq
      have h3 := fine_at h hq
      omega
/-- Runs of a row are apart: none ends where another one begins. -/
theorem runs_eq {l : List Run} (h : fine l = true) {r p : Run} (hr : r ∈ l) (hp : p ∈ l) (h1 : p.a ≤ r.b) (h2 : r.a ≤ p.b) : r = p := by
  obtain ⟨j, hj⟩ := List.mem_iff_getElem?.1 hr
  obtain ⟨i, hi⟩ := List.mem_iff_getElem?.1 hp
  rcases Nat.lt_trichotomy i j with hlt | e | hlt
  · have := runs_lt h j i r p hlt hj hi; omega
  · subst e; rw [hj] at hi; exact Option.some.inj hi
  · have := runs_lt h i j p r hlt hi hj; omega
theorem row_fine {R : List Row} (h : validR R = true) {w : Row} (hw : w ∈ R) : (-4096 ≤ w.y ∧ w.y < 4096) ∧ fine w.runs = true := by
  obtain ⟨i, hi⟩ := List.mem_iff_getElem?.1 hw
  exact validR_at h hi
/-- A cell beside a run, in its row, is in the run or in none. -/
theorem mem_near {R : List Row} (h : validR R = true) {w : Row} (hw : w ∈ R) {r : Run} (hr : r ∈ w.runs) {x : Int} (h1 : r.a - 1 ≤ x) (h2 : x ≤ r.b) : (⟨x, w.y⟩ : Cell) ∈ regCells R ↔ r.a ≤ x ∧ x < r.b := by
  rw [mem_regCells]
  constructor
  · rintro ⟨w', hw', hy, r', hr', h3, h4⟩
    simp only at hy h3 h4
    have := rows_eq h hw hw' hy
    subst this
    have := runs_eq (row_fine h hw).2 hr hr' (by omega) (by omega)
    subst this
    exact ⟨h3, h4⟩
  · rintro ⟨h3, h4⟩
    exact ⟨w, hw, rfl, r, hr, h3, h4⟩
theorem cells_on {R : List Row} (h : validR R = true) {c : Cell} (hc : c ∈ regCells R) : onG c = true := by
  obtain ⟨w, hw, hy, r, hr, h1, h2⟩ := mem_regCells.1 hc
  have h3 := row_fine h hw
  have h4 := row_runs h hw hr
  simp [onG]; omega

/-! Tracks through neighbors, as the reference draws them. -/
def rgt (c : Cell) : Cell := ⟨c.x + 1, c.y⟩
def upc (c : Cell) : Cell := ⟨c.x, c.y + 1⟩
def hN (l : List Cell) : Nat → Cell → List Cell
  | 0, _ => []
  | n + 1, c => if c ∈ l then c :: hN l n (rgt c) else []
def hch (l : List Cell) (c : Cell) : List Cell := hN l (4096 - c.x).toNat c
def vN (l : List Cell) : Nat → Cell → List Cell
  | 0, _ => []
  | n + 1, c => if c ∈ l then c :: vN l n (upc c) else []
def vch (l : List Cell) (c : Cell) : List Cell := vN l (4096 - c.y).toNat c
def hst (l : List Cell) (c : Cell) : Bool := !decide ((⟨c.x - 1, c.y⟩ : Cell) ∈ l)
def vst (l : List Cell) (c : Cell) : Bool := !decide ((⟨c.x, c.y - 1⟩ : Cell) ∈ l)
def trk (l : List Cell) : Track := ⟨2, false, l⟩

theorem hch_in {l : List Cell} {c : Cell} (h : c ∈ l) (hx : c.x < 4096) : hch l c = c :: hch l (rgt c) := by
  unfold hch
  obtain ⟨n, hn⟩ : ∃ n, (4096 - c.x).toNat = n + 1 := ⟨(4096 - c.x).toNat - 1, by omega⟩
  have h2 : (4096 - (rgt c).x).toNat = n := by simp only [rgt]; omega
  rw [hn, h2]
  simp [hN, h]
theorem hch_out {l : List Cell} {c : Cell} (h : c ∉ l) : hch l c = [] := by
  unfold hch
  cases (4096 - c.x).toNat <;> simp [hN, h]
theorem vch_in {l : List Cell} {c : Cell} (h : c ∈ l) (hx : c.y < 4096) : vch l c = c :: vch l (upc c) := by
  unfold vch
  obtain ⟨n, hn⟩ : ∃ n, (4096 - c.y).toNat = n + 1 := ⟨(4096 - c.y).toNat - 1, by omega⟩
  have h2 : (4096 - (upc c).y).toNat = n := by simp only [upc]; omega
  rw [hn, h2]
  simp [vN, h]
theorem vch_out {l : List Cell} {c : Cell} (h : c ∉ l) : vch l c = [] := by
  unfold vch
  cases (4096 - c.y).toNat <;> simp [vN, h]
theorem vN_congr {l l' : List Cell} (h : ∀ c, c ∈ l ↔ c ∈ l') : ∀ (n : Nat) (c : Cell), vN l n c = vN l' n c
  | 0, _ => rfl
  | n + 1, c => by simp only [vN, h c, vN_congr h n]
theorem vch_congr {l l' : List Cell} (h : ∀ c, c ∈ l ↔ c ∈ l') (c : Cell) : vch l c = vch l' c := vN_congr h _ c
theorem vst_congr {l l' : List Cell} (h : ∀ c, c ∈ l ↔ c ∈ l') (c : Cell) : vst l c = vst l' c := by simp only [vst, h]

theorem runCells_get (y : Int) (r : Run) {j : Nat} (h : j < (r.b - r.a).toNat) : (runCells y r)[j]? = some ⟨r.a + j, y⟩ := by simp [runCells, h]
theorem flat_congr {α β : Type} {f g : α → List β} : ∀ {l : List α}, (∀ x ∈ l, f x = g x) → l.flatMap f = l.flatMap g
  | [], _ => rfl
  | x :: l, h => by rw [List.flatMap_cons, List.flatMap_cons, h x (by simp), flat_congr fun y hy => h y (by simp [hy])]

/-- Along a run. -/
theorem hch_run {R : List Row} (h : validR R = true) {w : Row} (hw : w ∈ R) {r : Run} (hr : r ∈ w.runs) : ∀ (n j : Nat), n + j = (r.b - r.a).toNat → hch (regCells R) ⟨r.a + j, w.y⟩ = (runCells w.y r).drop j
  | 0, j, hj => by
    have hrb := row_runs h hw hr
    rw [hch_out, List.drop_of_length_le (by rw [runCells_len]; omega)]
    rw [mem_near h hw hr (by omega) (by omega)]
    omega
  | n + 1, j, hj => by
    have hrb := row_runs h hw hr
    have hm : (⟨r.a + j, w.y⟩ : Cell) ∈ regCells R := (mem_near h hw hr (by omega) (by omega)).2 ⟨by omega, by omega⟩
    have ih := hch_run h hw hr n (j + 1) (by omega)
    rw [hch_in hm (by simp only; omega), drop_get (runCells_get w.y r (show j < (r.b - r.a).toNat by omega))]
    congr 1
    rw [← ih]
    simp only [rgt]
    congr 2
    omega
theorem hch_start {R : List Row} (h : validR R = true) {w : Row} (hw : w ∈ R) {r : Run} (hr : r ∈ w.runs) : hch (regCells R) ⟨r.a, w.y⟩ = runCells w.y r := by
  have := hch_run h hw hr (r.b - r.a).toNat 0 (by omega)
  simpa using this

def isLong (l : List Cell) : Bool := decide (1 < l.length)
/-- What the reference makes of a cell: a track, or a cell that is left over. -/
def fT (l : List Cell) (c : Cell) : List Track := if hst l c then (if isLong (hch l c) then [trk (hch l c)] else []) else []
def fS (l : List Cell) (c : Cell) : List Cell := if hst l c then (if isLong (hch l c) then [] else [c]) else []

theorem run_parts {R : List Row} (h : validR R = true) {w : Row} (hw : w ∈ R) {r : Run} (hr : r ∈ w.runs) : (runCells w.y r).flatMap (fT (regCells R)) = trkOf w.y r ∧ (runCells w.y r).flatMap (fS (regCells R)) = sngOf w.y r := by
  have hrb := row_runs h hw hr
  have hc := hch_start h hw hr
  have hrl := runCells_len w.y r
  obtain ⟨n, hn⟩ : ∃ n, (r.b - r.a).toNat = n + 1 := ⟨(r.b - r.a).toNat - 1, by omega⟩
  have hcons : runCells w.y r = ⟨r.a, w.y⟩ :: (List.range n).map fun k : Nat => (⟨r.a + (k + 1), w.y⟩ : Cell) := by
    unfold runCells
    rw [hn, List.range_succ_eq_map, List.map_cons, List.map_map]
    congr 1
    simp
  have h0 : hst (regCells R) ⟨r.a, w.y⟩ = true := by
    simp only [hst, Bool.not_eq_true', decide_eq_false_iff_not]
    rw [mem_near h hw hr (by omega) (by omega)]
    omega
  have h1 : ∀ c ∈ (List.range n).map fun k : Nat => (⟨r.a + (k + 1), w.y⟩ : Cell), hst (regCells R) c = false := by
    intro c hc
    obtain ⟨k, hk, rfl⟩ := List.mem_map.1 hc
    have hk : k < n := by simpa using hk
    simp only [hst, Bool.not_eq_false', decide_eq_true_eq]
    rw [mem_near h hw hr (by omega) (by omega)]
    omega
  have e0 : ∀ {β : Type} (f : Cell → List β), (∀ c, hst (regCells R) c = false → f c = []) → ((List.range n).map fun k : Nat => (⟨r.a + (k + 1), w.y⟩ : Cell)).flatMap f = [] := fun f hf => by
    rw [List.flatMap_eq_nil_iff]
    exact fun c hc => hf c (h1 c hc)
  have hl : isLong (runCells w.y r) = !decide (r.b = r.a + 1) := by
    simp only [isLong, hrl]
    by_cases e : r.b = r.a + 1
    · simp [e]; omega
    · simp [e]; omega
  constructor
  · conv => lhs; rw [hcons, List.flatMap_cons, e0 (fT (regCells R)) fun c hc => by simp [fT, hc]]
    simp only [fT, h0, hc, hl, if_true, trkOf, trk]
    by_cases e : r.b = r.a + 1 <;> simp [e]
  · conv => lhs; rw [hcons, List.flatMap_cons, e0 (fS (regCells R)) fun c hc => by simp [fS, hc]]
    simp only [fS, h0, hc, hl, if_true, sngOf]
    by_cases e : r.b = r.a + 1 <;> simp [e]

theorem cells_flat {β : Type} (R : List Row) (F : Cell → List β) : (regCells R).flatMap F = R.flatMap fun w => w.runs.flatMap fun r => (runCells w.y r).flatMap F := by
  unfold regCells
  rw [List.flatMap_assoc]
  refine flat_congr fun w _ => ?_
  unfold rowCells
  rw [List.flatMap_assoc]
theorem ref_trk {R : List Row} (h : validR R = true) : (regCells R).flatMap (fT (regCells R)) = regTrk R ∧ (regCells R).flatMap (fS (regCells R)) = regSng R := by
  constructor
  · rw [cells_flat]
    exact flat_congr fun w hw => flat_congr fun r hr => (run_parts h hw hr).1
  · rw [cells_flat]
    exact flat_congr fun w hw => flat_congr fun r hr => (run_parts h hw hr).2
theorem sng_mem {R : List Row} (h : validR R = true) {c : Cell} (hc : c ∈ regSng R) : c ∈ regCells R := by
  rw [← (ref_trk h).2] at hc
  obtain ⟨d, hd, hcd⟩ := List.mem_flatMap.1 hc
  simp only [fS] at hcd
  split at hcd
  · split at hcd
    · simp at hcd
    · simp at hcd; rw [hcd]; exact hd
  · simp at hcd
end Go.Proofs.Ytmfkfgonedgjnaa
