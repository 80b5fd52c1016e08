/-
  Texts of this seat put together: G3, X1, X2, X9, B1, S6, S7, S8.
-/
import Derived.Test.YtcjmmdlbbdnahaaDoorJ6
set_option linter.unusedVariables false
set_option linter.unusedSimpArgs false
set_option maxRecDepth 100000
namespace Go.Proofs.YtcjmmdlbbdnahaaDoor
open Go.Abs

def rowOf (R : List Row) (y : Int) : List Run := match R.find? (fun w => decide (w.y = y)) with
  | some w => w.runs
  | none => []
theorem rowOf_mem {R : List Row} (h : validR R = true) {w : Row} (hw : w ∈ R) : rowOf R w.y = w.runs := by
  unfold rowOf
  cases hf : R.find? (fun v => decide (v.y = w.y)) with
  | none => have := List.find?_eq_none.1 hf w hw; simp at this
  | some v =>
    have h1 := List.mem_of_find?_eq_some hf
    have h2 := List.find?_some hf
    have := rows_eq h h1 hw (by simpa using h2)
    rw [this]
theorem rowOf_none {R : List Row} {y : Int} (h : ∀ w ∈ R, w.y ≠ y) : rowOf R y = [] := by
  unfold rowOf
  cases hf : R.find? (fun v => decide (v.y = y)) with
  | none => rfl
  | some v => exact absurd (by simpa using List.find?_some hf) (h v (List.mem_of_find?_eq_some hf))
theorem rowOf_cases {R : List Row} (h : validR R = true) (y : Int) : (∃ w ∈ R, w.y = y ∧ rowOf R y = w.runs) ∨ ((∀ w ∈ R, w.y ≠ y) ∧ rowOf R y = []) := by
  by_cases e : ∃ w ∈ R, w.y = y
  · obtain ⟨w, hw, rfl⟩ := e
    exact .inl ⟨w, hw, rfl, rowOf_mem h hw⟩
  · have : ∀ w ∈ R, w.y ≠ y := fun w hw hy => e ⟨w, hw, hy⟩
    exact .inr ⟨this, rowOf_none this⟩
theorem rowOf_rv {R : List Row} (h : validR R = true) (y : Int) : rvalid (rowOf R y) = true := by
  rcases rowOf_cases h y with ⟨w, hw, _, e⟩ | ⟨_, e⟩
  · rw [e]; exact fine_rv (row_fine h hw).2
  · rw [e]; rfl
theorem rowOf_in {R : List Row} (h : validR R = true) (c : Cell) : c ∈ regCells R ↔ inR (rowOf R c.y) c.x = true := by
  rw [mem_regCells, inR_iff]
  constructor
  · rintro ⟨w, hw, hy, r, hr, h1, h2⟩
    rw [hy, rowOf_mem h hw]
    exact ⟨r, hr, h1, h2⟩
  · rintro ⟨r, hr, h1, h2⟩
    rcases rowOf_cases h c.y with ⟨w, hw, hy, e⟩ | ⟨_, e⟩
    · rw [e] at hr; exact ⟨w, hw, hy.symm, r, hr, h1, h2⟩
    · rw [e] at hr; cases hr
theorem rowOf_range {R : List Row} (h : validR R = true) {y x : Int} (hx : inR (rowOf R y) x = true) : -4096 ≤ y ∧ y < 4096 ∧ -4096 ≤ x ∧ x < 4096 := by
  have := cells_on h ((rowOf_in h ⟨x, y⟩).2 hx)
  simp [onG] at this; omega
theorem validR_pw {R : List Row} : validR R = true ↔ (∀ w ∈ R, (-4096 ≤ w.y ∧ w.y < 4096) ∧ fine w.runs = true) ∧ R.Pairwise fun a b => a.y < b.y := by
  constructor
  · intro h; exact ⟨fun w hw => row_fine h hw, rows_pw h⟩
  · rintro ⟨h1, h2⟩
    apply List.all_eq_true.2
    intro i hi
    have hi : i < R.length := by simpa using hi
    obtain ⟨r, hr⟩ := getq hi
    obtain ⟨p, hp⟩ : ∃ q, R[i - 1]? = some q := getq (by omega)
    obtain ⟨h3, h4⟩ := h1 r (List.mem_of_getElem? hr)
    rw [rowAt_some hr hp, h4]
    simp only [Bool.and_true, Bool.and_eq_true, Bool.or_eq_true, beq_iff_eq, decide_eq_true_eq]
    refine ⟨by simp [okB]; omega, ?_⟩
    by_cases e : i = 0
    · exact .inl e
    · right
      obtain ⟨hi', rfl⟩ := List.getElem?_eq_some_iff.1 hr
      obtain ⟨hp', rfl⟩ := List.getElem?_eq_some_iff.1 hp
      exact List.pairwise_iff_getElem.1 h2 (i - 1) i hp' hi' (by omega)

def opRow (f : Bool → Bool → Bool) (a b : List Row) (y : Int) : List Row := if sweep f (rowOf a y) (rowOf b y) = [] then [] else [⟨y, sweep f (rowOf a y) (rowOf b y)⟩]
def opOn (f : Bool → Bool → Bool) (a b : List Row) (ys : List Int) : List Row := ys.flatMap (opRow f a b)
theorem opRow_mem {f : Bool → Bool → Bool} {a b : List Row} {y : Int} {w : Row} (h : w ∈ opRow f a b y) : w.y = y ∧ w.runs = sweep f (rowOf a y) (rowOf b y) ∧ w.runs ≠ [] := by
  unfold opRow at h
  split at h
  · cases h
  · rename_i e; simp at h; subst h; exact ⟨rfl, rfl, e⟩
theorem opOn_valid {f : Bool → Bool → Bool} (hf : f false false = false) {a b : List Row} (ha : validR a = true) (hb : validR b = true) {ys : List Int} (hp : ys.Pairwise (· < ·)) : validR (opOn f a b ys) = true := by
  refine validR_pw.2 ⟨fun w hw => ?_, ?_⟩
  · obtain ⟨y, hy, hw⟩ := List.mem_flatMap.1 hw
    obtain ⟨e1, e2, e3⟩ := opRow_mem hw
    obtain ⟨h1, h2⟩ := sweep_facts hf (rowOf_rv ha y) (rowOf_rv hb y)
    rw [← e2] at h1 h2
    have key : ∀ x, inR w.runs x = true → -4096 ≤ y ∧ y < 4096 ∧ -4096 ≤ x ∧ x < 4096 := fun x hx => by
      rw [h2] at hx
      cases e : inR (rowOf a y) x with
      | true => exact rowOf_range ha e
      | false =>
        cases e' : inR (rowOf b y) x with
        | true => exact rowOf_range hb e'
        | false => rw [e, e', hf] at hx; cases hx
    have hbd := apart_bounds h1 (lo := -4096) (hi := 4096) (fun x hx => ⟨(key x hx).2.2.1, (key x hx).2.2.2⟩)
    refine ⟨?_, fine_apart.2 ⟨e3, h1, hbd⟩⟩
    obtain ⟨r, hr⟩ := List.exists_mem_of_ne_nil _ e3
    have := key r.a (inR_iff.2 ⟨r, hr, Int.le_refl _, h1.1 r hr⟩)
    rw [e1]; omega
  · unfold opOn
    rw [List.pairwise_flatMap]
    refine ⟨fun y _ => by unfold opRow; split <;> simp, hp.imp fun {y z} hyz u hu v hv => ?_⟩
    rw [(opRow_mem hu).1, (opRow_mem hv).1]; exact hyz
theorem opOn_cells {f : Bool → Bool → Bool} (hf : f false false = false) {a b : List Row} (ha : validR a = true) (hb : validR b = true) {ys : List Int} (hp : ys.Pairwise (· < ·)) (hys : ∀ w, w ∈ a ∨ w ∈ b → w.y ∈ ys) (c : Cell) :
    decide (c ∈ regCells (opOn f a b ys)) = f (decide (c ∈ regCells a)) (decide (c ∈ regCells b)) := by
  have hv := opOn_valid hf ha hb hp
  have e1 : decide (c ∈ regCells a) = inR (rowOf a c.y) c.x := by rw [Bool.eq_iff_iff]; simp [rowOf_in ha]
  have e2 : decide (c ∈ regCells b) = inR (rowOf b c.y) c.x := by rw [Bool.eq_iff_iff]; simp [rowOf_in hb]
  rw [e1, e2, ← (sweep_facts hf (rowOf_rv ha c.y) (rowOf_rv hb c.y)).2]
  rw [Bool.eq_iff_iff, decide_eq_true_eq, mem_regCells, inR_iff]
  constructor
  · rintro ⟨w, hw, hy, r, hr, h1, h2⟩
    obtain ⟨y, hym, hw⟩ := List.mem_flatMap.1 hw
    obtain ⟨q1, q2, q3⟩ := opRow_mem hw
    rw [hy, q1]
    rw [q2] at hr
    exact ⟨r, hr, h1, h2⟩
  · rintro ⟨r, hr, h1, h2⟩
    have hne : sweep f (rowOf a c.y) (rowOf b c.y) ≠ [] := by rintro e; rw [e] at hr; cases hr
    have hym : c.y ∈ ys := by
      have hin : f (inR (rowOf a c.y) c.x) (inR (rowOf b c.y) c.x) = true := by
        rw [← (sweep_facts hf (rowOf_rv ha c.y) (rowOf_rv hb c.y)).2]; exact inR_iff.2 ⟨r, hr, h1, h2⟩
      rcases rowOf_cases ha c.y with ⟨w, hw, hy, _⟩ | ⟨_, e⟩
      · rw [← hy]; exact hys w (.inl hw)
      · rcases rowOf_cases hb c.y with ⟨w, hw, hy, _⟩ | ⟨_, e'⟩
        · rw [← hy]; exact hys w (.inr hw)
        · rw [e, e'] at hin; simp [inR, hf] at hin
    refine ⟨⟨c.y, sweep f (rowOf a c.y) (rowOf b c.y)⟩, List.mem_flatMap.2 ⟨c.y, hym, ?_⟩, rfl, r, hr, h1, h2⟩
    unfold opRow
    rw [if_neg hne]; simp
def allY (a b : List Row) : List Int := (a.map Row.y ++ b.map Row.y).mergeSort (fun x y => decide (x ≤ y))
def dedup : List Int → List Int
  | [] => []
  | [x] => [x]
  | x :: y :: l => if x = y then dedup (y :: l) else x :: dedup (y :: l)
theorem dedup_mem : ∀ (l : List Int) (y : Int), y ∈ dedup l ↔ y ∈ l
  | [], _ => by simp [dedup]
  | [x], _ => by simp [dedup]
  | x :: z :: l, y => by
    simp only [dedup]
    split
    · rename_i e; subst e; rw [dedup_mem (x :: l) y]; simp
    · rw [List.mem_cons, dedup_mem (z :: l) y]; simp
theorem dedup_pw : ∀ (l : List Int), l.Pairwise (· ≤ ·) → (dedup l).Pairwise (· < ·)
  | [], _ => by simp [dedup]
  | [x], _ => by simp [dedup]
  | x :: z :: l, h => by
    have h1 := List.pairwise_cons.1 h
    simp only [dedup]
    split
    · exact dedup_pw (z :: l) h1.2
    · rename_i e
      refine List.pairwise_cons.2 ⟨fun y hy => ?_, dedup_pw (z :: l) h1.2⟩
      rw [dedup_mem] at hy
      have h2 := h1.1 z (by simp)
      rcases List.mem_cons.1 hy with rfl | hy
      · omega
      · have := (List.pairwise_cons.1 h1.2).1 y hy; omega
theorem allY_perm (a b : List Row) : (allY a b).Perm (a.map Row.y ++ b.map Row.y) := List.mergeSort_perm _ _
theorem allY_le (a b : List Row) : (allY a b).Pairwise (· ≤ ·) := by
  have := List.pairwise_mergeSort (le := fun x y : Int => decide (x ≤ y)) (fun a b c h1 h2 => by simp at *; omega) (fun a b => by simp; omega) (a.map Row.y ++ b.map Row.y)
  exact this.imp fun h => by simpa using h
theorem allY_mem {a b : List Row} (w : Row) (h : w ∈ a ∨ w ∈ b) : w.y ∈ dedup (allY a b) := by
  rw [dedup_mem, (allY_perm a b).mem_iff, List.mem_append]
  rcases h with h | h
  · exact .inl (List.mem_map_of_mem h)
  · exact .inr (List.mem_map_of_mem h)
def opR (f : Bool → Bool → Bool) (a b : List Row) : List Row := if validR a && validR b then opOn f a b (dedup (allY a b)) else []
theorem opR_facts {f : Bool → Bool → Bool} (hf : f false false = false) {a b : List Row} (ha : validR a = true) (hb : validR b = true) : validR (opR f a b) = true ∧ ∀ c, decide (c ∈ regCells (opR f a b)) = f (decide (c ∈ regCells a)) (decide (c ∈ regCells b)) := by
  have e : opR f a b = opOn f a b (dedup (allY a b)) := by simp [opR, ha, hb]
  rw [e]
  exact ⟨opOn_valid hf ha hb (dedup_pw _ (allY_le a b)), opOn_cells hf ha hb (dedup_pw _ (allY_le a b)) allY_mem⟩
end Go.Proofs.YtcjmmdlbbdnahaaDoor

namespace Go.Proofs.YtcjmmdlbbdnahaaDoor
open Go.Abs

abbrev bdRow (l : List Run) (p : Nat) : List D := [encRuns l, .int .i64 p]



end Go.Proofs.YtcjmmdlbbdnahaaDoor

namespace Go.Proofs.YtcjmmdlbbdnahaaDoor
open Go.Abs

def fU (x y : Bool) : Bool := x || y
def fI (x y : Bool) : Bool := x && y
def fD (x y : Bool) : Bool := x && !y





end Go.Proofs.YtcjmmdlbbdnahaaDoor

namespace Go.Proofs.YtcjmmdlbbdnahaaDoor
open Go.Abs

section
variable {a b : List Row} (ha : validR a = true) (hb : validR b = true) (c : Cell)
include ha hb
theorem opU_iff : c ∈ regCells (opR fU a b) ↔ c ∈ regCells a ∨ c ∈ regCells b := by
  have h := (opR_facts (f := fU) rfl ha hb).2 c
  have e : ∀ x y, fU x y = (x || y) := fun _ _ => rfl
  rw [e] at h
  rw [← decide_eq_true_iff (p := c ∈ regCells (opR fU a b)), h]
  simp
end
end Go.Proofs.YtcjmmdlbbdnahaaDoor

namespace Go.Proofs.YtcjmmdlbbdnahaaDoor
open Go.Abs

theorem one_valid {c : Cell} (h : onG c = true) : validR [⟨c.y, [⟨c.x, c.x + 1⟩]⟩] = true ∧ ∀ d, d ∈ regCells [⟨c.y, [⟨c.x, c.x + 1⟩]⟩] ↔ d = c := by
  obtain ⟨x, y⟩ := c
  have hg := onG_bd h
  simp only at hg
  constructor
  · simp [validR, rowAt, okB, fine, fnAt, List.range_succ]
    omega
  · rintro ⟨a, b⟩
    rw [mem_regCells]
    simp
    omega
theorem set_region : ∀ {l : List Cell}, (∀ c ∈ l, onG c = true) → ∃ R, validR R = true ∧ ∀ c, c ∈ regCells R ↔ c ∈ l
  | [], _ => ⟨[], rfl, fun c => by simp [regCells]⟩
  | c :: l, h => by
    obtain ⟨R, h1, h2⟩ := set_region (l := l) fun d hd => h d (by simp [hd])
    obtain ⟨h3, h4⟩ := one_valid (h c (by simp))
    refine ⟨opR fU [⟨c.y, [⟨c.x, c.x + 1⟩]⟩] R, (opR_facts rfl h3 h1).1, fun d => ?_⟩
    rw [opU_iff h3 h1, h4, h2, List.mem_cons]
theorem of_set {l : List Cell} (hn : l.Nodup) (hon : ∀ c ∈ l, onG c = true) : validR (ofR l) = true ∧ (∀ c, c ∈ regCells (ofR l) ↔ c ∈ l) ∧ (regCells (ofR l)).length = l.length := by
  obtain ⟨R, h1, h2⟩ := set_region hon
  have hp : l.Perm (regCells R) := (List.perm_ext_iff_of_nodup hn (nodup_of_ltY (cells_pw h1))).2 fun c => (h2 c).symm
  have e : ofR l = R := by
    unfold ofR
    rw [if_pos (List.all_eq_true.2 hon), sortY_cells h1 hp, build_cells h1]
  rw [e]
  exact ⟨h1, h2, hp.length_eq.symm⟩
theorem of_err {l : List Cell} (hon : ∀ c ∈ l, onG c = true) : ofE l = 0 := by
  unfold ofE
  rw [if_pos (List.all_eq_true.2 hon)]

def xc (c : Cell) : Cell := ⟨c.y, c.x⟩
def turnR (R : List Row) : List Row := ofR ((regCells R).map xc)
def anch (H : List Row) (y : Int) (q : Run) : Bool := decide ((⟨q.a - 1, y⟩ : Cell) ∈ regCells H) && decide ((⟨q.b, y⟩ : Cell) ∈ regCells H)
def spanRun (H : List Row) (y : Int) (q : Run) : List (List Cell) := if anch H y q then [runCells y q] else []
def spanRow (H : List Row) (w : Row) : List (List Cell) := w.runs.flatMap (spanRun H w.y)
def spanR (D H : List Row) : List (List Cell) := D.flatMap (spanRow H)
def spansL (r b : List Row) : List (List Cell) := spanR (opR fD r b) (opR fI r b)
def spansU (r b : List Row) (up : Bool) : List (List Cell) := if up then (spansL (turnR r) (turnR b)).map (·.map xc) else spansL r b
def coverR (L : List (List Cell)) : List Row := ofR L.flatten

end Go.Proofs.YtcjmmdlbbdnahaaDoor

namespace Go.Proofs.YtcjmmdlbbdnahaaDoor
open Go.Abs Go.Shelf

def gcell (f : Nat → Nat → Bool) (ax : Int) (Y : Nat → Int) (i k : Nat) : Option Cell := if f i k then some ⟨ax + (k : Int), Y i⟩ else none
def gcells (f : Nat → Nat → Bool) (n : Nat → Nat) (ax : Int) (Y : Nat → Int) (m : Nat) : List Cell := (List.range m).flatMap fun i => (List.range (n i)).filterMap (gcell f ax Y i)
theorem gcells_mem {f : Nat → Nat → Bool} {n : Nat → Nat} {ax : Int} {Y : Nat → Int} {m : Nat} {c : Cell} : c ∈ gcells f n ax Y m ↔ ∃ i k, i < m ∧ k < n i ∧ f i k = true ∧ c = ⟨ax + (k : Int), Y i⟩ := by
  unfold gcells
  simp only [List.mem_flatMap, List.mem_range, List.mem_filterMap, gcell]
  constructor
  · rintro ⟨i, hi, k, hk, h⟩
    by_cases e : f i k = true
    · rw [if_pos e] at h
      exact ⟨i, k, hi, hk, e, (Option.some.inj h).symm⟩
    · rw [if_neg e] at h; cases h
  · rintro ⟨i, k, hi, hk, e, rfl⟩
    exact ⟨i, hi, k, hk, by rw [if_pos e]⟩
theorem gcells_nodup {f : Nat → Nat → Bool} {n : Nat → Nat} {ax : Int} {Y : Nat → Int} {m : Nat} (hY : ∀ i j, i < m → j < m → Y i = Y j → i = j) : (gcells f n ax Y m).Nodup := by
  unfold gcells List.Nodup
  rw [List.pairwise_flatMap]
  refine ⟨fun i hi => ?_, ?_⟩
  · rw [List.pairwise_filterMap]
    refine List.pairwise_lt_range.imp fun {a b} hab x hx y hy => ?_
    unfold gcell at hx hy
    split at hx
    · split at hy
      · simp at hx hy
        rw [← hx, ← hy]
        intro h
        simp at h
        omega
      · cases hy
    · cases hx
  · refine List.Pairwise.imp_of_mem (R := fun a b => a < b) (fun {a b} ha hb hab x hx y hy => ?_) List.pairwise_lt_range
    simp only [List.mem_filterMap, gcell] at hx hy
    obtain ⟨k, _, hx⟩ := hx
    obtain ⟨k', _, hy⟩ := hy
    split at hx
    · split at hy
      · simp at hx hy
        rw [← hx, ← hy]
        intro h
        simp at h
        have := hY a b (List.mem_range.1 ha) (List.mem_range.1 hb) h.2
        omega
      · cases hy
    · cases hx
theorem ofD_ext {l l' : List Cell} (h1 : l.Nodup) (h2 : l'.Nodup) (h : ∀ c, c ∈ l ↔ c ∈ l') : ofD l = ofD l' := by
  by_cases hon : ∀ c ∈ l, onG c = true
  · have hon' : ∀ c ∈ l', onG c = true := fun c hc => hon c ((h c).2 hc)
    obtain ⟨a1, a2, _⟩ := of_set h1 hon
    obtain ⟨b1, b2, _⟩ := of_set h2 hon'
    have : ofR l = ofR l' := region_uniq a1 b1 fun c => by rw [a2, b2, h]
    rw [ofD, ofD, this, of_err hon, of_err hon']
  · have : ∃ c, c ∈ l ∧ onG c = false := by
      apply Classical.byContradiction
      intro hn
      apply hon
      intro c hc
      cases hg : onG c
      · exact absurd ⟨c, hc, hg⟩ hn
      · rfl
    obtain ⟨c, hc, hg⟩ := this
    rw [ofD_bad hc hg, ofD_bad ((h c).1 hc) hg]
theorem cellsT_g (l : List (List UInt8)) (o : Cell) (m : Nat) : cellsT l o m = gcells (fun i k => decide ((l.getD i [])[k]? = some 35)) (fun i => (l.getD i []).length) o.x (fun i => o.y + (l.length - 1 - i : Nat)) m := by
  unfold cellsT gcells lineC gcell
  simp
def lineB (s : List UInt8) (o : Cell) (n h y m : Nat) : List Cell := (List.range m).filterMap fun x : Nat => if s[(h - 1 - y) * (n + 1) + x]? = some 35 then some ⟨o.x + x, o.y + y⟩ else none
def cellsB (s : List UInt8) (o : Cell) (n h m : Nat) : List Cell := (List.range m).flatMap fun y => lineB s o n h y n
theorem cellsB_g (s : List UInt8) (o : Cell) (n h m : Nat) : cellsB s o n h m = gcells (fun y x => decide (s[(h - 1 - y) * (n + 1) + x]? = some 35)) (fun _ => n) o.x (fun y => o.y + (y : Int)) m := by
  unfold cellsB gcells lineB gcell
  simp
theorem lineB_next (s : List UInt8) (o : Cell) (n h y m : Nat) : lineB s o n h y (m + 1) = lineB s o n h y m ++ (if s[(h - 1 - y) * (n + 1) + m]? = some 35 then [⟨o.x + m, o.y + y⟩] else []) := by
  unfold lineB
  rw [List.range_succ, List.filterMap_append]
  split <;> rename_i h <;> simp [h]
theorem lineB_len (s : List UInt8) (o : Cell) (n h y m : Nat) : (lineB s o n h y m).length ≤ m := by
  unfold lineB
  exact Nat.le_trans (List.length_filterMap_le _ _) (by simp)
theorem cellsB_next (s : List UInt8) (o : Cell) (n h m : Nat) : cellsB s o n h (m + 1) = cellsB s o n h m ++ lineB s o n h m n := by
  unfold cellsB
  rw [List.range_succ, List.flatMap_append]
  simp
theorem cellsB_len (s : List UInt8) (o : Cell) (n h : Nat) : ∀ m, (cellsB s o n h m).length ≤ m * n
  | 0 => by simp [cellsB]
  | m + 1 => by
    rw [cellsB_next, List.length_append, Nat.succ_mul]
    have := cellsB_len s o n h m
    have := lineB_len s o n h m n
    omega
theorem read_both {s : List UInt8} (o : Cell) (h0 : s ≠ []) (hs : s.length ≤ 65536) : readR s o = if widP s = 0 then .tup [.agg (regRow []), .int .i64 5] else ofD (cellsB s o (widP s) (s.length / (widP s + 1)) (s.length / (widP s + 1))) := by
  unfold readR
  rw [if_neg (by omega), lines_wid h0]
  by_cases hw : widP s = 0
  · rw [if_pos hw, if_pos hw]
  · rw [if_neg hw, if_neg hw]
    obtain ⟨l, h1, h2, h3⟩ := lines_of_wid (s := s) (by omega)
    have hf := sameL_facts h2
    have hno : ∀ x ∈ l, (10 : UInt8) ∉ x := fun x hx hc => okCh_nl ((hf x hx).2.2 10 hc) rfl
    obtain ⟨w1, w2⟩ := wid_of_lines h1 h2
    rw [h3] at w1
    have hd : txt l = s.dropLast ++ [10] := by
      rw [h3]
      obtain ⟨m, x, rfl⟩ : ∃ m x, l = m ++ [x] := ⟨_, _, (List.dropLast_concat_getLast h1).symm⟩
      have : s = (txt m ++ x) ++ [10] := by rw [← h3, txt_app]; simp [txt]
      rw [this]
      simp
    rw [spl_txt h1 hno hd]
    simp only
    have hxl : ∀ x ∈ l, x.length = widP s := fun x hx => by rw [w1]; exact (hf x hx).2.1
    have hlen := txt_len hxl
    rw [h3] at hlen
    generalize widP s = n at *
    have hdiv : s.length / (n + 1) = l.length := by rw [hlen]; exact Nat.mul_div_cancel _ (by omega)
    rw [hdiv, cellsT_g, cellsB_g]
    refine ofD_ext (gcells_nodup fun i j hi hj h => by omega) (gcells_nodup fun i j hi hj h => by omega) fun c => ?_
    rw [gcells_mem, gcells_mem]
    have hget : ∀ i k, i < l.length → k < n → s[i * (n + 1) + k]? = (l.getD i [])[k]? := fun i k hi hk => by
      obtain ⟨x, hx⟩ := getq hi
      have := txt_get hxl hx (k := k) (by omega)
      rw [h3] at this
      rw [this, List.getD_eq_getElem?_getD, hx, List.getElem?_append_left (by rw [hxl x (List.mem_of_getElem? hx)]; exact hk)]
      rfl
    have hgl : ∀ i, i < l.length → (l.getD i []).length = n := fun i hi => by
      obtain ⟨x, hx⟩ := getq hi
      rw [List.getD_eq_getElem?_getD, hx]
      exact hxl x (List.mem_of_getElem? hx)
    constructor
    · rintro ⟨i, k, hi, hk, e, rfl⟩
      rw [hgl i hi] at hk
      refine ⟨l.length - 1 - i, k, by omega, hk, ?_, rfl⟩
      rw [show l.length - 1 - (l.length - 1 - i) = i by omega, hget i k hi hk]
      exact e
    · rintro ⟨y, x, hy, hx, e, rfl⟩
      refine ⟨l.length - 1 - y, x, by omega, by rw [hgl _ (by omega)]; exact hx, ?_, ?_⟩
      · rw [← hget _ _ (by omega) hx]
        exact e
      · rw [show l.length - 1 - (l.length - 1 - y) = y by omega]
end Go.Proofs.YtcjmmdlbbdnahaaDoor

namespace Go.Proofs.YtcjmmdlbbdnahaaDoor
open Go.Abs Go.Shelf

theorem fstN_facts (s : List UInt8) : fstN s ≤ s.length ∧ (∀ i, i < fstN s → ∃ c, s[i]? = some c ∧ c ≠ 10) ∧ (∀ c, s[fstN s]? = some c → c = 10) := by
  induction s with
  | nil => simp [fstN]
  | cons a s ih =>
    unfold fstN at ih ⊢
    by_cases e : a = 10
    · subst e
      simp
    · have e' : (a != 10) = true := by simpa using e
      rw [List.takeWhile_cons_of_pos (by simpa using e)]
      obtain ⟨h1, h2, h3⟩ := ih
      refine ⟨by simp; exact h1, fun i hi => ?_, fun c hc => ?_⟩
      · cases i with
        | zero => exact ⟨a, rfl, e⟩
        | succ i =>
          obtain ⟨c, hc, hne⟩ := h2 i (by simpa using hi)
          exact ⟨c, by simpa using hc, hne⟩
      · exact h3 c (by simpa using hc)
theorem nat_ne (c : UInt8) (n : Nat) (hn : n < 256) : ((c.toNat : Int) == (n : Int)) = (c == UInt8.ofNat n) := by
  rw [Bool.eq_iff_iff]
  simp
  constructor
  · intro h
    have : c.toNat = n := by omega
    rw [← this]; simp
  · rintro rfl
    simp
    omega
set_option maxHeartbeats 4000000 in
theorem width_ok (s : List UInt8) (hs : s.length ≤ 1000000) : PC Tryd.prog 29 [strD s] (.p (.int .i64 (widP s))) := by
  obtain ⟨h1, h2, h3⟩ := fstN_facts s
  have hw : widP s = if fstN s = 0 ∨ s.length % (fstN s + 1) ≠ 0 then 0 else if allPos s (fstN s) then fstN s else 0 := rfl
  generalize fstN s = n at *
  generalize widP s = W at *
  refine pc_of_awp cx (fn := Tryd.f29) (c := _) Tryd.func29 rfl rfl (Nat.le_of_ble_eq_true rfl) ?_
  rw [Tryd.ntmps29]; refine Nav.imp ?_
  refine awp_region cx [] fun K hK => ?_
  simp [push_cast]
  repeat (refine And.intro (by clear hK; intros; first | omega | (simp_all; done) | (simp_all <;> omega)) ?_)
  refine hK _ ?_; clear hK K; refine Nav.imp ?_
  refine awp_region cx [] fun K hK => ?_
  simp [push_cast]
  repeat (refine And.intro (by clear hK; intros; first | omega | (simp_all; done) | (simp_all <;> omega)) ?_)
  refine hK _ ?_; clear hK K; refine Nav.imp ?_
  refine awp_loop (β := Nat) (fun i => ⟨64, [(0, .d (strD s)), (3, .d (.int .i64 i))], [], 0⟩) (fun i => i ≤ n) (fun i => n - i) 0 ?_ (Nat.zero_le _) ?_
  · refine weak_of [] rfl (by simp [upT, up, upL, push_cast]) (by simp [upH, upR, upL, up, push_cast]) (by simp [namesOk, push_cast]) (by simp [olds])
  · rintro i hi
    refine Nav.imp ?_
    have e0 := wrap_i64 (n := (i : Int) + 1) (by omega) (by omega)
    by_cases q : i < n
    · obtain ⟨c, hc, hne⟩ := h2 i q
      have o1 := fun (u v : Operand) => opres_index (P := Tryd.prog) (x := u) (y := v) str_und s .i64 (i : Int) c (by omega) (by simpa using hc)
      have q1 : i < s.length := by omega
      have q2 : ((c.toNat : Int) == 10) = false := by
        have := nat_ne c 10 (by omega)
        rw [show ((10 : Nat) : Int) = 10 by rfl] at this
        rw [this]
        simpa using hne
      have q3 : ¬ ((c.toNat : Int) = 10) := by simpa using q2
      refine awp_region cx [(7, .p (.int .u8 c.toNat))] fun K hK => ?_
      simp [push_cast, o1]
      repeat (refine And.intro (by clear hK; intros; first | omega | (simp_all; done) | (simp_all <;> omega)) ?_)
      refine hK _ ?_; clear hK K; refine Nav.imp ?_
      refine awp_cond (b := true) (by simp [push_cast, q1, q3]) (fun hb => ?_) (fun hb => ?_) <;> (refine Nav.imp ?_)
      · refine awp_region cx [] fun K hK => ?_
        simp [push_cast, e0]
        repeat (refine And.intro (by clear hK; intros; first | omega | (simp_all; done) | (simp_all <;> omega)) ?_)
        refine hK _ ?_; clear hK K; refine Nav.imp ?_
        refine ⟨i + 1, q, by omega, ?_⟩
        refine weak_of [] rfl (by simp [upT, up, upL, push_cast]) (by simp [upH, upR, upL, up, push_cast]) (by simp [namesOk, push_cast]) (by simp [olds])
      · simp at hb
    · have hin : i = n := by omega
      subst hin
      by_cases q1 : i < s.length
      · obtain ⟨c, hc⟩ := getq q1
        have := h3 c hc
        subst this
        have o1 := fun (u v : Operand) => opres_index (P := Tryd.prog) (x := u) (y := v) str_und s .i64 (i : Int) 10 (by omega) (by simpa using hc)
        refine awp_region cx [(7, .p (.int .u8 10))] fun K hK => ?_
        simp [push_cast, o1]
        repeat (refine And.intro (by clear hK; intros; first | omega | (simp_all; done) | (simp_all <;> omega)) ?_)
        refine hK _ ?_; clear hK K; refine Nav.imp ?_
        refine awp_cond (b := false) (by simp [push_cast]) (fun hb => ?_) (fun hb => ?_) <;> (refine Nav.imp ?_)
        · simp at hb
        · have hrem : ((s.length : Int)).tmod ((i : Int) + 1) = ((s.length % (i + 1) : Nat) : Int) := by
            rw [show (i : Int) + 1 = ((i + 1 : Nat) : Int) by omega]
            exact (Int.ofNat_tmod _ _).symm
          have hnz : ¬ ((i : Int) + 1 = 0) := by omega
          by_cases z : i = 0 ∨ s.length % (i + 1) ≠ 0
          · rw [if_pos z] at hw
            subst hw
            by_cases z1 : i = 0
            · subst z1
              refine awp_region cx [] fun K hK => ?_
              simp [push_cast, e0]
              repeat (refine And.intro (by clear hK; intros; first | omega | (simp_all; done) | (simp_all <;> omega)) ?_)
              refine hK _ ?_; clear hK K; refine Nav.imp ?_
              refine awp_cond (b := true) (by simp [push_cast]) (fun hb => ?_) (fun hb => ?_) <;> (refine Nav.imp ?_)
              · refine awp_region cx [] fun K hK => ?_
                simp [push_cast]
                repeat (refine And.intro (by clear hK; intros; first | omega | (simp_all; done) | (simp_all <;> omega)) ?_)
                refine hK _ ?_; clear hK K; refine Nav.imp ?_
                simp [push_cast]
              · simp at hb
            · have z2 : s.length % (i + 1) ≠ 0 := by
                rcases z with h | h
                · exact absurd h z1
                · exact h
              have z3 : ((i : Int) == 0) = false := by simp; omega
              generalize s.length % (i + 1) = md at *
              have z4 : ((md : Int) == 0) = false := by simp; omega
              refine awp_region cx [] fun K hK => ?_
              simp [push_cast, e0, hrem, z3, z4, hnz]
              repeat (refine And.intro (by clear hK; intros; first | omega | (simp_all; done) | (simp_all <;> omega)) ?_)
              refine hK _ ?_; clear hK K; refine Nav.imp ?_
              refine awp_cond (b := true) (by simp [push_cast, z1, z2]) (fun hb => ?_) (fun hb => ?_) <;> (refine Nav.imp ?_)
              · refine awp_region cx [] fun K hK => ?_
                simp [push_cast]
                repeat (refine And.intro (by clear hK; intros; first | omega | (simp_all; done) | (simp_all <;> omega)) ?_)
                refine hK _ ?_; clear hK K; refine Nav.imp ?_
                simp [push_cast]
              · simp at hb
          · rw [if_neg z] at hw
            have z1 : ¬ i = 0 := fun h => z (.inl h)
            have z2 : s.length % (i + 1) = 0 := Classical.byContradiction fun h => z (.inr h)
            rw [z2] at hrem
            have z3 : ((i : Int) == 0) = false := by simp; omega
            refine awp_region cx [] fun K hK => ?_
            simp [push_cast, e0, hrem, z3, hnz]
            repeat (refine And.intro (by clear hK; intros; first | omega | (simp_all; done) | (simp_all <;> omega)) ?_)
            refine hK _ ?_; clear hK K; refine Nav.imp ?_
            refine awp_cond (b := false) (by simp [push_cast, z1]) (fun hb => ?_) (fun hb => ?_) <;> (refine Nav.imp ?_)
            · simp at hb
            · refine awp_region cx [] fun K hK => ?_
              simp [push_cast]
              repeat (refine And.intro (by clear hK; intros; first | omega | (simp_all; done) | (simp_all <;> omega)) ?_)
              refine hK _ ?_; clear hK K; refine Nav.imp ?_
              refine awp_loop (β := Nat) (fun j => ⟨64, [(0, .d (strD s)), (3, .d (.int .i64 i)), (4, .d (.int .i64 j))], [], 0⟩) (fun j => j ≤ s.length ∧ ∀ (q : Nat) c, q < j → s[q]? = some c → posOk i q c = true) (fun j => s.length - j) 0 ?_ ⟨Nat.zero_le _, by simp⟩ ?_
              · refine weak_of [] rfl (by simp [upT, up, upL, push_cast]) (by simp [upH, upR, upL, up, push_cast]) (by simp [namesOk, push_cast]) (by simp [olds])
              · rintro j ⟨hj, hall⟩
                refine Nav.imp ?_
                refine awp_region cx [] fun K hK => ?_
                simp [push_cast]
                repeat (refine And.intro (by clear hK; intros; first | omega | (simp_all; done) | (simp_all <;> omega)) ?_)
                refine hK _ ?_; clear hK K; refine Nav.imp ?_
                refine awp_cond (b := decide (j < s.length)) (by simp [push_cast]) (fun hb => ?_) (fun hb => ?_) <;> (refine Nav.imp ?_)
                · have hlt : j < s.length := by simpa using hb
                  obtain ⟨c, hc⟩ := getq hlt
                  have f0 := wrap_i64 (n := (j : Int) + 1) (by omega) (by omega)
                  have hr2 : ((j : Int)).tmod ((i : Int) + 1) = ((j % (i + 1) : Nat) : Int) := by
                    rw [show (i : Int) + 1 = ((i + 1 : Nat) : Int) by omega]
                    exact (Int.ofNat_tmod _ _).symm
                  have o1 := fun (u v : Operand) => opres_index (P := Tryd.prog) (x := u) (y := v) str_und s .i64 (j : Int) c (by omega) (by simpa using hc)
                  have hstep : posOk i j c = true → ∀ (q : Nat) c, q < j + 1 → s[q]? = some c → posOk i q c = true := fun hp q c' hq hc' => by
                    by_cases e : q < j
                    · exact hall q c' e hc'
                    · have : q = j := by omega
                      subst this
                      rw [hc] at hc'; cases hc'; exact hp
                  have hbad : posOk i j c = false → W = 0 := fun hp => by
                    rw [hw, if_neg]
                    intro ha
                    have := List.all_eq_true.1 ha j (List.mem_range.2 hlt)
                    rw [hc] at this
                    simp only at this
                    rw [hp] at this
                    cases this
                  have hP : posOk i j c = if j % (i + 1) = i then c == 10 else okCh c := rfl
                  by_cases e : j % (i + 1) = i
                  · rw [if_pos e] at hP
                    rw [e] at hr2
                    refine awp_region cx [] fun K hK => ?_
                    simp [push_cast, e0, hr2, hnz]
                    repeat (refine And.intro (by clear hK; intros; first | omega | (simp_all; done) | (simp_all <;> omega)) ?_)
                    refine hK _ ?_; clear hK K; refine Nav.imp ?_
                    by_cases g1 : c = 10
                    · subst g1
                      refine awp_region cx [(4, .p (.int .u8 10)), (13, .p (.int .u8 10)), (19, .p (.int .u8 10))] fun K hK => ?_
                      simp [push_cast, o1]
                      repeat (refine And.intro (by clear hK; intros; first | omega | (simp_all; done) | (simp_all <;> omega)) ?_)
                      refine hK _ ?_; clear hK K; refine Nav.imp ?_
                      refine awp_cond (b := false) (by simp [push_cast]) (fun hb => ?_) (fun hb => ?_) <;> (refine Nav.imp ?_)
                      · simp at hb
                      · refine awp_region cx [] fun K hK => ?_
                        simp [push_cast, f0]
                        repeat (refine And.intro (by clear hK; intros; first | omega | (simp_all; done) | (simp_all <;> omega)) ?_)
                        refine hK _ ?_; clear hK K; refine Nav.imp ?_
                        refine ⟨j + 1, ⟨hlt, hstep (by rw [hP]; rfl)⟩, by omega, ?_⟩
                        refine weak_of [] rfl (by simp [upT, up, upL, push_cast]) (by simp [upH, upR, upL, up, push_cast]) (by simp [namesOk, push_cast]) (by simp [olds])
                    · have g2 : ((c.toNat : Int) == 10) = false := by rw [show (10 : Int) = ((10 : Nat) : Int) from rfl, nat_ne c 10 (by omega)]; simpa using g1
                      have g3 : ¬ ((c.toNat : Int) = 10) := by simpa using g2
                      rw [hbad (by rw [hP]; simpa using g1)]
                      refine awp_region cx [(4, .p (.int .u8 c.toNat)), (13, .p (.int .u8 c.toNat)), (19, .p (.int .u8 c.toNat))] fun K hK => ?_
                      simp [push_cast, o1, g2, g3]
                      repeat (refine And.intro (by clear hK; intros; first | omega | (simp_all; done) | (simp_all <;> omega)) ?_)
                      refine hK _ ?_; clear hK K; refine Nav.imp ?_
                      refine awp_cond (b := true) (by simp [push_cast, g3]) (fun hb => ?_) (fun hb => ?_) <;> (refine Nav.imp ?_)
                      · refine awp_region cx [] fun K hK => ?_
                        simp [push_cast]
                        repeat (refine And.intro (by clear hK; intros; first | omega | (simp_all; done) | (simp_all <;> omega)) ?_)
                        refine hK _ ?_; clear hK K; refine Nav.imp ?_
                        simp [push_cast]
                      · simp at hb
                  · rw [if_neg e] at hP
                    generalize j % (i + 1) = md at *
                    have e2 : ((md : Int) == (i : Int)) = false := by simp; omega
                    refine awp_region cx [] fun K hK => ?_
                    simp [push_cast, e0, hr2, hnz, e2]
                    repeat (refine And.intro (by clear hK; intros; first | omega | (simp_all; done) | (simp_all <;> omega)) ?_)
                    refine hK _ ?_; clear hK K; refine Nav.imp ?_
                    by_cases g1 : c = 35
                    · subst g1
                      refine awp_region cx [(4, .p (.int .u8 35)), (13, .p (.int .u8 35)), (19, .p (.int .u8 35))] fun K hK => ?_
                      simp [push_cast, o1, e]
                      repeat (refine And.intro (by clear hK; intros; first | omega | (simp_all; done) | (simp_all <;> omega)) ?_)
                      refine hK _ ?_; clear hK K; refine Nav.imp ?_
                      refine awp_cond (b := false) (by simp [push_cast, e]) (fun hb => ?_) (fun hb => ?_) <;> (refine Nav.imp ?_)
                      · simp at hb
                      · refine awp_region cx [] fun K hK => ?_
                        simp [push_cast, f0]
                        repeat (refine And.intro (by clear hK; intros; first | omega | (simp_all; done) | (simp_all <;> omega)) ?_)
                        refine hK _ ?_; clear hK K; refine Nav.imp ?_
                        refine ⟨j + 1, ⟨hlt, hstep (by rw [hP]; rfl)⟩, by omega, ?_⟩
                        refine weak_of [] rfl (by simp [upT, up, upL, push_cast]) (by simp [upH, upR, upL, up, push_cast]) (by simp [namesOk, push_cast]) (by simp [olds])
                    · have g2 : ((c.toNat : Int) == 35) = false := by rw [show (35 : Int) = ((35 : Nat) : Int) from rfl, nat_ne c 35 (by omega)]; simpa using g1
                      have g3 : ¬ ((c.toNat : Int) = 35) := by simpa using g2
                      by_cases g4 : c = 46
                      · subst g4
                        refine awp_region cx [(4, .p (.int .u8 46)), (13, .p (.int .u8 46)), (19, .p (.int .u8 46))] fun K hK => ?_
                        simp [push_cast, o1, e]
                        repeat (refine And.intro (by clear hK; intros; first | omega | (simp_all; done) | (simp_all <;> omega)) ?_)
                        refine hK _ ?_; clear hK K; refine Nav.imp ?_
                        refine awp_cond (b := false) (by simp [push_cast, e]) (fun hb => ?_) (fun hb => ?_) <;> (refine Nav.imp ?_)
                        · simp at hb
                        · refine awp_region cx [] fun K hK => ?_
                          simp [push_cast, f0]
                          repeat (refine And.intro (by clear hK; intros; first | omega | (simp_all; done) | (simp_all <;> omega)) ?_)
                          refine hK _ ?_; clear hK K; refine Nav.imp ?_
                          refine ⟨j + 1, ⟨hlt, hstep (by rw [hP]; rfl)⟩, by omega, ?_⟩
                          refine weak_of [] rfl (by simp [upT, up, upL, push_cast]) (by simp [upH, upR, upL, up, push_cast]) (by simp [namesOk, push_cast]) (by simp [olds])
                      · have g5 : ((c.toNat : Int) == 46) = false := by rw [show (46 : Int) = ((46 : Nat) : Int) from rfl, nat_ne c 46 (by omega)]; simpa using g4
                        have g6 : ¬ ((c.toNat : Int) = 46) := by simpa using g5
                        rw [hbad (by rw [hP]; simp [okCh, g1, g4])]
                        refine awp_region cx [(4, .p (.int .u8 c.toNat)), (13, .p (.int .u8 c.toNat)), (19, .p (.int .u8 c.toNat))] fun K hK => ?_
                        simp [push_cast, o1, e, g2, g3, g5, g6]
                        repeat (refine And.intro (by clear hK; intros; first | omega | (simp_all; done) | (simp_all <;> omega)) ?_)
                        refine hK _ ?_; clear hK K; refine Nav.imp ?_
                        refine awp_cond (b := true) (by simp [push_cast, e, g3, g6]) (fun hb => ?_) (fun hb => ?_) <;> (refine Nav.imp ?_)
                        · refine awp_region cx [] fun K hK => ?_
                          simp [push_cast]
                          repeat (refine And.intro (by clear hK; intros; first | omega | (simp_all; done) | (simp_all <;> omega)) ?_)
                          refine hK _ ?_; clear hK K; refine Nav.imp ?_
                          simp [push_cast]
                        · simp at hb
                · have hje : j = s.length := by simp at hb; omega
                  have hap : allPos s i = true := by
                    unfold allPos
                    rw [List.all_eq_true]
                    intro q hq
                    obtain ⟨c, hc⟩ := getq (List.mem_range.1 hq)
                    rw [hc]
                    exact hall q c (by rw [hje]; exact List.mem_range.1 hq) hc
                  rw [if_pos hap] at hw
                  subst hw
                  refine awp_region cx [] fun K hK => ?_
                  simp [push_cast]
                  repeat (refine And.intro (by clear hK; intros; first | omega | (simp_all; done) | (simp_all <;> omega)) ?_)
                  refine hK _ ?_; clear hK K; refine Nav.imp ?_
                  simp [push_cast]
      · have q2 : decide (i < s.length) = false := by simp; omega
        refine awp_region cx [(7, .skip)] fun K hK => ?_
        simp [push_cast, q2]
        repeat (refine And.intro (by clear hK; intros; first | omega | (simp_all; done) | (simp_all <;> omega)) ?_)
        refine hK _ ?_; clear hK K; refine Nav.imp ?_
        refine awp_cond (b := false) (by simp [push_cast, q2]) (fun hb => ?_) (fun hb => ?_) <;> (refine Nav.imp ?_)
        · simp at hb
        · have hrem : ((s.length : Int)).tmod ((i : Int) + 1) = ((s.length % (i + 1) : Nat) : Int) := by
            rw [show (i : Int) + 1 = ((i + 1 : Nat) : Int) by omega]
            exact (Int.ofNat_tmod _ _).symm
          have hnz : ¬ ((i : Int) + 1 = 0) := by omega
          by_cases z : i = 0 ∨ s.length % (i + 1) ≠ 0
          · rw [if_pos z] at hw
            subst hw
            by_cases z1 : i = 0
            · subst z1
              refine awp_region cx [] fun K hK => ?_
              simp [push_cast, e0]
              repeat (refine And.intro (by clear hK; intros; first | omega | (simp_all; done) | (simp_all <;> omega)) ?_)
              refine hK _ ?_; clear hK K; refine Nav.imp ?_
              refine awp_cond (b := true) (by simp [push_cast]) (fun hb => ?_) (fun hb => ?_) <;> (refine Nav.imp ?_)
              · refine awp_region cx [] fun K hK => ?_
                simp [push_cast]
                repeat (refine And.intro (by clear hK; intros; first | omega | (simp_all; done) | (simp_all <;> omega)) ?_)
                refine hK _ ?_; clear hK K; refine Nav.imp ?_
                simp [push_cast]
              · simp at hb
            · have z2 : s.length % (i + 1) ≠ 0 := by
                rcases z with h | h
                · exact absurd h z1
                · exact h
              have z3 : ((i : Int) == 0) = false := by simp; omega
              generalize s.length % (i + 1) = md at *
              have z4 : ((md : Int) == 0) = false := by simp; omega
              refine awp_region cx [] fun K hK => ?_
              simp [push_cast, e0, hrem, z3, z4, hnz]
              repeat (refine And.intro (by clear hK; intros; first | omega | (simp_all; done) | (simp_all <;> omega)) ?_)
              refine hK _ ?_; clear hK K; refine Nav.imp ?_
              refine awp_cond (b := true) (by simp [push_cast, z1, z2]) (fun hb => ?_) (fun hb => ?_) <;> (refine Nav.imp ?_)
              · refine awp_region cx [] fun K hK => ?_
                simp [push_cast]
                repeat (refine And.intro (by clear hK; intros; first | omega | (simp_all; done) | (simp_all <;> omega)) ?_)
                refine hK _ ?_; clear hK K; refine Nav.imp ?_
                simp [push_cast]
              · simp at hb
          · rw [if_neg z] at hw
            have z1 : ¬ i = 0 := fun h => z (.inl h)
            have z2 : s.length % (i + 1) = 0 := Classical.byContradiction fun h => z (.inr h)
            rw [z2] at hrem
            have z3 : ((i : Int) == 0) = false := by simp; omega
            refine awp_region cx [] fun K hK => ?_
            simp [push_cast, e0, hrem, z3, hnz]
            repeat (refine And.intro (by clear hK; intros; first | omega | (simp_all; done) | (simp_all <;> omega)) ?_)
            refine hK _ ?_; clear hK K; refine Nav.imp ?_
            refine awp_cond (b := false) (by simp [push_cast, z1]) (fun hb => ?_) (fun hb => ?_) <;> (refine Nav.imp ?_)
            · simp at hb
            · refine awp_region cx [] fun K hK => ?_
              simp [push_cast]
              repeat (refine And.intro (by clear hK; intros; first | omega | (simp_all; done) | (simp_all <;> omega)) ?_)
              refine hK _ ?_; clear hK K; refine Nav.imp ?_
              refine awp_loop (β := Nat) (fun j => ⟨64, [(0, .d (strD s)), (3, .d (.int .i64 i)), (4, .d (.int .i64 j))], [], 0⟩) (fun j => j ≤ s.length ∧ ∀ (q : Nat) c, q < j → s[q]? = some c → posOk i q c = true) (fun j => s.length - j) 0 ?_ ⟨Nat.zero_le _, by simp⟩ ?_
              · refine weak_of [] rfl (by simp [upT, up, upL, push_cast]) (by simp [upH, upR, upL, up, push_cast]) (by simp [namesOk, push_cast]) (by simp [olds])
              · rintro j ⟨hj, hall⟩
                refine Nav.imp ?_
                refine awp_region cx [] fun K hK => ?_
                simp [push_cast]
                repeat (refine And.intro (by clear hK; intros; first | omega | (simp_all; done) | (simp_all <;> omega)) ?_)
                refine hK _ ?_; clear hK K; refine Nav.imp ?_
                refine awp_cond (b := decide (j < s.length)) (by simp [push_cast]) (fun hb => ?_) (fun hb => ?_) <;> (refine Nav.imp ?_)
                · have hlt : j < s.length := by simpa using hb
                  obtain ⟨c, hc⟩ := getq hlt
                  have f0 := wrap_i64 (n := (j : Int) + 1) (by omega) (by omega)
                  have hr2 : ((j : Int)).tmod ((i : Int) + 1) = ((j % (i + 1) : Nat) : Int) := by
                    rw [show (i : Int) + 1 = ((i + 1 : Nat) : Int) by omega]
                    exact (Int.ofNat_tmod _ _).symm
                  have o1 := fun (u v : Operand) => opres_index (P := Tryd.prog) (x := u) (y := v) str_und s .i64 (j : Int) c (by omega) (by simpa using hc)
                  have hstep : posOk i j c = true → ∀ (q : Nat) c, q < j + 1 → s[q]? = some c → posOk i q c = true := fun hp q c' hq hc' => by
                    by_cases e : q < j
                    · exact hall q c' e hc'
                    · have : q = j := by omega
                      subst this
                      rw [hc] at hc'; cases hc'; exact hp
                  have hbad : posOk i j c = false → W = 0 := fun hp => by
                    rw [hw, if_neg]
                    intro ha
                    have := List.all_eq_true.1 ha j (List.mem_range.2 hlt)
                    rw [hc] at this
                    simp only at this
                    rw [hp] at this
                    cases this
                  have hP : posOk i j c = if j % (i + 1) = i then c == 10 else okCh c := rfl
                  by_cases e : j % (i + 1) = i
                  · rw [if_pos e] at hP
                    rw [e] at hr2
                    refine awp_region cx [] fun K hK => ?_
                    simp [push_cast, e0, hr2, hnz]
                    repeat (refine And.intro (by clear hK; intros; first | omega | (simp_all; done) | (simp_all <;> omega)) ?_)
                    refine hK _ ?_; clear hK K; refine Nav.imp ?_
                    by_cases g1 : c = 10
                    · subst g1
                      refine awp_region cx [(4, .p (.int .u8 10)), (13, .p (.int .u8 10)), (19, .p (.int .u8 10))] fun K hK => ?_
                      simp [push_cast, o1]
                      repeat (refine And.intro (by clear hK; intros; first | omega | (simp_all; done) | (simp_all <;> omega)) ?_)
                      refine hK _ ?_; clear hK K; refine Nav.imp ?_
                      refine awp_cond (b := false) (by simp [push_cast]) (fun hb => ?_) (fun hb => ?_) <;> (refine Nav.imp ?_)
                      · simp at hb
                      · refine awp_region cx [] fun K hK => ?_
                        simp [push_cast, f0]
                        repeat (refine And.intro (by clear hK; intros; first | omega | (simp_all; done) | (simp_all <;> omega)) ?_)
                        refine hK _ ?_; clear hK K; refine Nav.imp ?_
                        refine ⟨j + 1, ⟨hlt, hstep (by rw [hP]; rfl)⟩, by omega, ?_⟩
                        refine weak_of [] rfl (by simp [upT, up, upL, push_cast]) (by simp [upH, upR, upL, up, push_cast]) (by simp [namesOk, push_cast]) (by simp [olds])
                    · have g2 : ((c.toNat : Int) == 10) = false := by rw [show (10 : Int) = ((10 : Nat) : Int) from rfl, nat_ne c 10 (by omega)]; simpa using g1
                      have g3 : ¬ ((c.toNat : Int) = 10) := by simpa using g2
                      rw [hbad (by rw [hP]; simpa using g1)]
                      refine awp_region cx [(4, .p (.int .u8 c.toNat)), (13, .p (.int .u8 c.toNat)), (19, .p (.int .u8 c.toNat))] fun K hK => ?_
                      simp [push_cast, o1, g2, g3]
                      repeat (refine And.intro (by clear hK; intros; first | omega | (simp_all; done) | (simp_all <;> omega)) ?_)
                      refine hK _ ?_; clear hK K; refine Nav.imp ?_
                      refine awp_cond (b := true) (by simp [push_cast, g3]) (fun hb => ?_) (fun hb => ?_) <;> (refine Nav.imp ?_)
                      · refine awp_region cx [] fun K hK => ?_
                        simp [push_cast]
                        repeat (refine And.intro (by clear hK; intros; first | omega | (simp_all; done) | (simp_all <;> omega)) ?_)
                        refine hK _ ?_; clear hK K; refine Nav.imp ?_
                        simp [push_cast]
                      · simp at hb
                  · rw [if_neg e] at hP
                    generalize j % (i + 1) = md at *
                    have e2 : ((md : Int) == (i : Int)) = false := by simp; omega
                    refine awp_region cx [] fun K hK => ?_
                    simp [push_cast, e0, hr2, hnz, e2]
                    repeat (refine And.intro (by clear hK; intros; first | omega | (simp_all; done) | (simp_all <;> omega)) ?_)
                    refine hK _ ?_; clear hK K; refine Nav.imp ?_
                    by_cases g1 : c = 35
                    · subst g1
                      refine awp_region cx [(4, .p (.int .u8 35)), (13, .p (.int .u8 35)), (19, .p (.int .u8 35))] fun K hK => ?_
                      simp [push_cast, o1, e]
                      repeat (refine And.intro (by clear hK; intros; first | omega | (simp_all; done) | (simp_all <;> omega)) ?_)
                      refine hK _ ?_; clear hK K; refine Nav.imp ?_
                      refine awp_cond (b := false) (by simp [push_cast, e]) (fun hb => ?_) (fun hb => ?_) <;> (refine Nav.imp ?_)
                      · simp at hb
                      · refine awp_region cx [] fun K hK => ?_
                        simp [push_cast, f0]
                        repeat (refine And.intro (by clear hK; intros; first | omega | (simp_all; done) | (simp_all <;> omega)) ?_)
                        refine hK _ ?_; clear hK K; refine Nav.imp ?_
                        refine ⟨j + 1, ⟨hlt, hstep (by rw [hP]; rfl)⟩, by omega, ?_⟩
                        refine weak_of [] rfl (by simp [upT, up, upL, push_cast]) (by simp [upH, upR, upL, up, push_cast]) (by simp [namesOk, push_cast]) (by simp [olds])
                    · have g2 : ((c.toNat : Int) == 35) = false := by rw [show (35 : Int) = ((35 : Nat) : Int) from rfl, nat_ne c 35 (by omega)]; simpa using g1
                      have g3 : ¬ ((c.toNat : Int) = 35) := by simpa using g2
                      by_cases g4 : c = 46
                      · subst g4
                        refine awp_region cx [(4, .p (.int .u8 46)), (13, .p (.int .u8 46)), (19, .p (.int .u8 46))] fun K hK => ?_
                        simp [push_cast, o1, e]
                        repeat (refine And.intro (by clear hK; intros; first | omega | (simp_all; done) | (simp_all <;> omega)) ?_)
                        refine hK _ ?_; clear hK K; refine Nav.imp ?_
                        refine awp_cond (b := false) (by simp [push_cast, e]) (fun hb => ?_) (fun hb => ?_) <;> (refine Nav.imp ?_)
                        · simp at hb
                        · refine awp_region cx [] fun K hK => ?_
                          simp [push_cast, f0]
                          repeat (refine And.intro (by clear hK; intros; first | omega | (simp_all; done) | (simp_all <;> omega)) ?_)
                          refine hK _ ?_; clear hK K; refine Nav.imp ?_
                          refine ⟨j + 1, ⟨hlt, hstep (by rw [hP]; rfl)⟩, by omega, ?_⟩
                          refine weak_of [] rfl (by simp [upT, up, upL, push_cast]) (by simp [upH, upR, upL, up, push_cast]) (by simp [namesOk, push_cast]) (by simp [olds])
                      · have g5 : ((c.toNat : Int) == 46) = false := by rw [show (46 : Int) = ((46 : Nat) : Int) from rfl, nat_ne c 46 (by omega)]; simpa using g4
                        have g6 : ¬ ((c.toNat : Int) = 46) := by simpa using g5
                        rw [hbad (by rw [hP]; simp [okCh, g1, g4])]
                        refine awp_region cx [(4, .p (.int .u8 c.toNat)), (13, .p (.int .u8 c.toNat)), (19, .p (.int .u8 c.toNat))] fun K hK => ?_
                        simp [push_cast, o1, e, g2, g3, g5, g6]
                        repeat (refine And.intro (by clear hK; intros; first | omega | (simp_all; done) | (simp_all <;> omega)) ?_)
                        refine hK _ ?_; clear hK K; refine Nav.imp ?_
                        refine awp_cond (b := true) (by simp [push_cast, e, g3, g6]) (fun hb => ?_) (fun hb => ?_) <;> (refine Nav.imp ?_)
                        · refine awp_region cx [] fun K hK => ?_
                          simp [push_cast]
                          repeat (refine And.intro (by clear hK; intros; first | omega | (simp_all; done) | (simp_all <;> omega)) ?_)
                          refine hK _ ?_; clear hK K; refine Nav.imp ?_
                          simp [push_cast]
                        · simp at hb
                · have hje : j = s.length := by simp at hb; omega
                  have hap : allPos s i = true := by
                    unfold allPos
                    rw [List.all_eq_true]
                    intro q hq
                    obtain ⟨c, hc⟩ := getq (List.mem_range.1 hq)
                    rw [hc]
                    exact hall q c (by rw [hje]; exact List.mem_range.1 hq) hc
                  rw [if_pos hap] at hw
                  subst hw
                  refine awp_region cx [] fun K hK => ?_
                  simp [push_cast]
                  repeat (refine And.intro (by clear hK; intros; first | omega | (simp_all; done) | (simp_all <;> omega)) ?_)
                  refine hK _ ?_; clear hK K; refine Nav.imp ?_
                  simp [push_cast]
end Go.Proofs.YtcjmmdlbbdnahaaDoor

namespace Go.Proofs.YtcjmmdlbbdnahaaDoor
open Go.Abs Go.Shelf

theorem widP_le (s : List UInt8) : widP s ≤ s.length := by
  unfold widP
  split
  · omega
  · split
    · exact (fstN_facts s).1
    · omega
set_option maxHeartbeats 8000000 in
theorem rread_ok (s : List UInt8) (o : Cell) (hs : s.length ≤ 65536) : PC Tryd.prog 12 [strD s, .agg o.row] (.p (readR s o)) := by
  have o0 := fun (x y : Operand) (yt : TypeId) => opres_eq (P := Tryd.prog) (x := x) (y := y) (yt := yt) str_und s []
  have q0 : decide ((65536 : Int) < s.length) = false := by simp; omega
  by_cases h0 : s = []
  · subst h0
    have hl : readR [] o = .tup [.agg (regRow []), .int .i64 0] := by
      have h1 : linesP [] = some [] := rfl
      unfold readR
      rw [if_neg (by simp), h1]
      simp [cellsT, ofD, ofR, ofE, sortY, build]
    rw [hl]
    refine pc_of_awp cx (fn := Tryd.f12) (c := _) Tryd.func12 rfl rfl (Nat.le_of_ble_eq_true rfl) ?_
    rw [Tryd.ntmps12]; refine Nav.imp ?_
    refine awp_region cx [] fun K hK => ?_
    simp [push_cast]
    repeat (refine And.intro (by clear hK; intros; first | omega | (simp_all; done) | (simp_all <;> omega)) ?_)
    refine hK _ ?_; clear hK K; refine Nav.imp ?_
    refine awp_region cx [] fun K hK => ?_
    simp [push_cast]
    repeat (refine And.intro (by clear hK; intros; first | omega | (simp_all; done) | (simp_all <;> omega)) ?_)
    refine hK _ ?_; clear hK K; refine Nav.imp ?_
    refine awp_cond (b := false) (by simp [push_cast]) (fun hb => ?_) (fun hb => ?_) <;> (refine Nav.imp ?_)
    · simp at hb
    · refine awp_region cx [(1, .p (.bool true))] fun K hK => ?_
      simp [push_cast, o0]
      repeat (refine And.intro (by clear hK; intros; first | omega | (simp_all; done) | (simp_all <;> omega)) ?_)
      refine hK _ ?_; clear hK K; refine Nav.imp ?_
      refine awp_cond (b := true) (by simp [push_cast]) (fun hb => ?_) (fun hb => ?_) <;> (refine Nav.imp ?_)
      · refine awp_region cx [] fun K hK => ?_
        simp [push_cast]
        repeat (refine And.intro (by clear hK; intros; first | omega | (simp_all; done) | (simp_all <;> omega)) ?_)
        refine hK _ ?_; clear hK K; refine Nav.imp ?_
        simp [push_cast]
      · simp at hb
  have hne : (s == ([] : List UInt8)) = false := by simpa using h0
  rw [hne] at o0
  rw [read_both o h0 hs]
  have c1 := width_ok s (by omega)
  have hwl := widP_le s
  obtain ⟨n, hn⟩ : ∃ n, widP s = n := ⟨_, rfl⟩
  rw [hn] at c1 hwl ⊢
  clear hn
  by_cases hz : n = 0
  · subst hz
    rw [if_pos rfl]
    refine pc_of_awp cx (fn := Tryd.f12) (c := _) Tryd.func12 rfl rfl (Nat.le_of_ble_eq_true rfl) ?_
    rw [Tryd.ntmps12]; refine Nav.imp ?_
    refine awp_region cx [] fun K hK => ?_
    simp [push_cast]
    repeat (refine And.intro (by clear hK; intros; first | omega | (simp_all; done) | (simp_all <;> omega)) ?_)
    refine hK _ ?_; clear hK K; refine Nav.imp ?_
    refine awp_region cx [] fun K hK => ?_
    simp [push_cast]
    repeat (refine And.intro (by clear hK; intros; first | omega | (simp_all; done) | (simp_all <;> omega)) ?_)
    refine hK _ ?_; clear hK K; refine Nav.imp ?_
    refine awp_cond (b := false) (by simp [push_cast, q0]) (fun hb => ?_) (fun hb => ?_) <;> (refine Nav.imp ?_)
    · simp at hb
    · refine awp_region cx [(1, .p (.bool false))] fun K hK => ?_
      simp [push_cast, o0]
      repeat (refine And.intro (by clear hK; intros; first | omega | (simp_all; done) | (simp_all <;> omega)) ?_)
      refine hK _ ?_; clear hK K; refine Nav.imp ?_
      refine awp_cond (b := false) (by simp [push_cast]) (fun hb => ?_) (fun hb => ?_) <;> (refine Nav.imp ?_)
      · simp at hb
      · refine awp_region cx [(1, .p (.int .i64 0))] fun K hK => ?_
        simp [push_cast, c1]
        repeat (refine And.intro (by clear hK; intros; first | omega | (simp_all; done) | (simp_all <;> omega)) ?_)
        refine hK _ ?_; clear hK K; refine Nav.imp ?_
        refine awp_region cx [] fun K hK => ?_
        simp [push_cast]
        repeat (refine And.intro (by clear hK; intros; first | omega | (simp_all; done) | (simp_all <;> omega)) ?_)
        refine hK _ ?_; clear hK K; refine Nav.imp ?_
        refine awp_cond (b := true) (by simp [push_cast]) (fun hb => ?_) (fun hb => ?_) <;> (refine Nav.imp ?_)
        · refine awp_region cx [] fun K hK => ?_
          simp [push_cast]
          repeat (refine And.intro (by clear hK; intros; first | omega | (simp_all; done) | (simp_all <;> omega)) ?_)
          refine hK _ ?_; clear hK K; refine Nav.imp ?_
          simp [push_cast]
        · simp at hb
  rw [if_neg hz]
  have hnz : ((n : Int) == 0) = false := by simp; omega
  have hnz2 : ¬ ((n : Int) = 0) := by omega
  have hquo : ((s.length : Int)).tdiv ((n : Int) + 1) = ((s.length / (n + 1) : Nat) : Int) := by
    rw [show (n : Int) + 1 = ((n + 1 : Nat) : Int) by omega]
    exact (Int.ofNat_tdiv _ _).symm
  have hh : s.length / (n + 1) * (n + 1) ≤ s.length := Nat.div_mul_le_self ..
  have hh2 : s.length / (n + 1) ≤ s.length := Nat.div_le_self ..
  generalize s.length / (n + 1) = h at *
  have hnext := cellsB_next s o n h
  have hcl : ∀ m, m ≤ h → (cellsB s o n h m).length ≤ s.length := fun m hm => by
    have h1 := cellsB_len s o n h m
    have h2 : m * n ≤ h * (n + 1) := Nat.mul_le_mul hm (by omega)
    omega
  have hbad : ∀ c m, m ≤ h → c ∈ cellsB s o n h m → c ∈ cellsB s o n h h := fun c m hm hc => by
    unfold cellsB at hc ⊢
    rw [List.mem_flatMap] at hc ⊢
    obtain ⟨i, h1, h2⟩ := hc
    exact ⟨i, List.mem_range.2 (by have := List.mem_range.1 h1; omega), h2⟩
  have g0 := wrap_i64 (n := (n : Int) + 1) (by omega) (by omega)
  have g1 := wrap_i64 (n := (h : Int)) (by omega) (by omega)
  have g2 : ¬ ((n : Int) + 1 = 0) := by omega
  refine pc_of_awp cx (fn := Tryd.f12) (c := _) Tryd.func12 rfl rfl (Nat.le_of_ble_eq_true rfl) ?_
  rw [Tryd.ntmps12]; refine Nav.imp ?_
  refine awp_region cx [] fun K hK => ?_
  simp [push_cast]
  repeat (refine And.intro (by clear hK; intros; first | omega | (simp_all; done) | (simp_all <;> omega)) ?_)
  refine hK _ ?_; clear hK K; refine Nav.imp ?_
  refine awp_region cx [] fun K hK => ?_
  simp [push_cast]
  repeat (refine And.intro (by clear hK; intros; first | omega | (simp_all; done) | (simp_all <;> omega)) ?_)
  refine hK _ ?_; clear hK K; refine Nav.imp ?_
  refine awp_cond (b := false) (by simp [push_cast, q0]) (fun hb => ?_) (fun hb => ?_) <;> (refine Nav.imp ?_)
  · simp at hb
  · refine awp_region cx [(1, .p (.bool false))] fun K hK => ?_
    simp [push_cast, o0]
    repeat (refine And.intro (by clear hK; intros; first | omega | (simp_all; done) | (simp_all <;> omega)) ?_)
    refine hK _ ?_; clear hK K; refine Nav.imp ?_
    refine awp_cond (b := false) (by simp [push_cast]) (fun hb => ?_) (fun hb => ?_) <;> (refine Nav.imp ?_)
    · simp at hb
    · refine awp_region cx [(1, .p (.int .i64 n))] fun K hK => ?_
      simp [push_cast, c1]
      repeat (refine And.intro (by clear hK; intros; first | omega | (simp_all; done) | (simp_all <;> omega)) ?_)
      refine hK _ ?_; clear hK K; refine Nav.imp ?_
      refine awp_region cx [] fun K hK => ?_
      simp [push_cast]
      repeat (refine And.intro (by clear hK; intros; first | omega | (simp_all; done) | (simp_all <;> omega)) ?_)
      refine hK _ ?_; clear hK K; refine Nav.imp ?_
      refine awp_cond (b := false) (by simp [push_cast, hz]) (fun hb => ?_) (fun hb => ?_) <;> (refine Nav.imp ?_)
      · simp at hb
      · refine awp_region cx [] fun K hK => ?_
        simp [push_cast]
        repeat (refine And.intro (by clear hK; intros; first | omega | (simp_all; done) | (simp_all <;> omega)) ?_)
        refine hK _ ?_; clear hK K; refine Nav.imp ?_
        refine awp_region cx [] fun K hK => ?_
        simp [push_cast, hquo, g0, g1, g2]
        repeat (refine And.intro (by clear hK; intros; first | omega | (simp_all; done) | (simp_all <;> omega)) ?_)
        refine hK _ ?_; clear hK K; refine Nav.imp ?_
        refine awp_region cx [] fun K hK => ?_
        simp [push_cast]
        repeat (refine And.intro (by clear hK; intros; first | omega | (simp_all; done) | (simp_all <;> omega)) ?_)
        refine hK _ ?_; clear hK K; refine Nav.imp ?_
        refine awp_loop (β := Nat) (fun y => ⟨93, [(0, .d (strD s)), (3, .ptr 0 0 0), (4, .ptr 1 0 0), (5, .d (.int .i64 0)), (6, .d (.int .i64 n)), (7, if (cellsB s o n h y) = [] then .nl else .hs 2 0 (cellsB s o n h y).length), (8, .d (.int .i64 h)), (9, .d (.int .i64 y))], if (cellsB s o n h y) = [] then [(0, some ⟨29, 2, [o.row.map .d]⟩), (1, some ⟨24, 1, [[.nl]]⟩)] else [(0, some ⟨29, 2, [o.row.map .d]⟩), (1, some ⟨24, 1, [[.nl]]⟩), (2, some ⟨29, 2, dr ((cellsB s o n h y).map Cell.row)⟩)], 3⟩) (fun y => y ≤ h ∧ ∀ c ∈ cellsB s o n h y, onG c = true) (fun y => h - y) 0 ?_ ⟨Nat.zero_le _, by simp [cellsB]⟩ ?_
        · simp only [show cellsB s o n h 0 = [] from rfl, if_true]
          refine weak_of [(0, some 0), (1, some 1)] rfl (by simp [upT, up, upL, push_cast]) (by simp [upH, upR, upL, up, push_cast]) (by simp [namesOk, push_cast]) (by simp [olds])
        · rintro y ⟨hy, hall⟩
          have hlen := hcl y hy
          generalize hA : cellsB s o n h y = A at *
          refine Nav.imp ?_
          by_cases hA0 : A = []
          · simp only [if_pos hA0]
            refine awp_region cx [] fun K hK => ?_
            simp [push_cast]
            repeat (refine And.intro (by clear hK; intros; first | omega | (simp_all; done) | (simp_all <;> omega)) ?_)
            refine hK _ ?_; clear hK K; refine Nav.imp ?_
            refine awp_cond (b := decide ((y : Int) < h)) (by simp [push_cast]) (fun hb => ?_) (fun hb => ?_) <;> (refine Nav.imp ?_)
            · have hlt : y < h := by simpa using hb
              have hnx := hnext y
              rw [hA] at hnx
              have hxl : (cellsB s o n h (y + 1)).length ≤ 1000000 := Nat.le_trans (hcl (y + 1) hlt) (by omega)
              have hbad2 := fun c => hbad c (y + 1) hlt
              obtain ⟨i0, hi0⟩ : ∃ i0, (h - 1 - y) * (n + 1) = i0 := ⟨_, rfl⟩
              have hi1 : i0 + (n + 1) ≤ s.length := by
                have : (h - 1 - y + 1) * (n + 1) ≤ h * (n + 1) := Nat.mul_le_mul_right _ (by omega)
                rw [Nat.succ_mul, hi0] at this
                omega
              have e0 := wrap_i64 (n := (y : Int) + 1) (by omega) (by omega)
              have e1 := wrap_i64 (n := (h : Int) - 1) (by omega) (by omega)
              have e2 := wrap_i64 (n := (h : Int) - 1 - y) (by omega) (by omega)
              have e3 : (h : Int) - 1 - y = ((h - 1 - y : Nat) : Int) := by omega
              have e4 := wrap_i64 (n := (n : Int) + 1) (by omega) (by omega)
              have e5 : ((h - 1 - y : Nat) : Int) * ((n : Int) + 1) = (i0 : Int) := by rw [← hi0]; push_cast; rfl
              have e6 := wrap_i64 (n := (i0 : Int)) (by omega) (by omega)
              rw [e3] at e2
              have e7 := wrap_i64 (n := (-4096 : Int) - y) (by omega) (by omega)
              have e8 := wrap_i64 (n := (4096 : Int) - y) (by omega) (by omega)
              have hi0c : True := trivial
              refine awp_region cx [] fun K hK => ?_
              simp [push_cast]
              repeat (refine And.intro (by clear hK; intros; first | omega | (simp_all; done) | (simp_all <;> omega)) ?_)
              refine hK _ ?_; clear hK K; refine Nav.imp ?_
              refine awp_loop (β := Nat × List Cell) (fun z => ⟨93, [(0, .d (strD s)), (3, .ptr 0 0 0), (4, .ptr 1 0 0), (5, .d (.int .i64 0)), (6, .d (.int .i64 n)), (7, if z.2 = [] then .nl else .hs 2 0 z.2.length), (8, .d (.int .i64 h)), (9, .d (.int .i64 y)), (10, .d (.int .i64 z.1))], if z.2 = [] then [(0, some ⟨29, 2, [o.row.map .d]⟩), (1, some ⟨24, 1, [[.nl]]⟩)] else [(0, some ⟨29, 2, [o.row.map .d]⟩), (1, some ⟨24, 1, [[.nl]]⟩), (2, some ⟨29, 2, dr (z.2.map Cell.row)⟩)], 3⟩) (fun z => z.1 ≤ n ∧ z.2 = A ++ lineB s o n h y z.1 ∧ ∀ c ∈ z.2, onG c = true) (fun z => n - z.1) (0, A) ?_ ⟨Nat.zero_le _, by simp [lineB], hall⟩ ?_
              · simp only [if_pos hA0]
                refine weak_of [(0, some 0), (1, some 1)] rfl (by simp [upT, up, upL, push_cast]) (by simp [upH, upR, upL, up, push_cast]) (by simp [namesOk, push_cast]) (by simp [olds])
              · rintro ⟨k, B⟩ ⟨hk, hB, hall2⟩
                simp only at hk hB hall2
                by_cases hB0 : B = []
                · simp only [if_pos hB0]
                  refine Nav.imp ?_
                  refine awp_region cx [] fun K hK => ?_
                  simp [push_cast]
                  repeat (refine And.intro (by clear hK; intros; first | omega | (simp_all; done) | (simp_all <;> omega)) ?_)
                  refine hK _ ?_; clear hK K; refine Nav.imp ?_
                  refine awp_cond (b := decide ((k : Int) < n)) (by simp [push_cast]) (fun hb => ?_) (fun hb => ?_) <;> (refine Nav.imp ?_)
                  · have hlk : k < n := by simpa using hb
                    have hil : i0 + k < s.length := by omega
                    obtain ⟨c, hc⟩ := getq hil
                    have o1 := fun (u v : Operand) => opres_index (P := Tryd.prog) (x := u) (y := v) str_und s .i64 ((i0 : Int) + k) c (by omega) (by rw [show ((i0 : Int) + k).toNat = i0 + k by omega]; exact hc)
                    have f0 := wrap_i64 (n := (k : Int) + 1) (by omega) (by omega)
                    have f1 := wrap_i64 (n := (i0 : Int) + k) (by omega) (by omega)
                    have f2 := wrap_i64 (n := (-4096 : Int) - k) (by omega) (by omega)
                    have f3 := wrap_i64 (n := (4096 : Int) - k) (by omega) (by omega)
                    have hBn : (B ++ [(⟨o.x + k, o.y + y⟩ : Cell)]).length ≤ 200000 := by
                      have := lineB_len s o n h y k
                      rw [hB]
                      simp
                      omega
                    have h16 : (B.length + 1) * 16 ≤ 140737488355328 := by simp at hBn; omega
                    have hnl := lineB_next s o n h y k
                    rw [hi0, hc] at hnl
                    by_cases e : c = 35
                    · subst e
                      rw [if_pos rfl] at hnl
                      have hon : onG (⟨o.x + k, o.y + y⟩ : Cell) = !(decide (o.x < -4096 - (k : Int)) || decide (4096 - (k : Int) ≤ o.x) || decide (o.y < -4096 - (y : Int)) || decide (4096 - (y : Int) ≤ o.y)) := by
                        rw [Bool.eq_iff_iff]
                        simp [onG, okB]
                        omega
                      refine awp_region cx [(10, .p (.int .u8 35))] fun K hK => ?_
                      simp [push_cast, o1, e1, e2, e3, e4, e5, e6, f1, hi0c]
                      repeat (refine And.intro (by clear hK; intros; first | omega | (simp_all; done) | (simp_all <;> omega)) ?_)
                      refine hK _ ?_; clear hK K; refine Nav.imp ?_
                      refine awp_cond (b := false) (by simp [push_cast]) (fun hb => ?_) (fun hb => ?_) <;> (refine Nav.imp ?_)
                      · simp at hb
                      · cases hbb : (decide (o.x < -4096 - (k : Int)) || decide (4096 - (k : Int) ≤ o.x) || decide (o.y < -4096 - (y : Int)) || decide (4096 - (y : Int) ≤ o.y)) with
                        | true =>
                          rw [hbb] at hon
                          have hmem : (⟨o.x + k, o.y + y⟩ : Cell) ∈ cellsB s o n h h := by
                            refine hbad2 _ ?_
                            rw [hnx, List.mem_append]
                            right
                            unfold lineB
                            rw [List.mem_filterMap]
                            exact ⟨k, List.mem_range.2 hlk, by rw [hi0, hc]; simp⟩
                          rw [ofD_bad hmem hon]
                          refine awp_region cx [] fun K hK => ?_
                          simp [push_cast, f2, f3, e7, e8]
                          repeat (refine And.intro (by clear hK; intros; first | omega | (simp_all; done) | (simp_all <;> omega)) ?_)
                          refine hK _ ?_; clear hK K; refine Nav.imp ?_
                          refine awp_cond (b := true) (by simp [push_cast, hbb]) (fun hb => ?_) (fun hb => ?_) <;> (refine Nav.imp ?_)
                          · refine awp_region cx [] fun K hK => ?_
                            simp [push_cast]
                            repeat (refine And.intro (by clear hK; intros; first | omega | (simp_all; done) | (simp_all <;> omega)) ?_)
                            refine hK _ ?_; clear hK K; refine Nav.imp ?_
                            simp [push_cast]
                          · simp at hb
                        | false =>
                          rw [hbb] at hon
                          have f4 := wrap_i64 (n := o.x + k) (by simp [onG, okB] at hon; omega) (by simp [onG, okB] at hon; omega)
                          have f5 := wrap_i64 (n := o.y + y) (by simp [onG, okB] at hon; omega) (by simp [onG, okB] at hon; omega)
                          refine awp_region cx [] fun K hK => ?_
                          simp [push_cast, f2, f3, e7, e8]
                          repeat (refine And.intro (by clear hK; intros; first | omega | (simp_all; done) | (simp_all <;> omega)) ?_)
                          refine hK _ ?_; clear hK K; refine Nav.imp ?_
                          refine awp_cond (b := false) (by simp [push_cast, hbb]) (fun hb => ?_) (fun hb => ?_) <;> (refine Nav.imp ?_)
                          · simp at hb
                          · refine awp_region cx [] fun K hK => ?_
                            simp [push_cast, h16, f4, f5]
                            repeat (refine And.intro (by clear hK; intros; first | omega | (simp_all; done) | (simp_all <;> omega)) ?_)
                            refine hK _ ?_; clear hK K; refine Nav.imp ?_
                            refine awp_region cx [] fun K hK => ?_
                            simp [push_cast, f0]
                            repeat (refine And.intro (by clear hK; intros; first | omega | (simp_all; done) | (simp_all <;> omega)) ?_)
                            refine hK _ ?_; clear hK K; refine Nav.imp ?_
                            refine ⟨(k + 1, B ++ [⟨o.x + k, o.y + y⟩]), ⟨hlk, by rw [hnl, hB, List.append_assoc], fun c' hc' => ?_⟩, by simp only; omega, ?_⟩
                            · rcases List.mem_append.1 hc' with h | h
                              · exact hall2 c' h
                              · simp at h; rw [h]; exact hon
                            · simp only [show ¬ (B ++ [(⟨o.x + k, o.y + y⟩ : Cell)] = []) by simp, if_false]
                              refine weak_of [(0, some 0), (1, some 1), (2, some 55)] rfl (by simp [upT, up, upL, push_cast, hB0]) (by simp [upH, upR, upL, up, push_cast, hB0]) (by simp [namesOk, push_cast]) (by simp [olds])
                    · have hne : ((c.toNat : Int) == 35) = false := by rw [show (35 : Int) = ((35 : Nat) : Int) from rfl, nat_ne c 35 (by omega)]; simpa using e
                      have hne2 : ¬ ((c.toNat : Int) = 35) := by simpa using hne
                      rw [if_neg (by simpa using e), List.append_nil] at hnl
                      refine awp_region cx [(10, .p (.int .u8 c.toNat))] fun K hK => ?_
                      simp [push_cast, o1, e1, e2, e3, e4, e5, e6, f1, hi0c]
                      repeat (refine And.intro (by clear hK; intros; first | omega | (simp_all; done) | (simp_all <;> omega)) ?_)
                      refine hK _ ?_; clear hK K; refine Nav.imp ?_
                      refine awp_cond (b := true) (by simp [push_cast, hne2]) (fun hb => ?_) (fun hb => ?_) <;> (refine Nav.imp ?_)
                      · refine awp_region cx [] fun K hK => ?_
                        simp [push_cast, f0]
                        repeat (refine And.intro (by clear hK; intros; first | omega | (simp_all; done) | (simp_all <;> omega)) ?_)
                        refine hK _ ?_; clear hK K; refine Nav.imp ?_
                        refine ⟨(k + 1, B), ⟨hlk, by rw [hnl]; exact hB, hall2⟩, by simp only; omega, ?_⟩
                        simp only [if_pos hB0]
                        refine weak_of [(0, some 0), (1, some 1)] rfl (by simp [upT, up, upL, push_cast]) (by simp [upH, upR, upL, up, push_cast]) (by simp [namesOk, push_cast]) (by simp [olds])
                      · simp at hb
                  · have hke : k = n := by simp at hb; omega
                    subst hke
                    rw [← hnx] at hB
                    refine awp_region cx [] fun K hK => ?_
                    simp [push_cast, e0]
                    repeat (refine And.intro (by clear hK; intros; first | omega | (simp_all; done) | (simp_all <;> omega)) ?_)
                    refine hK _ ?_; clear hK K; refine Nav.imp ?_
                    refine ⟨y + 1, ⟨hlt, by rw [← hB]; exact hall2⟩, by omega, ?_⟩
                    rw [← hB]
                    simp only [if_pos hB0]
                    refine weak_of [(0, some 0), (1, some 1)] rfl (by simp [upT, up, upL, push_cast]) (by simp [upH, upR, upL, up, push_cast]) (by simp [namesOk, push_cast]) (by simp [olds])
                · simp only [if_neg hB0]
                  refine Nav.imp ?_
                  refine awp_region cx [] fun K hK => ?_
                  simp [push_cast]
                  repeat (refine And.intro (by clear hK; intros; first | omega | (simp_all; done) | (simp_all <;> omega)) ?_)
                  refine hK _ ?_; clear hK K; refine Nav.imp ?_
                  refine awp_cond (b := decide ((k : Int) < n)) (by simp [push_cast]) (fun hb => ?_) (fun hb => ?_) <;> (refine Nav.imp ?_)
                  · have hlk : k < n := by simpa using hb
                    have hil : i0 + k < s.length := by omega
                    obtain ⟨c, hc⟩ := getq hil
                    have o1 := fun (u v : Operand) => opres_index (P := Tryd.prog) (x := u) (y := v) str_und s .i64 ((i0 : Int) + k) c (by omega) (by rw [show ((i0 : Int) + k).toNat = i0 + k by omega]; exact hc)
                    have f0 := wrap_i64 (n := (k : Int) + 1) (by omega) (by omega)
                    have f1 := wrap_i64 (n := (i0 : Int) + k) (by omega) (by omega)
                    have f2 := wrap_i64 (n := (-4096 : Int) - k) (by omega) (by omega)
                    have f3 := wrap_i64 (n := (4096 : Int) - k) (by omega) (by omega)
                    have hBn : (B ++ [(⟨o.x + k, o.y + y⟩ : Cell)]).length ≤ 200000 := by
                      have := lineB_len s o n h y k
                      rw [hB]
                      simp
                      omega
                    have h16 : (B.length + 1) * 16 ≤ 140737488355328 := by simp at hBn; omega
                    have hnl := lineB_next s o n h y k
                    rw [hi0, hc] at hnl
                    by_cases e : c = 35
                    · subst e
                      rw [if_pos rfl] at hnl
                      have hon : onG (⟨o.x + k, o.y + y⟩ : Cell) = !(decide (o.x < -4096 - (k : Int)) || decide (4096 - (k : Int) ≤ o.x) || decide (o.y < -4096 - (y : Int)) || decide (4096 - (y : Int) ≤ o.y)) := by
                        rw [Bool.eq_iff_iff]
                        simp [onG, okB]
                        omega
                      refine awp_region cx [(10, .p (.int .u8 35))] fun K hK => ?_
                      simp [push_cast, o1, e1, e2, e3, e4, e5, e6, f1, hi0c]
                      repeat (refine And.intro (by clear hK; intros; first | omega | (simp_all; done) | (simp_all <;> omega)) ?_)
                      refine hK _ ?_; clear hK K; refine Nav.imp ?_
                      refine awp_cond (b := false) (by simp [push_cast]) (fun hb => ?_) (fun hb => ?_) <;> (refine Nav.imp ?_)
                      · simp at hb
                      · cases hbb : (decide (o.x < -4096 - (k : Int)) || decide (4096 - (k : Int) ≤ o.x) || decide (o.y < -4096 - (y : Int)) || decide (4096 - (y : Int) ≤ o.y)) with
                        | true =>
                          rw [hbb] at hon
                          have hmem : (⟨o.x + k, o.y + y⟩ : Cell) ∈ cellsB s o n h h := by
                            refine hbad2 _ ?_
                            rw [hnx, List.mem_append]
                            right
                            unfold lineB
                            rw [List.mem_filterMap]
                            exact ⟨k, List.mem_range.2 hlk, by rw [hi0, hc]; simp⟩
                          rw [ofD_bad hmem hon]
                          refine awp_region cx [] fun K hK => ?_
                          simp [push_cast, f2, f3, e7, e8]
                          repeat (refine And.intro (by clear hK; intros; first | omega | (simp_all; done) | (simp_all <;> omega)) ?_)
                          refine hK _ ?_; clear hK K; refine Nav.imp ?_
                          refine awp_cond (b := true) (by simp [push_cast, hbb]) (fun hb => ?_) (fun hb => ?_) <;> (refine Nav.imp ?_)
                          · refine awp_region cx [] fun K hK => ?_
                            simp [push_cast]
                            repeat (refine And.intro (by clear hK; intros; first | omega | (simp_all; done) | (simp_all <;> omega)) ?_)
                            refine hK _ ?_; clear hK K; refine Nav.imp ?_
                            simp [push_cast]
                          · simp at hb
                        | false =>
                          rw [hbb] at hon
                          have f4 := wrap_i64 (n := o.x + k) (by simp [onG, okB] at hon; omega) (by simp [onG, okB] at hon; omega)
                          have f5 := wrap_i64 (n := o.y + y) (by simp [onG, okB] at hon; omega) (by simp [onG, okB] at hon; omega)
                          refine awp_region cx [] fun K hK => ?_
                          simp [push_cast, f2, f3, e7, e8]
                          repeat (refine And.intro (by clear hK; intros; first | omega | (simp_all; done) | (simp_all <;> omega)) ?_)
                          refine hK _ ?_; clear hK K; refine Nav.imp ?_
                          refine awp_cond (b := false) (by simp [push_cast, hbb]) (fun hb => ?_) (fun hb => ?_) <;> (refine Nav.imp ?_)
                          · simp at hb
                          · refine awp_region cx [] fun K hK => ?_
                            simp [push_cast, h16, f4, f5]
                            repeat (refine And.intro (by clear hK; intros; first | omega | (simp_all; done) | (simp_all <;> omega)) ?_)
                            refine hK _ ?_; clear hK K; refine Nav.imp ?_
                            refine awp_region cx [] fun K hK => ?_
                            simp [push_cast, f0]
                            repeat (refine And.intro (by clear hK; intros; first | omega | (simp_all; done) | (simp_all <;> omega)) ?_)
                            refine hK _ ?_; clear hK K; refine Nav.imp ?_
                            refine ⟨(k + 1, B ++ [⟨o.x + k, o.y + y⟩]), ⟨hlk, by rw [hnl, hB, List.append_assoc], fun c' hc' => ?_⟩, by simp only; omega, ?_⟩
                            · rcases List.mem_append.1 hc' with h | h
                              · exact hall2 c' h
                              · simp at h; rw [h]; exact hon
                            · simp only [show ¬ (B ++ [(⟨o.x + k, o.y + y⟩ : Cell)] = []) by simp, if_false]
                              refine weak_of [(0, some 0), (1, some 1), (2, some 55)] rfl (by simp [upT, up, upL, push_cast]) (by simp [upH, upR, upL, up, push_cast]) (by simp [namesOk, push_cast]) (by simp [olds])
                    · have hne : ((c.toNat : Int) == 35) = false := by rw [show (35 : Int) = ((35 : Nat) : Int) from rfl, nat_ne c 35 (by omega)]; simpa using e
                      have hne2 : ¬ ((c.toNat : Int) = 35) := by simpa using hne
                      rw [if_neg (by simpa using e), List.append_nil] at hnl
                      refine awp_region cx [(10, .p (.int .u8 c.toNat))] fun K hK => ?_
                      simp [push_cast, o1, e1, e2, e3, e4, e5, e6, f1, hi0c]
                      repeat (refine And.intro (by clear hK; intros; first | omega | (simp_all; done) | (simp_all <;> omega)) ?_)
                      refine hK _ ?_; clear hK K; refine Nav.imp ?_
                      refine awp_cond (b := true) (by simp [push_cast, hne2]) (fun hb => ?_) (fun hb => ?_) <;> (refine Nav.imp ?_)
                      · refine awp_region cx [] fun K hK => ?_
                        simp [push_cast, f0]
                        repeat (refine And.intro (by clear hK; intros; first | omega | (simp_all; done) | (simp_all <;> omega)) ?_)
                        refine hK _ ?_; clear hK K; refine Nav.imp ?_
                        refine ⟨(k + 1, B), ⟨hlk, by rw [hnl]; exact hB, hall2⟩, by simp only; omega, ?_⟩
                        simp only [if_neg hB0]
                        refine weak_of [(0, some 0), (1, some 1), (2, some 2)] rfl (by simp [upT, up, upL, push_cast]) (by simp [upH, upR, upL, up, push_cast]) (by simp [namesOk, push_cast]) (by simp [olds])
                      · simp at hb
                  · have hke : k = n := by simp at hb; omega
                    subst hke
                    rw [← hnx] at hB
                    refine awp_region cx [] fun K hK => ?_
                    simp [push_cast, e0]
                    repeat (refine And.intro (by clear hK; intros; first | omega | (simp_all; done) | (simp_all <;> omega)) ?_)
                    refine hK _ ?_; clear hK K; refine Nav.imp ?_
                    refine ⟨y + 1, ⟨hlt, by rw [← hB]; exact hall2⟩, by omega, ?_⟩
                    rw [← hB]
                    simp only [if_neg hB0]
                    refine weak_of [(0, some 0), (1, some 1), (2, some 2)] rfl (by simp [upT, up, upL, push_cast]) (by simp [upH, upR, upL, up, push_cast]) (by simp [namesOk, push_cast]) (by simp [olds])
            · have hje : y = h := by simp at hb; omega
              rw [hje] at hA
              rw [hA]
              have c3 := rof_ok A (by have := hcl h (Nat.le_refl _); rw [hA] at this; omega)
              subst hA0
              simp only [encCells, List.map_nil] at c3
              obtain ⟨rr, ee, hre⟩ : ∃ rr ee, ofD [] = .tup [.agg [rr], .int .i64 ee] := ⟨_, _, rfl⟩
              rw [hre] at c3 ⊢
              refine awp_region cx [(1, .p (.tup [.agg [rr], .int .i64 ee]))] fun K hK => ?_
              simp [push_cast, c3]
              repeat (refine And.intro (by clear hK; intros; first | omega | (simp_all; done) | (simp_all <;> omega)) ?_)
              refine hK _ ?_; clear hK K; refine Nav.imp ?_
              simp [push_cast]
          · simp only [if_neg hA0]
            refine awp_region cx [] fun K hK => ?_
            simp [push_cast]
            repeat (refine And.intro (by clear hK; intros; first | omega | (simp_all; done) | (simp_all <;> omega)) ?_)
            refine hK _ ?_; clear hK K; refine Nav.imp ?_
            refine awp_cond (b := decide ((y : Int) < h)) (by simp [push_cast]) (fun hb => ?_) (fun hb => ?_) <;> (refine Nav.imp ?_)
            · have hlt : y < h := by simpa using hb
              have hnx := hnext y
              rw [hA] at hnx
              have hxl : (cellsB s o n h (y + 1)).length ≤ 1000000 := Nat.le_trans (hcl (y + 1) hlt) (by omega)
              have hbad2 := fun c => hbad c (y + 1) hlt
              obtain ⟨i0, hi0⟩ : ∃ i0, (h - 1 - y) * (n + 1) = i0 := ⟨_, rfl⟩
              have hi1 : i0 + (n + 1) ≤ s.length := by
                have : (h - 1 - y + 1) * (n + 1) ≤ h * (n + 1) := Nat.mul_le_mul_right _ (by omega)
                rw [Nat.succ_mul, hi0] at this
                omega
              have e0 := wrap_i64 (n := (y : Int) + 1) (by omega) (by omega)
              have e1 := wrap_i64 (n := (h : Int) - 1) (by omega) (by omega)
              have e2 := wrap_i64 (n := (h : Int) - 1 - y) (by omega) (by omega)
              have e3 : (h : Int) - 1 - y = ((h - 1 - y : Nat) : Int) := by omega
              have e4 := wrap_i64 (n := (n : Int) + 1) (by omega) (by omega)
              have e5 : ((h - 1 - y : Nat) : Int) * ((n : Int) + 1) = (i0 : Int) := by rw [← hi0]; push_cast; rfl
              have e6 := wrap_i64 (n := (i0 : Int)) (by omega) (by omega)
              rw [e3] at e2
              have e7 := wrap_i64 (n := (-4096 : Int) - y) (by omega) (by omega)
              have e8 := wrap_i64 (n := (4096 : Int) - y) (by omega) (by omega)
              have hi0c : True := trivial
              refine awp_region cx [] fun K hK => ?_
              simp [push_cast]
              repeat (refine And.intro (by clear hK; intros; first | omega | (simp_all; done) | (simp_all <;> omega)) ?_)
              refine hK _ ?_; clear hK K; refine Nav.imp ?_
              refine awp_loop (β := Nat × List Cell) (fun z => ⟨93, [(0, .d (strD s)), (3, .ptr 0 0 0), (4, .ptr 1 0 0), (5, .d (.int .i64 0)), (6, .d (.int .i64 n)), (7, if z.2 = [] then .nl else .hs 2 0 z.2.length), (8, .d (.int .i64 h)), (9, .d (.int .i64 y)), (10, .d (.int .i64 z.1))], if z.2 = [] then [(0, some ⟨29, 2, [o.row.map .d]⟩), (1, some ⟨24, 1, [[.nl]]⟩)] else [(0, some ⟨29, 2, [o.row.map .d]⟩), (1, some ⟨24, 1, [[.nl]]⟩), (2, some ⟨29, 2, dr (z.2.map Cell.row)⟩)], 3⟩) (fun z => z.1 ≤ n ∧ z.2 = A ++ lineB s o n h y z.1 ∧ ∀ c ∈ z.2, onG c = true) (fun z => n - z.1) (0, A) ?_ ⟨Nat.zero_le _, by simp [lineB], hall⟩ ?_
              · simp only [if_neg hA0]
                refine weak_of [(0, some 0), (1, some 1), (2, some 2)] rfl (by simp [upT, up, upL, push_cast]) (by simp [upH, upR, upL, up, push_cast]) (by simp [namesOk, push_cast]) (by simp [olds])
              · rintro ⟨k, B⟩ ⟨hk, hB, hall2⟩
                simp only at hk hB hall2
                by_cases hB0 : B = []
                · simp only [if_pos hB0]
                  refine Nav.imp ?_
                  refine awp_region cx [] fun K hK => ?_
                  simp [push_cast]
                  repeat (refine And.intro (by clear hK; intros; first | omega | (simp_all; done) | (simp_all <;> omega)) ?_)
                  refine hK _ ?_; clear hK K; refine Nav.imp ?_
                  refine awp_cond (b := decide ((k : Int) < n)) (by simp [push_cast]) (fun hb => ?_) (fun hb => ?_) <;> (refine Nav.imp ?_)
                  · have hlk : k < n := by simpa using hb
                    have hil : i0 + k < s.length := by omega
                    obtain ⟨c, hc⟩ := getq hil
                    have o1 := fun (u v : Operand) => opres_index (P := Tryd.prog) (x := u) (y := v) str_und s .i64 ((i0 : Int) + k) c (by omega) (by rw [show ((i0 : Int) + k).toNat = i0 + k by omega]; exact hc)
                    have f0 := wrap_i64 (n := (k : Int) + 1) (by omega) (by omega)
                    have f1 := wrap_i64 (n := (i0 : Int) + k) (by omega) (by omega)
                    have f2 := wrap_i64 (n := (-4096 : Int) - k) (by omega) (by omega)
                    have f3 := wrap_i64 (n := (4096 : Int) - k) (by omega) (by omega)
                    have hBn : (B ++ [(⟨o.x + k, o.y + y⟩ : Cell)]).length ≤ 200000 := by
                      have := lineB_len s o n h y k
                      rw [hB]
                      simp
                      omega
                    have h16 : (B.length + 1) * 16 ≤ 140737488355328 := by simp at hBn; omega
                    have hnl := lineB_next s o n h y k
                    rw [hi0, hc] at hnl
                    by_cases e : c = 35
                    · subst e
                      rw [if_pos rfl] at hnl
                      have hon : onG (⟨o.x + k, o.y + y⟩ : Cell) = !(decide (o.x < -4096 - (k : Int)) || decide (4096 - (k : Int) ≤ o.x) || decide (o.y < -4096 - (y : Int)) || decide (4096 - (y : Int) ≤ o.y)) := by
                        rw [Bool.eq_iff_iff]
                        simp [onG, okB]
                        omega
                      refine awp_region cx [(10, .p (.int .u8 35))] fun K hK => ?_
                      simp [push_cast, o1, e1, e2, e3, e4, e5, e6, f1, hi0c]
                      repeat (refine And.intro (by clear hK; intros; first | omega | (simp_all; done) | (simp_all <;> omega)) ?_)
                      refine hK _ ?_; clear hK K; refine Nav.imp ?_
                      refine awp_cond (b := false) (by simp [push_cast]) (fun hb => ?_) (fun hb => ?_) <;> (refine Nav.imp ?_)
                      · simp at hb
                      · cases hbb : (decide (o.x < -4096 - (k : Int)) || decide (4096 - (k : Int) ≤ o.x) || decide (o.y < -4096 - (y : Int)) || decide (4096 - (y : Int) ≤ o.y)) with
                        | true =>
                          rw [hbb] at hon
                          have hmem : (⟨o.x + k, o.y + y⟩ : Cell) ∈ cellsB s o n h h := by
                            refine hbad2 _ ?_
                            rw [hnx, List.mem_append]
                            right
                            unfold lineB
                            rw [List.mem_filterMap]
                            exact ⟨k, List.mem_range.2 hlk, by rw [hi0, hc]; simp⟩
                          rw [ofD_bad hmem hon]
                          refine awp_region cx [] fun K hK => ?_
                          simp [push_cast, f2, f3, e7, e8]
                          repeat (refine And.intro (by clear hK; intros; first | omega | (simp_all; done) | (simp_all <;> omega)) ?_)
                          refine hK _ ?_; clear hK K; refine Nav.imp ?_
                          refine awp_cond (b := true) (by simp [push_cast, hbb]) (fun hb => ?_) (fun hb => ?_) <;> (refine Nav.imp ?_)
                          · refine awp_region cx [] fun K hK => ?_
                            simp [push_cast]
                            repeat (refine And.intro (by clear hK; intros; first | omega | (simp_all; done) | (simp_all <;> omega)) ?_)
                            refine hK _ ?_; clear hK K; refine Nav.imp ?_
                            simp [push_cast]
                          · simp at hb
                        | false =>
                          rw [hbb] at hon
                          have f4 := wrap_i64 (n := o.x + k) (by simp [onG, okB] at hon; omega) (by simp [onG, okB] at hon; omega)
                          have f5 := wrap_i64 (n := o.y + y) (by simp [onG, okB] at hon; omega) (by simp [onG, okB] at hon; omega)
                          refine awp_region cx [] fun K hK => ?_
                          simp [push_cast, f2, f3, e7, e8]
                          repeat (refine And.intro (by clear hK; intros; first | omega | (simp_all; done) | (simp_all <;> omega)) ?_)
                          refine hK _ ?_; clear hK K; refine Nav.imp ?_
                          refine awp_cond (b := false) (by simp [push_cast, hbb]) (fun hb => ?_) (fun hb => ?_) <;> (refine Nav.imp ?_)
                          · simp at hb
                          · refine awp_region cx [] fun K hK => ?_
                            simp [push_cast, h16, f4, f5]
                            repeat (refine And.intro (by clear hK; intros; first | omega | (simp_all; done) | (simp_all <;> omega)) ?_)
                            refine hK _ ?_; clear hK K; refine Nav.imp ?_
                            refine awp_region cx [] fun K hK => ?_
                            simp [push_cast, f0]
                            repeat (refine And.intro (by clear hK; intros; first | omega | (simp_all; done) | (simp_all <;> omega)) ?_)
                            refine hK _ ?_; clear hK K; refine Nav.imp ?_
                            refine ⟨(k + 1, B ++ [⟨o.x + k, o.y + y⟩]), ⟨hlk, by rw [hnl, hB, List.append_assoc], fun c' hc' => ?_⟩, by simp only; omega, ?_⟩
                            · rcases List.mem_append.1 hc' with h | h
                              · exact hall2 c' h
                              · simp at h; rw [h]; exact hon
                            · simp only [show ¬ (B ++ [(⟨o.x + k, o.y + y⟩ : Cell)] = []) by simp, if_false]
                              refine weak_of [(0, some 0), (1, some 1), (2, some 55)] rfl (by simp [upT, up, upL, push_cast, hB0]) (by simp [upH, upR, upL, up, push_cast, hB0]) (by simp [namesOk, push_cast]) (by simp [olds])
                    · have hne : ((c.toNat : Int) == 35) = false := by rw [show (35 : Int) = ((35 : Nat) : Int) from rfl, nat_ne c 35 (by omega)]; simpa using e
                      have hne2 : ¬ ((c.toNat : Int) = 35) := by simpa using hne
                      rw [if_neg (by simpa using e), List.append_nil] at hnl
                      refine awp_region cx [(10, .p (.int .u8 c.toNat))] fun K hK => ?_
                      simp [push_cast, o1, e1, e2, e3, e4, e5, e6, f1, hi0c]
                      repeat (refine And.intro (by clear hK; intros; first | omega | (simp_all; done) | (simp_all <;> omega)) ?_)
                      refine hK _ ?_; clear hK K; refine Nav.imp ?_
                      refine awp_cond (b := true) (by simp [push_cast, hne2]) (fun hb => ?_) (fun hb => ?_) <;> (refine Nav.imp ?_)
                      · refine awp_region cx [] fun K hK => ?_
                        simp [push_cast, f0]
                        repeat (refine And.intro (by clear hK; intros; first | omega | (simp_all; done) | (simp_all <;> omega)) ?_)
                        refine hK _ ?_; clear hK K; refine Nav.imp ?_
                        refine ⟨(k + 1, B), ⟨hlk, by rw [hnl]; exact hB, hall2⟩, by simp only; omega, ?_⟩
                        simp only [if_pos hB0]
                        refine weak_of [(0, some 0), (1, some 1)] rfl (by simp [upT, up, upL, push_cast]) (by simp [upH, upR, upL, up, push_cast]) (by simp [namesOk, push_cast]) (by simp [olds])
                      · simp at hb
                  · have hke : k = n := by simp at hb; omega
                    subst hke
                    rw [← hnx] at hB
                    refine awp_region cx [] fun K hK => ?_
                    simp [push_cast, e0]
                    repeat (refine And.intro (by clear hK; intros; first | omega | (simp_all; done) | (simp_all <;> omega)) ?_)
                    refine hK _ ?_; clear hK K; refine Nav.imp ?_
                    refine ⟨y + 1, ⟨hlt, by rw [← hB]; exact hall2⟩, by omega, ?_⟩
                    rw [← hB]
                    simp only [if_pos hB0]
                    refine weak_of [(0, some 0), (1, some 1)] rfl (by simp [upT, up, upL, push_cast]) (by simp [upH, upR, upL, up, push_cast]) (by simp [namesOk, push_cast]) (by simp [olds])
                · simp only [if_neg hB0]
                  refine Nav.imp ?_
                  refine awp_region cx [] fun K hK => ?_
                  simp [push_cast]
                  repeat (refine And.intro (by clear hK; intros; first | omega | (simp_all; done) | (simp_all <;> omega)) ?_)
                  refine hK _ ?_; clear hK K; refine Nav.imp ?_
                  refine awp_cond (b := decide ((k : Int) < n)) (by simp [push_cast]) (fun hb => ?_) (fun hb => ?_) <;> (refine Nav.imp ?_)
                  · have hlk : k < n := by simpa using hb
                    have hil : i0 + k < s.length := by omega
                    obtain ⟨c, hc⟩ := getq hil
                    have o1 := fun (u v : Operand) => opres_index (P := Tryd.prog) (x := u) (y := v) str_und s .i64 ((i0 : Int) + k) c (by omega) (by rw [show ((i0 : Int) + k).toNat = i0 + k by omega]; exact hc)
                    have f0 := wrap_i64 (n := (k : Int) + 1) (by omega) (by omega)
                    have f1 := wrap_i64 (n := (i0 : Int) + k) (by omega) (by omega)
                    have f2 := wrap_i64 (n := (-4096 : Int) - k) (by omega) (by omega)
                    have f3 := wrap_i64 (n := (4096 : Int) - k) (by omega) (by omega)
                    have hBn : (B ++ [(⟨o.x + k, o.y + y⟩ : Cell)]).length ≤ 200000 := by
                      have := lineB_len s o n h y k
                      rw [hB]
                      simp
                      omega
                    have h16 : (B.length + 1) * 16 ≤ 140737488355328 := by simp at hBn; omega
                    have hnl := lineB_next s o n h y k
                    rw [hi0, hc] at hnl
                    by_cases e : c = 35
                    · subst e
                      rw [if_pos rfl] at hnl
                      have hon : onG (⟨o.x + k, o.y + y⟩ : Cell) = !(decide (o.x < -4096 - (k : Int)) || decide (4096 - (k : Int) ≤ o.x) || decide (o.y < -4096 - (y : Int)) || decide (4096 - (y : Int) ≤ o.y)) := by
                        rw [Bool.eq_iff_iff]
                        simp [onG, okB]
                        omega
                      refine awp_region cx [(10, .p (.int .u8 35))] fun K hK => ?_
                      simp [push_cast, o1, e1, e2, e3, e4, e5, e6, f1, hi0c]
                      repeat (refine And.intro (by clear hK; intros; first | omega | (simp_all; done) | (simp_all <;> omega)) ?_)
                      refine hK _ ?_; clear hK K; refine Nav.imp ?_
                      refine awp_cond (b := false) (by simp [push_cast]) (fun hb => ?_) (fun hb => ?_) <;> (refine Nav.imp ?_)
                      · simp at hb
                      · cases hbb : (decide (o.x < -4096 - (k : Int)) || decide (4096 - (k : Int) ≤ o.x) || decide (o.y < -4096 - (y : Int)) || decide (4096 - (y : Int) ≤ o.y)) with
                        | true =>
                          rw [hbb] at hon
                          have hmem : (⟨o.x + k, o.y + y⟩ : Cell) ∈ cellsB s o n h h := by
                            refine hbad2 _ ?_
                            rw [hnx, List.mem_append]
                            right
                            unfold lineB
                            rw [List.mem_filterMap]
                            exact ⟨k, List.mem_range.2 hlk, by rw [hi0, hc]; simp⟩
                          rw [ofD_bad hmem hon]
                          refine awp_region cx [] fun K hK => ?_
                          simp [push_cast, f2, f3, e7, e8]
                          repeat (refine And.intro (by clear hK; intros; first | omega | (simp_all; done) | (simp_all <;> omega)) ?_)
                          refine hK _ ?_; clear hK K; refine Nav.imp ?_
                          refine awp_cond (b := true) (by simp [push_cast, hbb]) (fun hb => ?_) (fun hb => ?_) <;> (refine Nav.imp ?_)
                          · refine awp_region cx [] fun K hK => ?_
                            simp [push_cast]
                            repeat (refine And.intro (by clear hK; intros; first | omega | (simp_all; done) | (simp_all <;> omega)) ?_)
                            refine hK _ ?_; clear hK K; refine Nav.imp ?_
                            simp [push_cast]
                          · simp at hb
                        | false =>
                          rw [hbb] at hon
                          have f4 := wrap_i64 (n := o.x + k) (by simp [onG, okB] at hon; omega) (by simp [onG, okB] at hon; omega)
                          have f5 := wrap_i64 (n := o.y + y) (by simp [onG, okB] at hon; omega) (by simp [onG, okB] at hon; omega)
                          refine awp_region cx [] fun K hK => ?_
                          simp [push_cast, f2, f3, e7, e8]
                          repeat (refine And.intro (by clear hK; intros; first | omega | (simp_all; done) | (simp_all <;> omega)) ?_)
                          refine hK _ ?_; clear hK K; refine Nav.imp ?_
                          refine awp_cond (b := false) (by simp [push_cast, hbb]) (fun hb => ?_) (fun hb => ?_) <;> (refine Nav.imp ?_)
                          · simp at hb
                          · refine awp_region cx [] fun K hK => ?_
                            simp [push_cast, h16, f4, f5]
                            repeat (refine And.intro (by clear hK; intros; first | omega | (simp_all; done) | (simp_all <;> omega)) ?_)
                            refine hK _ ?_; clear hK K; refine Nav.imp ?_
                            refine awp_region cx [] fun K hK => ?_
                            simp [push_cast, f0]
                            repeat (refine And.intro (by clear hK; intros; first | omega | (simp_all; done) | (simp_all <;> omega)) ?_)
                            refine hK _ ?_; clear hK K; refine Nav.imp ?_
                            refine ⟨(k + 1, B ++ [⟨o.x + k, o.y + y⟩]), ⟨hlk, by rw [hnl, hB, List.append_assoc], fun c' hc' => ?_⟩, by simp only; omega, ?_⟩
                            · rcases List.mem_append.1 hc' with h | h
                              · exact hall2 c' h
                              · simp at h; rw [h]; exact hon
                            · simp only [show ¬ (B ++ [(⟨o.x + k, o.y + y⟩ : Cell)] = []) by simp, if_false]
                              refine weak_of [(0, some 0), (1, some 1), (2, some 55)] rfl (by simp [upT, up, upL, push_cast]) (by simp [upH, upR, upL, up, push_cast]) (by simp [namesOk, push_cast]) (by simp [olds])
                    · have hne : ((c.toNat : Int) == 35) = false := by rw [show (35 : Int) = ((35 : Nat) : Int) from rfl, nat_ne c 35 (by omega)]; simpa using e
                      have hne2 : ¬ ((c.toNat : Int) = 35) := by simpa using hne
                      rw [if_neg (by simpa using e), List.append_nil] at hnl
                      refine awp_region cx [(10, .p (.int .u8 c.toNat))] fun K hK => ?_
                      simp [push_cast, o1, e1, e2, e3, e4, e5, e6, f1, hi0c]
                      repeat (refine And.intro (by clear hK; intros; first | omega | (simp_all; done) | (simp_all <;> omega)) ?_)
                      refine hK _ ?_; clear hK K; refine Nav.imp ?_
                      refine awp_cond (b := true) (by simp [push_cast, hne2]) (fun hb => ?_) (fun hb => ?_) <;> (refine Nav.imp ?_)
                      · refine awp_region cx [] fun K hK => ?_
                        simp [push_cast, f0]
                        repeat (refine And.intro (by clear hK; intros; first | omega | (simp_all; done) | (simp_all <;> omega)) ?_)
                        refine hK _ ?_; clear hK K; refine Nav.imp ?_
                        refine ⟨(k + 1, B), ⟨hlk, by rw [hnl]; exact hB, hall2⟩, by simp only; omega, ?_⟩
                        simp only [if_neg hB0]
                        refine weak_of [(0, some 0), (1, some 1), (2, some 2)] rfl (by simp [upT, up, upL, push_cast]) (by simp [upH, upR, upL, up, push_cast]) (by simp [namesOk, push_cast]) (by simp [olds])
                      · simp at hb
                  · have hke : k = n := by simp at hb; omega
                    subst hke
                    rw [← hnx] at hB
                    refine awp_region cx [] fun K hK => ?_
                    simp [push_cast, e0]
                    repeat (refine And.intro (by clear hK; intros; first | omega | (simp_all; done) | (simp_all <;> omega)) ?_)
                    refine hK _ ?_; clear hK K; refine Nav.imp ?_
                    refine ⟨y + 1, ⟨hlt, by rw [← hB]; exact hall2⟩, by omega, ?_⟩
                    rw [← hB]
                    simp only [if_neg hB0]
                    refine weak_of [(0, some 0), (1, some 1), (2, some 2)] rfl (by simp [upT, up, upL, push_cast]) (by simp [upH, upR, upL, up, push_cast]) (by simp [namesOk, push_cast]) (by simp [olds])
            · have hje : y = h := by simp at hb; omega
              rw [hje] at hA
              rw [hA]
              have c3 := rof_ok A (by have := hcl h (Nat.le_refl _); rw [hA] at this; omega)
              obtain ⟨rr, ee, hre⟩ : ∃ rr ee, ofD A = .tup [.agg [rr], .int .i64 ee] := ⟨_, _, rfl⟩
              rw [hre] at c3 ⊢
              refine awp_freeze 2 (A.map Cell.row) rfl (by simp [push_cast]) fun K hK => ?_
              simp [push_cast, St.fz, fzT, fzH, fzO, fz, fzL, fzR, fzR_dr, fzR_app, fzR_set, fzL_map]
              refine hK _ ?_; clear hK K; refine Nav.imp ?_
              refine awp_region cx [(1, .p (.tup [.agg [rr], .int .i64 ee]))] fun K hK => ?_
              simp [push_cast, c3]
              repeat (refine And.intro (by clear hK; intros; first | omega | (simp_all; done) | (simp_all <;> omega)) ?_)
              refine hK _ ?_; clear hK K; refine Nav.imp ?_
              simp [push_cast]
end Go.Proofs.YtcjmmdlbbdnahaaDoor
