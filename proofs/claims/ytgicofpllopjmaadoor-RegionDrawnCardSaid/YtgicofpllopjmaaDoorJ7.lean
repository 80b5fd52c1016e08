/-
  Texts of this seat put together: G3, X1, X2, X9, B1, S6, S7, S8.
-/
import Derived.Test.YtgicofpllopjmaaDoorJ6
set_option linter.unusedVariables false
set_option linter.unusedSimpArgs false
set_option maxRecDepth 100000
namespace Go.Proofs.YtgicofpllopjmaaDoor
open Go.Abs

def rowOf (R : List Row) (y : Int) : List Run := match R.find? (fun w => decide (w.y = y)) with
  | some w => w.runs
  | none => []
theorem rowOf_mem {R : List Row} (h : validR R = true) {w : Row} (hw : w ∈ R) : rowOf R w.y = w.runs := by
  unfold rowOf
  cases hf : R.find? (fun v => decide (v.y = w.y)) with
  | none => have := List.find?_eq_none.1 hf w hw; simp at this
  | some v =>
    have h1 := List.mem_of_find?_eq_some hf
    have h2 := List.find?_some hf
    have := rows_eq h h1 hw (by simpa using h2)
    rw [this]
theorem rowOf_none {R : List Row} {y : Int} (h : ∀ w ∈ R, w.y ≠ y) : rowOf R y = [] := by
  unfold rowOf
  cases hf : R.find? (fun v => decide (v.y = y)) with
  | none => rfl
  | some v => exact absurd (by simpa using List.find?_some hf) (h v (List.mem_of_find?_eq_some hf))
theorem rowOf_cases {R : List Row} (h : validR R = true) (y : Int) : (∃ w ∈ R, w.y = y ∧ rowOf R y = w.runs) ∨ ((∀ w ∈ R, w.y ≠ y) ∧ rowOf R y = []) := by
  by_cases e : ∃ w ∈ R, w.y = y
  · obtain ⟨w, hw, rfl⟩ := e
    exact .inl ⟨w, hw, rfl, rowOf_mem h hw⟩
  · have : ∀ w ∈ R, w.y ≠ y := fun w hw hy => e ⟨w, hw, hy⟩
    exact .inr ⟨this, rowOf_none this⟩
theorem rowOf_rv {R : List Row} (h : validR R = true) (y : Int) : rvalid (rowOf R y) = true := by
  rcases rowOf_cases h y with ⟨w, hw, _, e⟩ | ⟨_, e⟩
  · rw [e]; exact fine_rv (row_fine h hw).2
  · rw [e]; rfl
theorem rowOf_in {R : List Row} (h : validR R = true) (c : Cell) : c ∈ regCells R ↔ inR (rowOf R c.y) c.x = true := by
  rw [mem_regCells, inR_iff]
  constructor
  · rintro ⟨w, hw, hy, r, hr, h1, h2⟩
    rw [hy, rowOf_mem h hw]
    exact ⟨r, hr, h1, h2⟩
  · rintro ⟨r, hr, h1, h2⟩
    rcases rowOf_cases h c.y with ⟨w, hw, hy, e⟩ | ⟨_, e⟩
    · rw [e] at hr; exact ⟨w, hw, hy.symm, r, hr, h1, h2⟩
    · rw [e] at hr; cases hr
theorem rowOf_range {R : List Row} (h : validR R = true) {y x : Int} (hx : inR (rowOf R y) x = true) : -4096 ≤ y ∧ y < 4096 ∧ -4096 ≤ x ∧ x < 4096 := by
  have := cells_on h ((rowOf_in h ⟨x, y⟩).2 hx)
  simp [onG] at this; omega
theorem validR_pw {R : List Row} : validR R = true ↔ (∀ w ∈ R, (-4096 ≤ w.y ∧ w.y < 4096) ∧ fine w.runs = true) ∧ R.Pairwise fun a b => a.y < b.y := by
  constructor
  · intro h; exact ⟨fun w hw => row_fine h hw, rows_pw h⟩
  · rintro ⟨h1, h2⟩
    apply List.all_eq_true.2
    intro i hi
    have hi : i < R.length := by simpa using hi
    obtain ⟨r, hr⟩ := getq hi
    obtain ⟨p, hp⟩ : ∃ q, R[i - 1]? = some q := getq (by omega)
    obtain ⟨h3, h4⟩ := h1 r (List.mem_of_getElem? hr)
    rw [rowAt_some hr hp, h4]
    simp only [Bool.and_true, Bool.and_eq_true, Bool.or_eq_true, beq_iff_eq, decide_eq_true_eq]
    refine ⟨by simp [okB]; omega, ?_⟩
    by_cases e : i = 0
    · exact .inl e
    · right
      obtain ⟨hi', rfl⟩ := List.getElem?_eq_some_iff.1 hr
      obtain ⟨hp', rfl⟩ := List.getElem?_eq_some_iff.1 hp
      exact List.pairwise_iff_getElem.1 h2 (i - 1) i hp' hi' (by omega)

def opRow (f : Bool → Bool → Bool) (a b : List Row) (y : Int) : List Row := if sweep f (rowOf a y) (rowOf b y) = [] then [] else [⟨y, sweep f (rowOf a y) (rowOf b y)⟩]
def opOn (f : Bool → Bool → Bool) (a b : List Row) (ys : List Int) : List Row := ys.flatMap (opRow f a b)
theorem opRow_mem {f : Bool → Bool → Bool} {a b : List Row} {y : Int} {w : Row} (h : w ∈ opRow f a b y) : w.y = y ∧ w.runs = sweep f (rowOf a y) (rowOf b y) ∧ w.runs ≠ [] := by
  unfold opRow at h
  split at h
  · cases h
  · rename_i e; simp at h; subst h; exact ⟨rfl, rfl, e⟩
theorem opOn_valid {f : Bool → Bool → Bool} (hf : f false false = false) {a b : List Row} (ha : validR a = true) (hb : validR b = true) {ys : List Int} (hp : ys.Pairwise (· < ·)) : validR (opOn f a b ys) = true := by
  refine validR_pw.2 ⟨fun w hw => ?_, ?_⟩
  · obtain ⟨y, hy, hw⟩ := List.mem_flatMap.1 hw
    obtain ⟨e1, e2, e3⟩ := opRow_mem hw
    obtain ⟨h1, h2⟩ := sweep_facts hf (rowOf_rv ha y) (rowOf_rv hb y)
    rw [← e2] at h1 h2
    have key : ∀ x, inR w.runs x = true → -4096 ≤ y ∧ y < 4096 ∧ -4096 ≤ x ∧ x < 4096 := fun x hx => by
      rw [h2] at hx
      cases e : inR (rowOf a y) x with
      | true => exact rowOf_range ha e
      | false =>
        cases e' : inR (rowOf b y) x with
        | true => exact rowOf_range hb e'
        | false => rw [e, e', hf] at hx; cases hx
    have hbd := apart_bounds h1 (lo := -4096) (hi := 4096) (fun x hx => ⟨(key x hx).2.2.1, (key x hx).2.2.2⟩)
    refine ⟨?_, fine_apart.2 ⟨e3, h1, hbd⟩⟩
    obtain ⟨r, hr⟩ := List.exists_mem_of_ne_nil _ e3
    have := key r.a (inR_iff.2 ⟨r, hr, Int.le_refl _, h1.1 r hr⟩)
    rw [e1]; omega
  · unfold opOn
    rw [List.pairwise_flatMap]
    refine ⟨fun y _ => by unfold opRow; split <;> simp, hp.imp fun {y z} hyz u hu v hv => ?_⟩
    rw [(opRow_mem hu).1, (opRow_mem hv).1]; exact hyz
theorem opOn_cells {f : Bool → Bool → Bool} (hf : f false false = false) {a b : List Row} (ha : validR a = true) (hb : validR b = true) {ys : List Int} (hp : ys.Pairwise (· < ·)) (hys : ∀ w, w ∈ a ∨ w ∈ b → w.y ∈ ys) (c : Cell) :
    decide (c ∈ regCells (opOn f a b ys)) = f (decide (c ∈ regCells a)) (decide (c ∈ regCells b)) := by
  have hv := opOn_valid hf ha hb hp
  have e1 : decide (c ∈ regCells a) = inR (rowOf a c.y) c.x := by rw [Bool.eq_iff_iff]; simp [rowOf_in ha]
  have e2 : decide (c ∈ regCells b) = inR (rowOf b c.y) c.x := by rw [Bool.eq_iff_iff]; simp [rowOf_in hb]
  rw [e1, e2, ← (sweep_facts hf (rowOf_rv ha c.y) (rowOf_rv hb c.y)).2]
  rw [Bool.eq_iff_iff, decide_eq_true_eq, mem_regCells, inR_iff]
  constructor
  · rintro ⟨w, hw, hy, r, hr, h1, h2⟩
    obtain ⟨y, hym, hw⟩ := List.mem_flatMap.1 hw
    obtain ⟨q1, q2, q3⟩ := opRow_mem hw
    rw [hy, q1]
    rw [q2] at hr
    exact ⟨r, hr, h1, h2⟩
  · rintro ⟨r, hr, h1, h2⟩
    have hne : sweep f (rowOf a c.y) (rowOf b c.y) ≠ [] := by rintro e; rw [e] at hr; cases hr
    have hym : c.y ∈ ys := by
      have hin : f (inR (rowOf a c.y) c.x) (inR (rowOf b c.y) c.x) = true := by
        rw [← (sweep_facts hf (rowOf_rv ha c.y) (rowOf_rv hb c.y)).2]; exact inR_iff.2 ⟨r, hr, h1, h2⟩
      rcases rowOf_cases ha c.y with ⟨w, hw, hy, _⟩ | ⟨_, e⟩
      · rw [← hy]; exact hys w (.inl hw)
      · rcases rowOf_cases hb c.y with ⟨w, hw, hy, _⟩ | ⟨_, e'⟩
        · rw [← hy]; exact hys w (.inr hw)
        · rw [e, e'] at hin; simp [inR, hf] at hin
    refine ⟨⟨c.y, sweep f (rowOf a c.y) (rowOf b c.y)⟩, List.mem_flatMap.2 ⟨c.y, hym, ?_⟩, rfl, r, hr, h1, h2⟩
    unfold opRow
    rw [if_neg hne]; simp
def allY (a b : List Row) : List Int := (a.map Row.y ++ b.map Row.y).mergeSort (fun x y => decide (x ≤ y))
def dedup : List Int → List Int
  | [] => []
  | [x] => [x]
  | x :: y :: l => if x = y then dedup (y :: l) else x :: dedup (y :: l)
theorem dedup_mem : ∀ (l : List Int) (y : Int), y ∈ dedup l ↔ y ∈ l
  | [], _ => by simp [dedup]
  | [x], _ => by simp [dedup]
  | x :: z :: l, y => by
    simp only [dedup]
    split
    · rename_i e; subst e; rw [dedup_mem (x :: l) y]; simp
    · rw [List.mem_cons, dedup_mem (z :: l) y]; simp
theorem dedup_pw : ∀ (l : List Int), l.Pairwise (· ≤ ·) → (dedup l).Pairwise (· < ·)
  | [], _ => by simp [dedup]
  | [x], _ => by simp [dedup]
  | x :: z :: l, h => by
    have h1 := List.pairwise_cons.1 h
    simp only [dedup]
    split
    · exact dedup_pw (z :: l) h1.2
    · rename_i e
      refine List.pairwise_cons.2 ⟨fun y hy => ?_, dedup_pw (z :: l) h1.2⟩
      rw [dedup_mem] at hy
      have h2 := h1.1 z (by simp)
      rcases List.mem_cons.1 hy with rfl | hy
      · omega
      · have := (List.pairwise_cons.1 h1.2).1 y hy; omega
theorem allY_perm (a b : List Row) : (allY a b).Perm (a.map Row.y ++ b.map Row.y) := List.mergeSort_perm _ _
theorem allY_le (a b : List Row) : (allY a b).Pairwise (· ≤ ·) := by
  have := List.pairwise_mergeSort (le := fun x y : Int => decide (x ≤ y)) (fun a b c h1 h2 => by simp at *; omega) (fun a b => by simp; omega) (a.map Row.y ++ b.map Row.y)
  exact this.imp fun h => by simpa using h
theorem allY_mem {a b : List Row} (w : Row) (h : w ∈ a ∨ w ∈ b) : w.y ∈ dedup (allY a b) := by
  rw [dedup_mem, (allY_perm a b).mem_iff, List.mem_append]
  rcases h with h | h
  · exact .inl (List.mem_map_of_mem h)
  · exact .inr (List.mem_map_of_mem h)
def opR (f : Bool → Bool → Bool) (a b : List Row) : List Row := if validR a && validR b then opOn f a b (dedup (allY a b)) else []
theorem opR_facts {f : Bool → Bool → Bool} (hf : f false false = false) {a b : List Row} (ha : validR a = true) (hb : validR b = true) : validR (opR f a b) = true ∧ ∀ c, decide (c ∈ regCells (opR f a b)) = f (decide (c ∈ regCells a)) (decide (c ∈ regCells b)) := by
  have e : opR f a b = opOn f a b (dedup (allY a b)) := by simp [opR, ha, hb]
  rw [e]
  exact ⟨opOn_valid hf ha hb (dedup_pw _ (allY_le a b)), opOn_cells hf ha hb (dedup_pw _ (allY_le a b)) allY_mem⟩
theorem apart_len : ∀ {l : List Run} {lo hi : Int}, Apart l → (∀ r ∈ l, lo ≤ r.a ∧ r.b ≤ hi) → l.length ≤ (hi - lo).toNat
  | [], _, _, _, _ => by simp
  | r :: l, lo, hi, h, hb => by
    have h1 := h.1 r (by simp)
    have h2 := List.pairwise_cons.1 h.2
    have h3 := hb r (by simp)
    have ih := apart_len (l := l) (lo := r.b) (hi := hi) ⟨fun q hq => h.1 q (by simp [hq]), h2.2⟩ (fun q hq => ⟨by have := h2.1 q hq; omega, (hb q (by simp [hq])).2⟩)
    simp only [List.length_cons]
    omega

theorem valid_runs {R : List Row} (hv : validR R = true) {w : Row} (hw : w ∈ R) : w.runs.length ≤ 8192 := by
  obtain ⟨_, h1, h2⟩ := fine_apart.1 (row_fine hv hw).2
  have := apart_len h1 (lo := -4096) (hi := 4096) h2
  omega

theorem rows_len : ∀ {R : List Row} {lo hi : Int}, (R.Pairwise fun a b => a.y < b.y) → (∀ w ∈ R, lo ≤ w.y ∧ w.y < hi) → R.length ≤ (hi - lo).toNat
  | [], _, _, _, _ => by simp
  | w :: R, lo, hi, h, hb => by
    have h2 := List.pairwise_cons.1 h
    have h3 := hb w (by simp)
    have ih := rows_len (R := R) (lo := w.y + 1) (hi := hi) h2.2 (fun v hv => ⟨by have := h2.1 v hv; omega, (hb v (by simp [hv])).2⟩)
    simp only [List.length_cons]
    omega
theorem small_valid {R : List Row} (hv : validR R = true) : smallR R := by
  obtain ⟨h1, h2⟩ := validR_pw.1 hv
  have := rows_len h2 (lo := -4096) (hi := 4096) fun w hw => (h1 w hw).1
  exact ⟨by omega, fun w hw => by have := valid_runs hv hw; omega⟩
end Go.Proofs.YtgicofpllopjmaaDoor

namespace Go.Proofs.YtgicofpllopjmaaDoor
open Go.Abs

abbrev bdRow (l : List Run) (p : Nat) : List D := [encRuns l, .int .i64 p]



end Go.Proofs.YtgicofpllopjmaaDoor

namespace Go.Proofs.YtgicofpllopjmaaDoor
open Go.Abs

def fU (x y : Bool) : Bool := x || y
def fI (x y : Bool) : Bool := x && y
def fD (x y : Bool) : Bool := x && !y





end Go.Proofs.YtgicofpllopjmaaDoor

namespace Go.Proofs.YtgicofpllopjmaaDoor
open Go.Abs

section
variable {a b : List Row} (ha : validR a = true) (hb : validR b = true) (c : Cell)
include ha hb
theorem opU_iff : c ∈ regCells (opR fU a b) ↔ c ∈ regCells a ∨ c ∈ regCells b := by
  have h := (opR_facts (f := fU) rfl ha hb).2 c
  have e : ∀ x y, fU x y = (x || y) := fun _ _ => rfl
  rw [e] at h
  rw [← decide_eq_true_iff (p := c ∈ regCells (opR fU a b)), h]
  simp
end
end Go.Proofs.YtgicofpllopjmaaDoor

namespace Go.Proofs.YtgicofpllopjmaaDoor
open Go.Abs

theorem one_valid {c : Cell} (h : onG c = true) : validR [⟨c.y, [⟨c.x, c.x + 1⟩]⟩] = true ∧ ∀ d, d ∈ regCells [⟨c.y, [⟨c.x, c.x + 1⟩]⟩] ↔ d = c := by
  obtain ⟨x, y⟩ := c
  have hg := onG_bd h
  simp only at hg
  constructor
  · simp [validR, rowAt, okB, fine, fnAt, List.range_succ]
    omega
  · rintro ⟨a, b⟩
    rw [mem_regCells]
    simp
    omega
theorem set_region : ∀ {l : List Cell}, (∀ c ∈ l, onG c = true) → ∃ R, validR R = true ∧ ∀ c, c ∈ regCells R ↔ c ∈ l
  | [], _ => ⟨[], rfl, fun c => by simp [regCells]⟩
  | c :: l, h => by
    obtain ⟨R, h1, h2⟩ := set_region (l := l) fun d hd => h d (by simp [hd])
    obtain ⟨h3, h4⟩ := one_valid (h c (by simp))
    refine ⟨opR fU [⟨c.y, [⟨c.x, c.x + 1⟩]⟩] R, (opR_facts rfl h3 h1).1, fun d => ?_⟩
    rw [opU_iff h3 h1, h4, h2, List.mem_cons]
theorem of_set {l : List Cell} (hn : l.Nodup) (hon : ∀ c ∈ l, onG c = true) : validR (ofR l) = true ∧ (∀ c, c ∈ regCells (ofR l) ↔ c ∈ l) ∧ (regCells (ofR l)).length = l.length := by
  obtain ⟨R, h1, h2⟩ := set_region hon
  have hp : l.Perm (regCells R) := (List.perm_ext_iff_of_nodup hn (nodup_of_ltY (cells_pw h1))).2 fun c => (h2 c).symm
  have e : ofR l = R := by
    unfold ofR
    rw [if_pos (List.all_eq_true.2 hon), sortY_cells h1 hp, build_cells h1]
  rw [e]
  exact ⟨h1, h2, hp.length_eq.symm⟩
theorem of_err {l : List Cell} (hon : ∀ c ∈ l, onG c = true) : ofE l = 0 := by
  unfold ofE
  rw [if_pos (List.all_eq_true.2 hon)]

def xc (c : Cell) : Cell := ⟨c.y, c.x⟩
def turnR (R : List Row) : List Row := ofR ((regCells R).map xc)
def anch (H : List Row) (y : Int) (q : Run) : Bool := decide ((⟨q.a - 1, y⟩ : Cell) ∈ regCells H) && decide ((⟨q.b, y⟩ : Cell) ∈ regCells H)
def spanRun (H : List Row) (y : Int) (q : Run) : List (List Cell) := if anch H y q then [runCells y q] else []
def spanRow (H : List Row) (w : Row) : List (List Cell) := w.runs.flatMap (spanRun H w.y)
def spanR (D H : List Row) : List (List Cell) := D.flatMap (spanRow H)
def spansL (r b : List Row) : List (List Cell) := spanR (opR fD r b) (opR fI r b)
def spansU (r b : List Row) (up : Bool) : List (List Cell) := if up then (spansL (turnR r) (turnR b)).map (·.map xc) else spansL r b
def coverR (L : List (List Cell)) : List Row := ofR L.flatten

end Go.Proofs.YtgicofpllopjmaaDoor

namespace Go.Proofs.YtgicofpllopjmaaDoor
open Go.Abs Go.Shelf

def gcell (f : Nat → Nat → Bool) (ax : Int) (Y : Nat → Int) (i k : Nat) : Option Cell := if f i k then some ⟨ax + (k : Int), Y i⟩ else none
def gcells (f : Nat → Nat → Bool) (n : Nat → Nat) (ax : Int) (Y : Nat → Int) (m : Nat) : List Cell := (List.range m).flatMap fun i => (List.range (n i)).filterMap (gcell f ax Y i)
theorem gcells_mem {f : Nat → Nat → Bool} {n : Nat → Nat} {ax : Int} {Y : Nat → Int} {m : Nat} {c : Cell} : c ∈ gcells f n ax Y m ↔ ∃ i k, i < m ∧ k < n i ∧ f i k = true ∧ c = ⟨ax + (k : Int), Y i⟩ := by
  unfold gcells
  simp only [List.mem_flatMap, List.mem_range, List.mem_filterMap, gcell]
  constructor
  · rintro ⟨i, hi, k, hk, h⟩
    by_cases e : f i k = true
    · rw [if_pos e] at h
      exact ⟨i, k, hi, hk, e, (Option.some.inj h).symm⟩
    · rw [if_neg e] at h; cases h
  · rintro ⟨i, k, hi, hk, e, rfl⟩
    exact ⟨i, hi, k, hk, by rw [if_pos e]⟩
theorem gcells_nodup {f : Nat → Nat → Bool} {n : Nat → Nat} {ax : Int} {Y : Nat → Int} {m : Nat} (hY : ∀ i j, i < m → j < m → Y i = Y j → i = j) : (gcells f n ax Y m).Nodup := by
  unfold gcells List.Nodup
  rw [List.pairwise_flatMap]
  refine ⟨fun i hi => ?_, ?_⟩
  · rw [List.pairwise_filterMap]
    refine List.pairwise_lt_range.imp fun {a b} hab x hx y hy => ?_
    unfold gcell at hx hy
    split at hx
    · split at hy
      · simp at hx hy
        rw [← hx, ← hy]
        intro h
        simp at h
        omega
      · cases hy
    · cases hx
  · refine List.Pairwise.imp_of_mem (R := fun a b => a < b) (fun {a b} ha hb hab x hx y hy => ?_) List.pairwise_lt_range
    simp only [List.mem_filterMap, gcell] at hx hy
    obtain ⟨k, _, hx⟩ := hx
    obtain ⟨k', _, hy⟩ := hy
    split at hx
    · split at hy
      · simp at hx hy
        rw [← hx, ← hy]
        intro h
        simp at h
        have := hY a b (List.mem_range.1 ha) (List.mem_range.1 hb) h.2
        omega
      · cases hy
    · cases hx
theorem ofD_ext {l l' : List Cell} (h1 : l.Nodup) (h2 : l'.Nodup) (h : ∀ c, c ∈ l ↔ c ∈ l') : ofD l = ofD l' := by
  by_cases hon : ∀ c ∈ l, onG c = true
  · have hon' : ∀ c ∈ l', onG c = true := fun c hc => hon c ((h c).2 hc)
    obtain ⟨a1, a2, _⟩ := of_set h1 hon
    obtain ⟨b1, b2, _⟩ := of_set h2 hon'
    have : ofR l = ofR l' := region_uniq a1 b1 fun c => by rw [a2, b2, h]
    rw [ofD, ofD, this, of_err hon, of_err hon']
  · have : ∃ c, c ∈ l ∧ onG c = false := by
      apply Classical.byContradiction
      intro hn
      apply hon
      intro c hc
      cases hg : onG c
      · exact absurd ⟨c, hc, hg⟩ hn
      · rfl
    obtain ⟨c, hc, hg⟩ := this
    rw [ofD_bad hc hg, ofD_bad ((h c).1 hc) hg]
theorem cellsT_g (l : List (List UInt8)) (o : Cell) (m : Nat) : cellsT l o m = gcells (fun i k => decide ((l.getD i [])[k]? = some 35)) (fun i => (l.getD i []).length) o.x (fun i => o.y + (l.length - 1 - i : Nat)) m := by
  unfold cellsT gcells lineC gcell
  simp
def lineB (s : List UInt8) (o : Cell) (n h y m : Nat) : List Cell := (List.range m).filterMap fun x : Nat => if s[(h - 1 - y) * (n + 1) + x]? = some 35 then some ⟨o.x + x, o.y + y⟩ else none
def cellsB (s : List UInt8) (o : Cell) (n h m : Nat) : List Cell := (List.range m).flatMap fun y => lineB s o n h y n
end Go.Proofs.YtgicofpllopjmaaDoor

namespace Go.Proofs.YtgicofpllopjmaaDoor
open Go.Abs Go.Shelf

end Go.Proofs.YtgicofpllopjmaaDoor

namespace Go.Proofs.YtgicofpllopjmaaDoor
open Go.Abs Go.Shelf

end Go.Proofs.YtgicofpllopjmaaDoor
