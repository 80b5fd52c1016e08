/-
  The walks of this seat's functions and the plain laws behind them: part G3.
-/
import Derived.Test.YtmfkfgonedgjnaaG2
set_option linter.unusedVariables false
set_option linter.unusedSimpArgs false
namespace Go.Proofs.Ytmfkfgonedgjnaa
open Go.Abs

/-! Sets of numbers: runs that are apart are one if they have the same numbers. -/
theorem apart_uniq : ∀ {l l' : List Run}, Apart l → Apart l' → (∀ y, inR l y = inR l' y) → l = l'
  | [], [], _, _, _ => rfl
  | [], s :: l', _, h', h => by
    have := h s.a
    have h1 : inR (s :: l') s.a = true := inR_iff.2 ⟨s, by simp, Int.le_refl _, h'.1 s (by simp)⟩
    rw [h1] at this; simp [inR] at this
  | r :: l, [], h', _, h => by
    have := h r.a
    have h1 : inR (r :: l) r.a = true := inR_iff.2 ⟨r, by simp, Int.le_refl _, h'.1 r (by simp)⟩
    rw [h1] at this; simp [inR] at this
  | r :: l, s :: l', h1, h2, h => by
    have p1 := List.pairwise_cons.1 h1.2
    have p2 := List.pairwise_cons.1 h2.2
    have r0 := h1.1 r (by simp)
    have s0 := h2.1 s (by simp)
    have a1 : s.a ≤ r.a := by
      have : inR (s :: l') r.a = true := by rw [← h]; exact inR_iff.2 ⟨r, by simp, Int.le_refl _, r0⟩
      obtain ⟨t, ht, h3, h4⟩ := inR_iff.1 this
      rcases List.mem_cons.1 ht with rfl | ht
      · exact h3
      · have := p2.1 t ht; omega
    have a2 : r.a ≤ s.a := by
      have : inR (r :: l) s.a = true := by rw [h]; exact inR_iff.2 ⟨s, by simp, Int.le_refl _, s0⟩
      obtain ⟨t, ht, h3, h4⟩ := inR_iff.1 this
      rcases List.mem_cons.1 ht with rfl | ht
      · exact h3
      · have := p1.1 t ht; omega
    have b1 : ¬ r.b < s.b := by
      intro hlt
      have : inR (r :: l) r.b = true := by rw [h]; exact inR_iff.2 ⟨s, by simp, by omega, hlt⟩
      obtain ⟨t, ht, h3, h4⟩ := inR_iff.1 this
      rcases List.mem_cons.1 ht with rfl | ht
      · omega
      · have := p1.1 t ht; omega
    have b2 : ¬ s.b < r.b := by
      intro hlt
      have : inR (s :: l') s.b = true := by rw [← h]; exact inR_iff.2 ⟨r, by simp, by omega, hlt⟩
      obtain ⟨t, ht, h3, h4⟩ := inR_iff.1 this
      rcases List.mem_cons.1 ht with rfl | ht
      · omega
      · have := p2.1 t ht; omega
    have e : r = s := by cases r; cases s; simp at *; omega
    subst e
    have ih : l = l' := by
      refine apart_uniq ⟨fun t ht => h1.1 t (by simp [ht]), p1.2⟩ ⟨fun t ht => h2.1 t (by simp [ht]), p2.2⟩ fun y => ?_
      have hy := h y
      simp only [inR, List.any_cons] at hy
      by_cases hin : r.a ≤ y ∧ y < r.b
      · have n1 : inR l y = false := by
          rw [Bool.eq_false_iff]; intro hc
          obtain ⟨t, ht, h3, h4⟩ := inR_iff.1 hc
          have := p1.1 t ht; omega
        have n2 : inR l' y = false := by
          rw [Bool.eq_false_iff]; intro hc
          obtain ⟨t, ht, h3, h4⟩ := inR_iff.1 hc
          have := p2.1 t ht; omega
        rw [n1, n2]
      · have e : (decide (r.a ≤ y) && decide (y < r.b)) = false := by
          rw [Bool.eq_false_iff]; intro hc; simp at hc; exact hin hc
        rw [e] at hy
        simpa [inR] using hy
    rw [ih]

/-! Rows by their number. -/
def rowOf (R : List Row) (y : Int) : List Run := match R.find? (fun w => decide (w.y = y)) with
  | some w => w.runs
  | none => []
theorem rowOf_mem {R : List Row} (h : validR R = true) {w : Row} (hw : w ∈ R) : rowOf R w.y = w.runs := by
  unfold rowOf
  cases hf : R.find? (fun v => decide (v.y = w.y)) with
  | none => have := List.find?_eq_none.1 hf w hw; simp at this
  | some v =>
    have h1 := List.mem_of_find?_eq_some hf
    have h2 := List.find?_some hf
    have := rows_eq h h1 hw (by simpa using h2)
    rw [this]
theorem rowOf_none {R : List Row} {y : Int} (h : ∀ w ∈ R, w.y ≠ y) : rowOf R y = [] := by
  unfold rowOf
  cases hf : R.find? (fun v => decide (v.y = y)) with
  | none => rfl
  | some v => exact absurd (by simpa using List.find?_some hf) (h v (List.mem_of_find?_eq_some hf))
theorem rowOf_cases {R : List Row} (h : validR R = true) (y : Int) : (∃ w ∈ R, w.y = y ∧ rowOf R y = w.runs) ∨ ((∀ w ∈ R, w.y ≠ y) ∧ rowOf R y = []) := by
  by_cases e : ∃ w ∈ R, w.y = y
  · obtain ⟨w, hw, rfl⟩ := e
    exact .inl ⟨w, hw, rfl, rowOf_mem h hw⟩
  · have : ∀ w ∈ R, w.y ≠ y := fun w hw hy => e ⟨w, hw, hy⟩
    exact .inr ⟨this, rowOf_none this⟩
theorem rowOf_rv {R : List Row} (h : validR R = true) (y : Int) : rvalid (rowOf R y) = true := by
  rcases rowOf_cases h y with ⟨w, hw, _, e⟩ | ⟨_, e⟩
  · rw [e]; exact fine_rv (row_fine h hw).2
  · rw [e]; rfl
theorem rowOf_in {R : List Row} (h : validR R = true) (c : Cell) : c ∈ regCells R ↔ inR (rowOf R c.y) c.x = true := by
  rw [mem_regCells, inR_iff]
  constructor
  · rintro ⟨w, hw, hy, r, hr, h1, h2⟩
    rw [hy, rowOf_mem h hw]
    exact ⟨r, hr, h1, h2⟩
  · rintro ⟨r, hr, h1, h2⟩
    rcases rowOf_cases h c.y with ⟨w, hw, hy, e⟩ | ⟨_, e⟩
    · rw [e] at hr; exact ⟨w, hw, hy.symm, r, hr, h1, h2⟩
    · rw [e] at hr; cases hr
theorem rowOf_range {R : List Row} (h : validR R = true) {y x : Int} (hx : inR (rowOf R y) x = true) : -4096 ≤ y ∧ y < 4096 ∧ -4096 ≤ x ∧ x < 4096 := by
  have := cells_on h ((rowOf_in h ⟨x, y⟩).2 hx)
  simp [onG] at this; omega
theorem validR_pw {R : List Row} : validR R = true ↔ (∀ w ∈ R, (-4096 ≤ w.y ∧ w.y < 4096) ∧ fine w.runs = true) ∧ R.Pairwise fun a b => a.y < b.y := by
  constructor
  · intro h; exact ⟨fun w hw => row_fine h hw, rows_pw h⟩
  · rintro ⟨h1, h2⟩
    apply List.all_eq_true.2
    intro i hi
    have hi : i < R.length := by simpa using hi
    obtain ⟨r, hr⟩ := getq hi
    obtain ⟨p, hp⟩ : ∃ q, R[i - 1]? = some q := getq (by omega)
    obtain ⟨h3, h4⟩ := h1 r (List.mem_of_getElem? hr)
    rw [rowAt_some hr hp, h4]
    simp only [Bool.and_true, Bool.and_eq_true, Bool.or_eq_true, beq_iff_eq, decide_eq_true_eq]
    refine ⟨by simp [okB]; omega, ?_⟩
    by_cases e : i = 0
    · exact .inl e
    · right
      obtain ⟨hi', rfl⟩ := List.getElem?_eq_some_iff.1 hr
      obtain ⟨hp', rfl⟩ := List.getElem?_eq_some_iff.1 hp
      exact List.pairwise_iff_getElem.1 h2 (i - 1) i hp' hi' (by omega)

/-! Operations on regions, row by row. -/
def opRow (f : Bool → Bool → Bool) (a b : List Row) (y : Int) : List Row := if sweep f (rowOf a y) (rowOf b y) = [] then [] else [⟨y, sweep f (rowOf a y) (rowOf b y)⟩]
def opOn (f : Bool → Bool → Bool) (a b : List Row) (ys : List Int) : List Row := ys.flatMap (opRow f a b)
theorem opRow_mem {f : Bool → Bool → Bool} {a b : List Row} {y : Int} {w : Row} (h : w ∈ opRow f a b y) : w.y = y ∧ w.runs = sweep f (rowOf a y) (rowOf b y) ∧ w.runs ≠ [] := by
  unfold opRow at h
  split at h
  · cases h
  · rename_i e; simp at h; subst h; exact ⟨rfl, rfl, e⟩
theorem opOn_valid {f : Bool → Bool → Bool} (hf : f false false = false) {a b : List Row} (ha : validR a = true) (hb : validR b = true) {ys : List Int} (hp : ys.Pairwise (· < ·)) : validR (opOn f a b ys) = true := by
  refine validR_pw.2 ⟨fun w hw => ?_, ?_⟩
  · obtain ⟨y, hy, hw⟩ := List.mem_flatMap.1 hw
    obtain ⟨e1, e2, e3⟩ := opRow_mem hw
    obtain ⟨h1, h2⟩ := sweep_facts hf (rowOf_rv ha y) (rowOf_rv hb y)
    rw [← e2] at h1 h2
    have key : ∀ x, inR w.runs x = true → -4096 ≤ y ∧ y < 4096 ∧ -4096 ≤ x ∧ x < 4096 := fun x hx => by
      rw [h2] at hx
      cases e : inR (rowOf a y) x with
      | true => exact rowOf_range ha e
      | false =>
        cases e' : inR (rowOf b y) x with
        | true => exact rowOf_range hb e'
        | false => rw [e, e', hf] at hx; cases hx
    have hbd := apart_bounds h1 (lo := -4096) (hi := 4096) (fun x hx => ⟨(key x hx).2.2.1, (key x hx).2.2.2⟩)
    refine ⟨?_, fine_apart.2 ⟨e3, h1, hbd⟩⟩
    obtain ⟨r, hr⟩ := List.exists_mem_of_ne_nil _ e3
    have := key r.a (inR_iff.2 ⟨r, hr, Int.le_refl _, h1.1 r hr⟩)
    rw [e1]; omega
  · unfold opOn
    rw [List.pairwise_flatMap]
    refine ⟨fun y _ => by unfold opRow; split <;> simp, hp.imp fun {y z} hyz u hu v hv => ?_⟩
    rw [(opRow_mem hu).1, (opRow_mem hv).1]; exact hyz
theorem opOn_cells {f : Bool → Bool → Bool} (hf : f false false = false) {a b : List Row} (ha : validR a = true) (hb : validR b = true) {ys : List Int} (hp : ys.Pairwise (· < ·)) (hys : ∀ w, w ∈ a ∨ w ∈ b → w.y ∈ ys) (c : Cell) :
    decide (c ∈ regCells (opOn f a b ys)) = f (decide (c ∈ regCells a)) (decide (c ∈ regCells b)) := by
  have hv := opOn_valid hf ha hb hp
  have e1 : decide (c ∈ regCells a) = inR (rowOf a c.y) c.x := by rw [Bool.eq_iff_iff]; simp [rowOf_in ha]
  have e2 : decide (c ∈ regCells b) = inR (rowOf b c.y) c.x := by rw [Bool.eq_iff_iff]; simp [rowOf_in hb]
  rw [e1, e2, ← (sweep_facts hf (rowOf_rv ha c.y) (rowOf_rv hb c.y)).2]
  rw [Bool.eq_iff_iff, decide_eq_true_eq, mem_regCells, inR_iff]
  constructor
  · rintro ⟨w, hw, hy, r, hr, h1, h2⟩
    obtain ⟨y, hym, hw⟩ := List.mem_flatMap.1 hw
    obtain ⟨q1, q2, q3⟩ := opRow_mem hw
    rw [hy, q1]
    rw [q2] at hr
    exact ⟨r, hr, h1, h2⟩
  · rintro ⟨r, hr, h1, h2⟩
    have hne : sweep f (rowOf a c.y) (rowOf b c.y) ≠ [] := by rintro e; rw [e] at hr; cases hr
    have hym : c.y ∈ ys := by
      have hin : f (inR (rowOf a c.y) c.x) (inR (rowOf b c.y) c.x) = true := by
        rw [← (sweep_facts hf (rowOf_rv ha c.y) (rowOf_rv hb c.y)).2]; exact inR_iff.2 ⟨r, hr, h1, h2⟩
      rcases rowOf_cases ha c.y with ⟨w, hw, hy, _⟩ | ⟨_, e⟩
      · rw [← hy]; exact hys w (.inl hw)
      · rcases rowOf_cases hb c.y with ⟨w, hw, hy, _⟩ | ⟨_, e'⟩
        · rw [← hy]; exact hys w (.inr hw)
        · rw [e, e'] at hin; simp [inR, hf] at hin
    refine ⟨⟨c.y, sweep f (rowOf a c.y) (rowOf b c.y)⟩, List.mem_flatMap.2 ⟨c.y, hym, ?_⟩, rfl, r, hr, h1, h2⟩
    unfold opRow
    rw [if_neg hne]; simp
theorem opOn_uniq {f : Bool → Bool → Bool} (hf : f false false = false) {a b : List Row} (ha : validR a = true) (hb : validR b = true) {ys zs : List Int} (hp : ys.Pairwise (· < ·)) (hq : zs.Pairwise (· < ·)) (hys : ∀ w, w ∈ a ∨ w ∈ b → w.y ∈ ys) (hzs : ∀ w, w ∈ a ∨ w ∈ b → w.y ∈ zs) : opOn f a b ys = opOn f a b zs := by
  refine region_uniq (opOn_valid hf ha hb hp) (opOn_valid hf ha hb hq) fun c => ?_
  have h1 := opOn_cells hf ha hb hp hys c
  have h2 := opOn_cells hf ha hb hq hzs c
  rw [← h2] at h1
  exact decide_eq_decide.1 h1
/-- All rows' numbers, in their order. -/
def allY (a b : List Row) : List Int := (a.map Row.y ++ b.map Row.y).mergeSort (fun x y => decide (x ≤ y))
def dedup : List Int → List Int
  | [] => []
  | [x] => [x]
  | x :: y :: l => if x = y then dedup (y :: l) else x :: dedup (y :: l)
theorem dedup_mem : ∀ (l : List Int) (y : Int), y ∈ dedup l ↔ y ∈ l
  | [], _ => by simp [dedup]
  | [x], _ => by simp [dedup]
  | x :: z :: l, y => by
    simp only [dedup]
    split
    · rename_i e; subst e; rw [dedup_mem (x :: l) y]; simp
    · rw [List.mem_cons, dedup_mem (z :: l) y]; simp
theorem dedup_pw : ∀ (l : List Int), l.Pairwise (· ≤ ·) → (dedup l).Pairwise (· < ·)
  | [], _ => by simp [dedup]
  | [x], _ => by simp [dedup]
  | x :: z :: l, h => by
    have h1 := List.pairwise_cons.1 h
    simp only [dedup]
    split
    · exact dedup_pw (z :: l) h1.2
    · rename_i e
      refine List.pairwise_cons.2 ⟨fun y hy => ?_, dedup_pw (z :: l) h1.2⟩
      rw [dedup_mem] at hy
      have h2 := h1.1 z (by simp)
      rcases List.mem_cons.1 hy with rfl | hy
      · omega
      · have := (List.pairwise_cons.1 h1.2).1 y hy; omega
theorem allY_perm (a b : List Row) : (allY a b).Perm (a.map Row.y ++ b.map Row.y) := List.mergeSort_perm _ _
theorem allY_le (a b : List Row) : (allY a b).Pairwise (· ≤ ·) := by
  have := List.pairwise_mergeSort (le := fun x y : Int => decide (x ≤ y)) (fun a b c h1 h2 => by simp at *; omega) (fun a b => by simp; omega) (a.map Row.y ++ b.map Row.y)
  exact this.imp fun h => by simpa using h
theorem allY_mem {a b : List Row} (w : Row) (h : w ∈ a ∨ w ∈ b) : w.y ∈ dedup (allY a b) := by
  rw [dedup_mem, (allY_perm a b).mem_iff, List.mem_append]
  rcases h with h | h
  · exact .inl (List.mem_map_of_mem h)
  · exact .inr (List.mem_map_of_mem h)
/-- The result of an operation. -/
def opR (f : Bool → Bool → Bool) (a b : List Row) : List Row := if validR a && validR b then opOn f a b (dedup (allY a b)) else []
theorem opR_facts {f : Bool → Bool → Bool} (hf : f false false = false) {a b : List Row} (ha : validR a = true) (hb : validR b = true) : validR (opR f a b) = true ∧ ∀ c, decide (c ∈ regCells (opR f a b)) = f (decide (c ∈ regCells a)) (decide (c ∈ regCells b)) := by
  have e : opR f a b = opOn f a b (dedup (allY a b)) := by simp [opR, ha, hb]
  rw [e]
  exact ⟨opOn_valid hf ha hb (dedup_pw _ (allY_le a b)), opOn_cells hf ha hb (dedup_pw _ (allY_le a b)) allY_mem⟩
theorem opR_on {f : Bool → Bool → Bool} (hf : f false false = false) {a b : List Row} (ha : validR a = true) (hb : validR b = true) {ys : List Int} (hp : ys.Pairwise (· < ·)) (hys : ∀ w, w ∈ a ∨ w ∈ b → w.y ∈ ys) : opOn f a b ys = opR f a b := by
  have e : opR f a b = opOn f a b (dedup (allY a b)) := by simp [opR, ha, hb]
  rw [e]
  exact opOn_uniq hf ha hb hp (dedup_pw _ (allY_le a b)) hys allY_mem
end Go.Proofs.Ytmfkfgonedgjnaa
