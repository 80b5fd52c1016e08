/-
  The walks of this seat's functions and the plain laws behind them: part Z3.
-/
import Derived.Test.YtmfkfgonedgjnaaX8
import Derived.Test.YtmfkfgonedgjnaaG3
import Derived.Test.YtmfkfgonedgjnaaU3
import Derived.Test.YtmfkfgonedgjnaaU1
set_option linter.unusedVariables false
set_option linter.unusedSimpArgs false
namespace Go.Proofs.Ytmfkfgonedgjnaa
open Go.Abs

/-! A shifted region, and shifted back. -/
theorem foldMin {α : Type} (f : α → Int) : ∀ (l : List α) (m : Int), l.foldl (fun m w => min m (f w)) m ≤ m ∧ (∀ w ∈ l, l.foldl (fun m w => min m (f w)) m ≤ f w) ∧ ∀ b, b ≤ m → (∀ w ∈ l, b ≤ f w) → b ≤ l.foldl (fun m w => min m (f w)) m
  | [], m => by simp
  | x :: l, m => by
    obtain ⟨h1, h2, h3⟩ := foldMin f l (min m (f x))
    simp only [List.foldl_cons]
    refine ⟨by omega, fun w hw => ?_, fun b hb hl => ?_⟩
    · rcases List.mem_cons.1 hw with rfl | hw
      · omega
      · exact h2 w hw
    · have := hl x (by simp)
      exact h3 b (by omega) fun w hw => hl w (by simp [hw])
theorem foldMax {α : Type} (f : α → Int) : ∀ (l : List α) (m : Int), m ≤ l.foldl (fun m w => max m (f w)) m ∧ (∀ w ∈ l, f w ≤ l.foldl (fun m w => max m (f w)) m) ∧ ∀ b, m ≤ b → (∀ w ∈ l, f w ≤ b) → l.foldl (fun m w => max m (f w)) m ≤ b
  | [], m => by simp
  | x :: l, m => by
    obtain ⟨h1, h2, h3⟩ := foldMax f l (max m (f x))
    simp only [List.foldl_cons]
    refine ⟨by omega, fun w hw => ?_, fun b hb hl => ?_⟩
    · rcases List.mem_cons.1 hw with rfl | hw
      · omega
      · exact h2 w hw
    · have := hl x (by simp)
      exact h3 b (by omega) fun w hw => hl w (by simp [hw])
theorem row_ends {w : Row} (h : fine w.runs = true) : (∀ r ∈ w.runs, fstA w ≤ r.a ∧ r.b ≤ lstB w) ∧ -4096 ≤ fstA w ∧ lstB w ≤ 4096 ∧ ∀ dx dy, fstA (shRow dx dy w) = fstA w + dx ∧ lstB (shRow dx dy w) = lstB w + dx := by
  obtain ⟨f, z, hf, hz, hf1, hz1, hl⟩ := fine_ends h
  have e1 : fstA w = f.a := by simp [fstA, hf]
  have e2 : lstB w = z.b := by simp [lstB, hz]
  rw [e1, e2]
  refine ⟨fun r hr => ?_, hf1.1, hz1.2.2, fun dx dy => ⟨?_, ?_⟩⟩
  · obtain ⟨k, hk, rfl⟩ := List.mem_iff_getElem.1 hr
    have hk' := List.getElem?_eq_getElem hk
    exact ⟨(rvalid_asc (fine_rv h) k 0 _ f (Nat.zero_le _) hf hk').1, (rvalid_asc (fine_rv h) (w.runs.length - 1) k z _ (by omega) hk' hz).2⟩
  · simp [fstA, shRow, hf, shRun]
  · simp [lstB, shRow, hz, shRun]
theorem rows_ends {R : List Row} (hv : validR R = true) {w : Row} (hw : w ∈ R) : fstY R ≤ w.y ∧ w.y ≤ lstY R := by
  obtain ⟨k, hk, rfl⟩ := List.mem_iff_getElem.1 hw
  have hp := List.pairwise_iff_getElem.1 (rows_pw hv)
  have e1 : fstY R = R[0].y := by simp [fstY, List.getElem?_eq_getElem (show 0 < R.length by omega)]
  have e2 : lstY R = R[R.length - 1].y := by simp [lstY, List.getElem?_eq_getElem (show R.length - 1 < R.length by omega)]
  rw [e1, e2]
  constructor
  · rcases Nat.eq_zero_or_pos k with h | h
    · subst h; exact Int.le_refl _
    · exact Int.le_of_lt (hp 0 k (by omega) hk h)
  · rcases Nat.lt_or_eq_of_le (show k ≤ R.length - 1 by omega) with h | h
    · exact Int.le_of_lt (hp k (R.length - 1) hk (by omega) h)
    · subst h; exact Int.le_refl _
theorem inB_facts {R : List Row} (hv : validR R = true) (h0 : R ≠ []) {dx dy : Int} (hin : inB R dx dy = true) :
    (∀ w ∈ R, -4096 ≤ fstA w + dx ∧ lstB w + dx ≤ 4096 ∧ -4096 ≤ w.y + dy ∧ w.y + dy < 4096) := by
  intro w hw
  have hs : some? R = true := by simp [some?, hv]; exact List.length_pos_iff.2 h0
  simp only [inB, boxLo, boxHi, hs, if_true, Bool.and_eq_true, decide_eq_true_eq] at hin
  have h1 := (foldMin fstA R 4096).2.1 w hw
  have h2 := (foldMax (fun w => lstB w - 1) R (-4096)).2.1 w hw
  have h3 := rows_ends hv hw
  simp only [lowX, highX] at hin
  omega
theorem sh_valid {R : List Row} (hv : validR R = true) (h0 : R ≠ []) {dx dy : Int} (hin : inB R dx dy = true) : validR (R.map (shRow dx dy)) = true := by
  have hb := inB_facts hv h0 hin
  refine validR_pw.2 ⟨fun w' hw' => ?_, ?_⟩
  · obtain ⟨w, hw, rfl⟩ := List.mem_map.1 hw'
    have hwb := hb w hw
    have hf := (row_fine hv hw).2
    obtain ⟨e1, e2, e3, _⟩ := row_ends hf
    obtain ⟨q1, q2, q3⟩ := fine_apart.1 hf
    refine ⟨by simp only [shRow]; omega, fine_apart.2 ⟨by simpa [shRow] using q1, ⟨fun r' hr' => ?_, ?_⟩, fun r' hr' => ?_⟩⟩
    · obtain ⟨r, hr, rfl⟩ := List.mem_map.1 hr'
      have := q2.1 r hr
      simp only [shRun]; omega
    · simp only [shRow]
      rw [List.pairwise_map]
      exact q2.2.imp fun h => by simp only [shRun]; omega
    · obtain ⟨r, hr, rfl⟩ := List.mem_map.1 hr'
      have := e1 r hr
      simp only [shRun]; omega
  · rw [List.pairwise_map]
    exact (rows_pw hv).imp fun h => by simp only [shRow]; omega
theorem sh_in_back {R : List Row} (hv : validR R = true) (h0 : R ≠ []) {dx dy : Int} (hin : inB R dx dy = true) (hx : -4096 ≤ dx ∧ dx ≤ 4096) : inB (R.map (shRow dx dy)) (-dx) (-dy) = true := by
  have hS := sh_valid hv h0 hin
  have hs : some? (R.map (shRow dx dy)) = true := by simp [some?, hS]; exact List.length_pos_iff.2 h0
  simp only [inB, boxLo, boxHi, hs, if_true, Bool.and_eq_true, decide_eq_true_eq]
  have h1 := (foldMin fstA (R.map (shRow dx dy)) 4096).2.2 (-4096 + dx) (by omega) fun w' hw' => by
    obtain ⟨w, hw, rfl⟩ := List.mem_map.1 hw'
    obtain ⟨_, e2, _, e4⟩ := row_ends (row_fine hv hw).2
    rw [(e4 dx dy).1]; omega
  have h2 := (foldMax (fun w => lstB w - 1) (R.map (shRow dx dy)) (-4096)).2.2 (4095 + dx) (by omega) fun w' hw' => by
    obtain ⟨w, hw, rfl⟩ := List.mem_map.1 hw'
    obtain ⟨_, _, e3, e4⟩ := row_ends (row_fine hv hw).2
    rw [(e4 dx dy).2]; omega
  obtain ⟨v, l, rfl⟩ := List.exists_cons_of_ne_nil h0
  have hf : fstY ((v :: l).map (shRow dx dy)) = v.y + dy := by simp [fstY, shRow]
  have hvY := (row_fine hv (w := v) (by simp)).1
  obtain ⟨z, hz⟩ : ∃ z, (v :: l)[(v :: l).length - 1]? = some z := getq (by simp)
  have hzY := (row_fine hv (List.mem_of_getElem? hz)).1
  have hl : lstY ((v :: l).map (shRow dx dy)) = z.y + dy := by
    unfold lstY
    rw [List.length_map, List.getElem?_map, hz]; rfl
  rw [hf, hl]
  simp only [lowX, highX] at h1 h2 ⊢
  omega
theorem shRow_back (dx dy : Int) (w : Row) : shRow (-dx) (-dy) (shRow dx dy w) = w := by
  obtain ⟨y, l⟩ := w
  simp only [shRow, List.map_map, Row.mk.injEq]
  refine ⟨by omega, ?_⟩
  have : (shRun (-dx) ∘ shRun dx) = id := by
    funext r
    obtain ⟨a, b⟩ := r
    simp only [Function.comp, shRun, id, Run.mk.injEq]
    omega
  rw [this, List.map_id]
theorem back_facts {R : List Row} (hv : validR R = true) {dx dy : Int} (hx : -4096 ≤ dx ∧ dx ≤ 4096) :
    (shE R dx dy = 0 ∧ validR (shR R dx dy) = true ∧ shR (shR R dx dy) (-dx) (-dy) = R ∧ shE (shR R dx dy) (-dx) (-dy) = 0 ∧ countR (shR R dx dy) = countR R) ∨ shE R dx dy = 8 := by
  by_cases h0 : R = []
  · subst h0
    exact .inl ⟨rfl, rfl, rfl, rfl, rfl⟩
  · have hs : some? R = true := by simp [some?, hv]; exact List.length_pos_iff.2 h0
    have hln : ¬ R.length = 0 := fun h => h0 (List.length_eq_zero_iff.1 h)
    cases hin : inB R dx dy with
    | false => right; simp [shE, hv, hln, hin, h0]
    | true =>
      left
      have hS := sh_valid hv h0 hin
      have hb := sh_in_back hv h0 hin hx
      have e1 : shR R dx dy = R.map (shRow dx dy) := by simp [shR, hs, hin]
      have hs2 : some? (R.map (shRow dx dy)) = true := by simp [some?, hS]; exact List.length_pos_iff.2 h0
      rw [e1]
      refine ⟨by simp [shE, hv, hin], hS, ?_, by simp [shE, hS, hb], ?_⟩
      · simp only [shR, hs2, hb, Bool.and_self, if_true, List.map_map]
        have : (shRow (-dx) (-dy) ∘ shRow dx dy) = id := funext fun w => shRow_back dx dy w
        rw [this, List.map_id]
      · simp only [countR, hS, hv, if_true, regCells, List.length_flatMap, List.map_map]
        congr 1
        refine List.map_congr_left fun w _ => ?_
        simp only [Function.comp, rowCells, shRow, List.length_flatMap, List.map_map]
        congr 1
        refine List.map_congr_left fun r _ => ?_
        simp only [Function.comp, runCells_len, shRun]
        congr 1
        omega
end Go.Proofs.Ytmfkfgonedgjnaa
