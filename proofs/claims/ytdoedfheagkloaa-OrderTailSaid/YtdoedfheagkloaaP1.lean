/-
  The walks of this seat's functions and the plain laws behind them: part P1.
-/
import Derived.Test.YtdoedfheagkloaaO6
set_option linter.unusedVariables false
set_option linter.unusedSimpArgs false
namespace Go.Proofs.Ytdoedfheagkloaa
open Go.Abs

theorem nbr_comm (a b : Cell) : nbr a b = nbr b a := by
  unfold nbr dist
  congr 1
  omega

/-- Validity in plain words. -/
theorem validT_iff (t : Track) : validT t = true ↔ (1 ≤ t.role ∧ t.role ≤ 7 ∧ 1 ≤ t.cells.length ∧ t.cells.length ≤ 65536) ∧ (∀ c ∈ t.cells, onG c = true) ∧
    (∀ i a b, t.cells[i]? = some a → t.cells[i + 1]? = some b → nbr a b = true) ∧ (t.closed = true → t.cells.length ≠ 1 → nbr (lstC t) (fstC t) = true) := by
  constructor
  · intro h
    obtain ⟨v1, v2, v3, v4, v5, v6, v7⟩ := validT_facts h
    simp only [validT, Bool.and_eq_true] at h
    obtain ⟨⟨h1, h2⟩, h3⟩ := h
    refine ⟨by simp [roleOk] at h1; omega, v5, fun i a b ha hb => ?_, fun hc hn => ?_⟩
    · have := List.all_eq_true.1 h2 (i + 1) (by simpa using (List.getElem?_eq_some_iff.1 hb).1)
      rw [okAt_some hb (by simpa using ha)] at this
      simpa using (Bool.and_eq_true_iff.1 this).2
    · simp only [closes, v3, v4, hc] at h3
      simp at h3
      rcases h3 with h3 | h3
      · omega
      · exact h3
  · rintro ⟨⟨a1, a2, a3, a4⟩, h2, h3, h4⟩
    obtain ⟨a, ha⟩ : ∃ a, t.cells[0]? = some a := getq (by omega)
    obtain ⟨b, hb⟩ : ∃ a, t.cells[t.cells.length - 1]? = some a := getq (by omega)
    have e1 : fstC t = a := by simp [fstC, ha]
    have e2 : lstC t = b := by simp [lstC, hb]
    simp only [validT, Bool.and_eq_true]
    refine ⟨⟨by simp [roleOk]; omega, ?_⟩, ?_⟩
    · rw [List.all_eq_true]
      intro i hi
      have hi : i < t.cells.length := by simpa using hi
      obtain ⟨c, hc⟩ := getq hi
      obtain ⟨p, hp⟩ : ∃ p, t.cells[i - 1]? = some p := getq (by omega)
      rw [okAt_some hc hp, h2 c (List.mem_of_getElem? hc)]
      by_cases h0 : i = 0
      · simp [h0]
      · have := h3 (i - 1) p c hp (by rw [show i - 1 + 1 = i by omega]; exact hc)
        simp [this]
    · simp only [closes, ha, hb]
      cases hc : t.closed with
      | false => rfl
      | true =>
        by_cases hn : t.cells.length = 1
        · simp [hn]
        · have := h4 hc hn
          rw [e1, e2] at this
          simp [this]

theorem rev_get {l : List Cell} {i : Nat} (hi : i < l.length) : l.reverse[i]? = l[l.length - 1 - i]? := by
  rw [List.getElem?_reverse hi]

theorem revT_valid {t : Track} (h : validT t = true) : revT t = { t with cells := t.cells.reverse } := by simp [revT, h]

theorem fstC_rev {t : Track} (h : validT t = true) : fstC (revT t) = lstC t ∧ lstC (revT t) = fstC t := by
  obtain ⟨v1, _⟩ := validT_facts h
  rw [revT_valid h]
  unfold fstC lstC
  simp only [List.length_reverse]
  rw [rev_get (by omega), rev_get (by omega)]
  simp

theorem validT_rev {t : Track} (h : validT t = true) : validT (revT t) = true := by
  have hf := fstC_rev h
  obtain ⟨h1, h2, h3, h4⟩ := (validT_iff t).1 h
  rw [validT_iff, hf.1, hf.2, revT_valid h]
  refine ⟨by simpa using h1, by simpa using h2, fun i a b ha hb => ?_, fun hc hn => ?_⟩
  · simp only at ha hb
    have hlt := (List.getElem?_eq_some_iff.1 hb).1
    simp at hlt
    rw [rev_get (by omega)] at ha hb
    rw [nbr_comm]
    exact h3 (t.cells.length - 1 - (i + 1)) b a hb (by rw [show t.cells.length - 1 - (i + 1) + 1 = t.cells.length - 1 - i by omega]; exact ha)
  · rw [nbr_comm]; exact h4 hc (by simpa using hn)

theorem rev_rev {t : Track} (h : validT t = true) : revT (revT t) = t := by
  rw [revT_valid (validT_rev h), revT_valid h]; simp

theorem rot_at {l : List Cell} {k j : Nat} (hk : k ≤ l.length) (hj : j < l.length) : (rot l k)[j]? = l[(k + j) % l.length]? := by
  obtain ⟨x, hx⟩ : ∃ x, l[(k + j) % l.length]? = some x := getq (Nat.mod_lt _ (by omega))
  have h1 := rot_get hk hj hx
  have h2 : (rot l k).take (j + 1) = (rot l k).take j ++ ((rot l k)[j]?).toList := by rw [List.take_add_one]
  rw [h1, hx] at *
  have := List.append_cancel_left h2
  cases hq : (rot l k)[j]? with
  | none => rw [hq] at this; simp at this
  | some y => rw [hq] at this; simp at this; rw [this]

theorem tIx_nat {t : Track} {i : Nat} (hc : t.closed = true) (hi : i < t.cells.length) : tIx t i = i := by
  simp only [tIx, hc, if_true]
  have h1 : (i : Int).tmod t.cells.length = i := Int.tmod_eq_of_lt (by omega) (by omega)
  rw [h1, Int.tmod_eq_emod_of_nonneg (by omega), Int.add_emod_right, Int.emod_eq_of_lt (by omega) (by omega)]
  simp

theorem turT_valid {t : Track} {i : Nat} (h : validT t = true) (hc : t.closed = true) (hi : i < t.cells.length) : turT t i = { t with cells := rot t.cells i } := by
  simp [turT, h, tIx_nat hc hi]

theorem ends_rot {t : Track} {i : Nat} (h : validT t = true) (hc : t.closed = true) (hi : i < t.cells.length) : t.cells[i]? = some (fstC (turT t i)) ∧ t.cells[(i + (t.cells.length - 1)) % t.cells.length]? = some (lstC (turT t i)) := by
  rw [turT_valid h hc hi]
  unfold fstC lstC
  have hl : (rot t.cells i).length = t.cells.length := rot_length (by omega)
  simp only [hl]
  rw [rot_at (by omega) (by omega), rot_at (by omega) (by omega)]
  constructor
  · rw [Nat.add_zero, Nat.mod_eq_of_lt hi]
    obtain ⟨x, hx⟩ := getq hi
    rw [hx]; rfl
  · obtain ⟨x, hx⟩ : ∃ x, t.cells[(i + (t.cells.length - 1)) % t.cells.length]? = some x := getq (Nat.mod_lt _ (by omega))
    rw [hx]; rfl

/-- Neighbors around a closed track. -/
theorem ring_nbr {t : Track} (h : validT t = true) (hc : t.closed = true) (hn : t.cells.length ≠ 1) {j : Nat} {a b : Cell} (ha : t.cells[j % t.cells.length]? = some a) (hb : t.cells[(j + 1) % t.cells.length]? = some b) : nbr a b = true := by
  obtain ⟨h1, h2, h3, h4⟩ := (validT_iff t).1 h
  obtain ⟨v1, v2, v3, v4, _⟩ := validT_facts h
  by_cases e : j % t.cells.length + 1 < t.cells.length
  · have : (j + 1) % t.cells.length = j % t.cells.length + 1 := by
      rw [Nat.add_mod, Nat.mod_eq_of_lt (a := 1) (by omega), Nat.mod_eq_of_lt e]
    rw [this] at hb
    exact h3 _ a b ha hb
  · have hlt := Nat.mod_lt j (show 0 < t.cells.length by omega)
    have e1 : j % t.cells.length = t.cells.length - 1 := by omega
    have e2 : (j + 1) % t.cells.length = 0 := by
      rw [Nat.add_mod, Nat.mod_eq_of_lt (a := 1) (by omega), e1, show t.cells.length - 1 + 1 = t.cells.length by omega, Nat.mod_self]
    rw [e1] at ha
    rw [e2] at hb
    have q1 : lstC t = a := by rw [v4] at ha; exact Option.some.inj ha
    have q2 : fstC t = b := by rw [v3] at hb; exact Option.some.inj hb
    rw [← q1, ← q2]
    exact h4 hc hn

theorem validT_tur {t : Track} {i : Nat} (h : validT t = true) (hc : t.closed = true) (hi : i < t.cells.length) : validT (turT t i) = true := by
  obtain ⟨e1, e2⟩ := ends_rot h hc hi
  obtain ⟨h1, h2, h3, h4⟩ := (validT_iff t).1 h
  rw [validT_iff]
  generalize fstC (turT t i) = p at *
  generalize lstC (turT t i) = q at *
  rw [turT_valid h hc hi]
  have hl : (rot t.cells i).length = t.cells.length := rot_length (by omega)
  simp only [hl]
  refine ⟨h1, fun c hcm => h2 c ?_, fun j a b ha hb => ?_, fun _ hn => ?_⟩
  · simp only [rot, List.mem_append] at hcm
    exact hcm.elim List.mem_of_mem_drop List.mem_of_mem_take
  · have hlt := (List.getElem?_eq_some_iff.1 hb).1
    rw [hl] at hlt
    rw [rot_at (by omega) (by omega)] at ha hb
    exact ring_nbr h hc (by omega) ha (by rw [Nat.add_assoc]; exact hb)
  · refine ring_nbr h hc hn (j := i + (t.cells.length - 1)) e2 ?_
    rw [show i + (t.cells.length - 1) + 1 = i + t.cells.length by omega, Nat.add_mod_right, Nat.mod_eq_of_lt hi]
    exact e1

/-- The variants of a valid track are valid, and begin at its candidates. -/
theorem variant_valid {t : Track} {k : Nat} (h : validT t = true) (hk : k < (cands t).length) : validT (variant t k) = true ∧ (cands t)[k]? = some (fstC (variant t k)) := by
  unfold variant
  unfold cands at hk ⊢
  cases hc : t.closed with
  | true =>
    simp only [hc, if_true] at hk ⊢
    exact ⟨validT_tur h hc hk, (ends_rot h hc hk).1⟩
  | false =>
    simp only [hc, Bool.false_eq_true, if_false] at hk ⊢
    simp at hk
    have : k = 0 ∨ k = 1 := by omega
    rcases this with rfl | rfl
    · simpa using h
    · simp only [show ((1 : Nat) : Int) = 1 from rfl, if_true]
      exact ⟨validT_rev h, by rw [(fstC_rev h).1]; rfl⟩

theorem variants_at {t : Track} {k : Nat} (hk : k < (cands t).length) (h : validT t = true) : (variants t)[k]? = some (variant t k) := by
  unfold variants variant
  unfold cands at hk
  cases hc : t.closed with
  | true =>
    simp only [hc, if_true] at hk ⊢
    simp [hk]
  | false =>
    simp only [hc, Bool.false_eq_true, if_false] at hk ⊢
    simp at hk
    have : k = 0 ∨ k = 1 := by omega
    rcases this with rfl | rfl
    · simp
    · simp
theorem variants_length {t : Track} : (variants t).length = (cands t).length := by
  unfold variants cands
  split <;> simp

theorem bst_facts (f : Cell) (cs : List Cell) (hcs : 1 ≤ cs.length) : ∀ k, k ≤ cs.length → (bst f cs k).1 < cs.length ∧ ∃ c, cs[(bst f cs k).1]? = some c ∧ (bst f cs k).2 = dist f c := by
  intro k
  induction k with
  | zero =>
    intro _
    obtain ⟨c, hc⟩ : ∃ c, cs[0]? = some c := getq (by omega)
    exact ⟨by simp only [bst]; omega, c, hc, by simp [bst, hc]⟩
  | succ k ih =>
    intro hk
    obtain ⟨c, hc⟩ : ∃ c, cs[k]? = some c := getq (by omega)
    simp only [bst, hc]
    split
    · exact ⟨by omega, c, hc, rfl⟩
    · exact ih (by omega)

theorem best_facts {f : Cell} {t : Track} (h : validT t = true) : (best f t).1 < (cands t).length ∧ (cands t)[(best f t).1]? = some (fstC (variant t (best f t).1)) ∧ (best f t).2 = dist f (fstC (variant t (best f t).1)) ∧ validT (variant t (best f t).1) = true := by
  obtain ⟨n1, _, _⟩ := cands_facts h
  obtain ⟨h1, c, h2, h3⟩ := bst_facts f (cands t) n1 _ (Nat.le_refl _)
  obtain ⟨q1, q2⟩ := variant_valid h h1
  refine ⟨h1, q2, ?_, q1⟩
  rw [h2] at q2
  have h4 := Option.some.inj q2
  rw [← show best f t = bst f (cands t) (cands t).length from rfl] at h3 h4
  rw [← h4]
  exact h3
end Go.Proofs.Ytdoedfheagkloaa
