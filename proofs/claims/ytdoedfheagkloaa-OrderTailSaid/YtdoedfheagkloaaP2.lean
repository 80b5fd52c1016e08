/-
  The walks of this seat's functions and the plain laws behind them: part P2.
-/
import Derived.Test.YtdoedfheagkloaaO10
set_option linter.unusedVariables false
set_option linter.unusedSimpArgs false
namespace Go.Proofs.Ytdoedfheagkloaa
open Go.Abs

/-! What gains compares is the cost before and behind the reversal. -/
def endOf (f : Cell) : List Track → Cell
  | [] => f
  | t :: r => endOf (lstC t) r

theorem costV_app : ∀ (a b : List Track) (f : Cell), costV f (a ++ b) = costV f a + costV (endOf f a) b
  | [], b, f => by simp [costV, endOf]
  | t :: r, b, f => by simp only [List.cons_append, costV, endOf, costV_app r b (lstC t)]; omega

theorem endOf_app : ∀ (a b : List Track) (f : Cell), endOf f (a ++ b) = endOf (endOf f a) b
  | [], b, f => rfl
  | t :: r, b, f => by simp only [List.cons_append, endOf, endOf_app r b]

theorem endOf_take {l : List Track} (f : Cell) : ∀ {i : Nat}, i ≤ l.length → endOf f (l.take i) = nzl f l i
  | 0, _ => by simp [endOf, nzl]
  | i + 1, h => by
    obtain ⟨t, ht⟩ : ∃ t, l[i]? = some t := getq (by omega)
    rw [List.take_add_one, ht, endOf_app]
    simp [endOf, nzl, ht, endA]

/-- The cost of a part in its order. -/
theorem part_cost {l : List Track} {i : Nat} {t : Track} (ht : l[i]? = some t) (e : Cell) : ∀ {m : Nat}, i + m < l.length → ∃ u, l[i + m]? = some u ∧ costV e ((l.drop i).take (m + 1)) = dist e (endA t).1 + sumA l (i + m) - sumA l i ∧ endOf e ((l.drop i).take (m + 1)) = (endA u).2
  | 0, h => by
    refine ⟨t, ht, ?_, ?_⟩
    · rw [drop_get ht]; simp [costV, endA]
    · rw [drop_get ht]; simp [endOf, endA]
  | m + 1, h => by
    obtain ⟨u, hu, h1, h2⟩ := part_cost ht e (m := m) (by omega)
    obtain ⟨v, hv⟩ : ∃ v, l[i + (m + 1)]? = some v := getq h
    have hd : (l.drop i)[m + 1]? = some v := by rw [List.getElem?_drop]; exact hv
    have hs : sumA l (i + (m + 1)) = sumA l (i + m) + dist (endA u).2 (endA v).1 := by
      show sumA l (i + m + 1) = _
      simp only [sumA, hu, show l[i + m + 1]? = some v from hv]
    refine ⟨v, hv, ?_, ?_⟩
    · rw [List.take_add_one, hd, costV_app, h1, h2, hs]
      simp [costV, endA]; omega
    · rw [List.take_add_one, hd, endOf_app]
      simp [endOf, endA]

/-- The cost of a part in the other order. -/
theorem part_back {l : List Track} (hL : ∀ t ∈ l, validT t = true) {i : Nat} {t : Track} (ht : l[i]? = some t) (e : Cell) : ∀ {m : Nat}, i + m < l.length → ∃ u, l[i + m]? = some u ∧
    costV e (((l.drop i).take (m + 1)).reverse.map rv) = dist e (endB u).1 + sumB l (i + m) - sumB l i ∧ endOf e (((l.drop i).take (m + 1)).reverse.map rv) = (endB t).2
  | 0, h => by
    have hvt := hL t (List.mem_of_getElem? ht)
    refine ⟨t, ht, ?_, ?_⟩
    · rw [drop_get ht, endB_rv hvt]; simp [costV, endA]
    · rw [drop_get ht, endB_rv hvt]; simp [endOf, endA]
  | m + 1, h => by
    have aux : ∀ e' : Cell, ∃ u, l[i + m]? = some u ∧ costV e' (((l.drop i).take (m + 1)).reverse.map rv) = dist e' (endB u).1 + sumB l (i + m) - sumB l i ∧ endOf e' (((l.drop i).take (m + 1)).reverse.map rv) = (endB t).2 := fun e' => part_back hL ht e' (m := m) (by omega)
    obtain ⟨v, hv⟩ : ∃ v, l[i + (m + 1)]? = some v := getq h
    have hvv := hL v (List.mem_of_getElem? hv)
    have hd : (l.drop i)[m + 1]? = some v := by rw [List.getElem?_drop]; exact hv
    obtain ⟨u, hu, h1, h2⟩ := aux (endB v).2
    have hs : sumB l (i + (m + 1)) = sumB l (i + m) + dist (endB v).2 (endB u).1 := by
      show sumB l (i + m + 1) = _
      simp only [sumB, hu, show l[i + m + 1]? = some v from hv]
    have heq : (((l.drop i).take (m + 1 + 1)).reverse.map rv) = rv v :: (((l.drop i).take (m + 1)).reverse.map rv) := by
      rw [List.take_add_one, hd]; simp
    have e1 : fstC (rv v) = (endB v).1 := by rw [endB_rv hvv]; rfl
    have e2 : lstC (rv v) = (endB v).2 := by rw [endB_rv hvv]; rfl
    refine ⟨v, hv, ?_, ?_⟩
    · rw [heq]
      simp only [costV, e1, e2, h1, hs]; omega
    · rw [heq]
      simp only [endOf, e2, h2]

theorem split3 (l : List Track) {i j : Nat} (hij : i ≤ j) : l = l.take i ++ (l.drop i).take (j + 1 - i) ++ l.drop (j + 1) := by
  have h1 : l.drop (j + 1) = (l.drop i).drop (j + 1 - i) := by rw [List.drop_drop]; congr 1; omega
  rw [List.append_assoc, h1, List.take_append_drop, List.take_append_drop]

theorem gain_eq (f : Cell) (l : List Track) (hL : ∀ t ∈ l, validT t = true) {i j : Nat} (hij : i ≤ j) (hj : j < l.length) : gain f l i j = decide (costV f (revPart l i j) < costV f l) := by
  obtain ⟨t, ht⟩ : ∃ t, l[i]? = some t := getq (by omega)
  obtain ⟨m, rfl⟩ : ∃ m, j = i + m := ⟨j - i, by omega⟩
  obtain ⟨u, hu, a1, a2⟩ := part_cost ht (nzl f l i) (m := m) hj
  obtain ⟨u', hu', b1, b2⟩ := part_back hL ht (nzl f l i) (m := m) hj
  rw [hu] at hu'
  cases hu'
  have e0 := endOf_take f (show i ≤ l.length by omega)
  have hc : costV f l = costV f (l.take i) + (costV (nzl f l i) ((l.drop i).take (m + 1)) + costV (endA u).2 (l.drop (i + m + 1))) := by
    conv => lhs; rw [split3 l (show i ≤ i + m by omega)]
    rw [List.append_assoc, costV_app, costV_app, e0, show i + m + 1 - i = m + 1 by omega, a2]
  have hr : costV f (revPart l i (i + m)) = costV f (l.take i) + (costV (nzl f l i) (((l.drop i).take (m + 1)).reverse.map rv) + costV (endB t).2 (l.drop (i + m + 1))) := by
    unfold revPart
    rw [List.append_assoc, costV_app, costV_app, e0, show i + m + 1 - i = m + 1 by omega, b2]
  rw [hc, hr, a1, b1]
  unfold gain gAfter gBefore
  simp only [ht, hu]
  rw [decide_eq_decide]
  cases hv : l[i + m + 1]? with
  | none =>
    have hd : l.drop (i + m + 1) = [] := List.drop_of_length_le (by
      have := List.getElem?_eq_none_iff.1 hv; omega)
    rw [hd]
    simp only [costV]
    omega
  | some v =>
    have hd : l.drop (i + m + 1) = v :: l.drop (i + m + 1 + 1) := drop_get hv
    have hf : fstC v = (endA v).1 := rfl
    rw [hd]
    simp only [costV, hf]
    omega
end Go.Proofs.Ytdoedfheagkloaa
