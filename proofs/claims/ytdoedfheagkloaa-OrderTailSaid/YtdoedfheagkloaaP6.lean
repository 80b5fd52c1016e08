/-
  The walks of this seat's functions and the plain laws behind them: part P6.
-/
import Derived.Test.YtdoedfheagkloaaP5
import Derived.Test.YtdoedfheagkloaaO14
set_option linter.unusedVariables false
set_option linter.unusedSimpArgs false
namespace Go.Proofs.Ytdoedfheagkloaa
open Go.Abs

theorem chG_valid : ∀ (n : Nat) (f : Cell) (l : List Track), (∀ t ∈ l, validT t = true) → ∀ t ∈ (chG n f l).1, validT t = true
  | 0, f, l, _, t, ht => by simp [chG] at ht
  | n + 1, f, l, hL, t, ht => by
    have h1 : ∀ (i : Nat) (v : Track) (st : List Track × Int), validT v = true → (∀ t ∈ st.1, validT t = true) → ∀ t ∈ (stp (chG n) f l i st v).1, validT t = true := fun i v st hv h t ht => by
      unfold stp at ht
      split at ht
      · rcases List.mem_cons.1 ht with rfl | ht
        · exact hv
        · exact chG_valid n _ _ (erase_valid hL) t ht
      · exact h t ht
    have h2 : ∀ (i : Nat) (V : List Track) (st : List Track × Int), (∀ v ∈ V, validT v = true) → (∀ t ∈ st.1, validT t = true) → ∀ t ∈ (V.foldl (stp (chG n) f l i) st).1, validT t = true := fun i V => by
      induction V with
      | nil => intro st _ h; exact h
      | cons v V ih => intro st hV h; exact ih _ (fun x hx => hV x (by simp [hx])) (h1 i v st (hV v (by simp)) h)
    have h3 : ∀ k, ∀ t ∈ (cS (chG n) f l k).1, validT t = true := fun k => by
      induction k with
      | zero => simp [cS]
      | succ k ih =>
        simp only [cS]
        split
        · rename_i u hu
          exact h2 _ _ _ (fun v hv => vs_valid (hL u (List.mem_of_getElem? hu)) hv) ih
        · exact ih
    exact h3 _ t ht

theorem best_cases (f : Cell) (l : List Track) : ((bestS f l).2 ≠ 0 ∧ (bestS f l).1 = []) ∨ (onG f = true ∧ (∀ t ∈ l, validT t = true) ∧ l.length ≤ 6 ∧ bestS f l = ((chG l.length f l).1, 0)) := by
  unfold bestS
  split
  · exact .inl ⟨by simp, rfl⟩
  · rename_i h
    split
    · exact .inl ⟨by simp, rfl⟩
    · rename_i h6
      simp only [not_or] at h
      have hf : (l.filter validT).length = l.length := Classical.not_not.1 h.2
      exact .inr ⟨by simpa using h.1, List.length_filter_eq_length_iff.1 hf, by omega, rfl⟩
theorem best_valid (f : Cell) (l : List Track) : ∀ t ∈ (bestS f l).1, validT t = true := by
  rcases best_cases f l with ⟨_, h⟩ | ⟨_, h1, _, h⟩
  · rw [h]; simp
  · rw [h]; exact chG_valid _ f l h1
theorem best_cells (f : Cell) (l : List Track) : ∀ t ∈ (bestS f l).1, t.cells.length ≤ 65536 := fun t ht => (validT_facts (best_valid f l t ht)).2.1
theorem best_len (f : Cell) (l : List Track) : (bestS f l).1.length ≤ 1000 := by
  rcases best_cases f l with ⟨_, h⟩ | ⟨_, _, h6, h⟩
  · rw [h]; simp
  · rw [h]
    have := chG_len l.length f l
    simp only
    omega
end Go.Proofs.Ytdoedfheagkloaa
