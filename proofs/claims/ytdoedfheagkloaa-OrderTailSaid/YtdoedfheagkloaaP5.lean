/-
  The walks of this seat's functions and the plain laws behind them: part P5.
-/
import Derived.Test.YtdoedfheagkloaaO10
import Derived.Test.YtdoedfheagkloaaO11
set_option linter.unusedVariables false
set_option linter.unusedSimpArgs false
namespace Go.Proofs.Ytdoedfheagkloaa
open Go.Abs

theorem gr_valid : ∀ (n : Nat) (f : Cell) (L : List Track), onG f = true → (∀ t ∈ L, validT t = true) → ∀ t ∈ gr n f L, validT t = true
  | 0, _, _, _, _, t, ht => by simp [gr] at ht
  | n + 1, f, L, hf, hL, t, ht => by
    simp only [gr] at ht
    split at ht
    · rename_i u hu
      have hpos : 0 < L.length := by
        have := (List.getElem?_eq_some_iff.1 hu).1
        omega
      obtain ⟨_, _, t', h1, h2⟩ := (pk_bd f L hf hL L.length (Nat.le_refl _)).2.2.2 hpos
      rw [hu] at h1
      cases h1
      obtain ⟨_, _, _, b4⟩ := best_facts (f := f) (hL u (List.mem_of_getElem? hu))
      rw [h2] at ht
      rcases List.mem_cons.1 ht with rfl | ht
      · exact b4
      · exact gr_valid n _ _ (validT_facts b4).2.2.2.2.2.2 (erase_valid hL) t ht
    · simp at ht
theorem gr_len : ∀ (n : Nat) (f : Cell) (L : List Track), (gr n f L).length ≤ n
  | 0, _, _ => by simp [gr]
  | n + 1, f, L => by
    simp only [gr]
    split
    · simp only [List.length_cons]; exact Nat.succ_le_succ (gr_len n _ _)
    · simp
theorem greedy_valid (f : Cell) (l : List Track) : ∀ t ∈ greedy f l, validT t = true := by
  intro t ht
  unfold greedy at ht
  split at ht
  · rename_i h; exact gr_valid _ f _ h (filter_valid l) t ht
  · simp at ht
theorem greedy_cells (f : Cell) (l : List Track) : ∀ t ∈ greedy f l, t.cells.length ≤ 65536 := fun t ht => (validT_facts (greedy_valid f l t ht)).2.1
theorem greedy_len (f : Cell) (l : List Track) (hl : l.length ≤ 1000) : (greedy f l).length ≤ 1000 := by
  unfold greedy
  split
  · exact Nat.le_trans (gr_len _ _ _) (Nat.le_trans (List.length_filter_le _ _) hl)
  · simp

theorem imp_valid (f : Cell) : ∀ (n : Nat) (l : List Track), (∀ t ∈ l, validT t = true) → ∀ t ∈ imp f n l, validT t = true
  | 0, _, h => h
  | n + 1, l, h => by
    simp only [imp]
    split
    · exact imp_valid f n _ (rp_valid h)
    · exact h
theorem improve_valid (f : Cell) (l : List Track) (r : Int) : ∀ t ∈ improve f l r, validT t = true := by
  intro t ht
  unfold improve at ht
  split at ht
  · exact imp_valid f _ _ (filter_valid l) t ht
  · simp at ht
theorem improve_cells (f : Cell) (l : List Track) (r : Int) : ∀ t ∈ improve f l r, t.cells.length ≤ 65536 := fun t ht => (validT_facts (improve_valid f l r t ht)).2.1
theorem improve_len (f : Cell) (l : List Track) (r : Int) (hl : l.length ≤ 1000) : (improve f l r).length ≤ 1000 := by
  unfold improve
  split
  · rw [imp_length]; exact Nat.le_trans (List.length_filter_le _ _) hl
  · simp

theorem imp_add (f : Cell) (b : Nat) : ∀ (a : Nat) (l : List Track), imp f (a + b) l = imp f b (imp f a l)
  | 0, l => by simp [imp]
  | a + 1, l => by
    rw [show a + 1 + b = (a + b) + 1 by omega]
    simp only [imp]
    split
    · exact imp_add f b a _
    · rename_i h
      cases b with
      | zero => rfl
      | succ b => simp only [imp, h]
theorem improve_add (f : Cell) (l : List Track) {a b : Int} (ha : 0 ≤ a ∧ a ≤ 32) (hb : 0 ≤ b ∧ b ≤ 32) : improve f (improve f l a) b = improve f l (a + b) := by
  have hv := improve_valid f l a
  have hfil : (improve f l a).filter validT = improve f l a := List.filter_eq_self.2 hv
  by_cases h : onG f = true
  · have e : ∀ (L : List Track) (r : Int), improve f L r = imp f (min r 64).toNat (L.filter validT) := fun L r => by unfold improve; rw [if_pos h]
    rw [e (improve f l a) b, hfil, e l a, e l (a + b), ← imp_add]
    congr 1
    omega
  · have e : ∀ (L : List Track) (r : Int), improve f L r = [] := fun L r => by unfold improve; rw [if_neg h]
    rw [e, e]
end Go.Proofs.Ytdoedfheagkloaa
