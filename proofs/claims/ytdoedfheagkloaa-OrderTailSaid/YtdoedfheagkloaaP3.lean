/-
  The walks of this seat's functions and the plain laws behind them: part P3.
-/
import Derived.Test.YtdoedfheagkloaaO11
set_option linter.unusedVariables false
set_option linter.unusedSimpArgs false
namespace Go.Proofs.Ytdoedfheagkloaa
open Go.Abs

/-- A track, and its reverse if it is open. -/
def vs (t : Track) : List Track := if t.closed then [t] else [t, revT t]
def stp (G : Cell → List Track → List Track × Int) (f : Cell) (l : List Track) (i : Nat) (st : List Track × Int) (v : Track) : List Track × Int :=
  if st.2 < 0 ∨ (G (lstC v) (l.eraseIdx i)).2 + dist f (fstC v) < st.2 then (v :: (G (lstC v) (l.eraseIdx i)).1, (G (lstC v) (l.eraseIdx i)).2 + dist f (fstC v)) else st
def cS (G : Cell → List Track → List Track × Int) (f : Cell) (l : List Track) : Nat → List Track × Int
  | 0 => ([], -1)
  | i + 1 => match l[i]? with
    | some t => (vs t).foldl (stp G f l i) (cS G f l i)
    | none => cS G f l i
def chG : Nat → Cell → List Track → List Track × Int
  | 0, _, _ => ([], 0)
  | n + 1, f, l => ((cS (chG n) f l l.length).1, max (cS (chG n) f l l.length).2 0)

theorem vs_valid {t v : Track} (h : validT t = true) (hv : v ∈ vs t) : validT v = true := by
  unfold vs at hv
  split at hv
  · simp at hv; rw [hv]; exact h
  · simp at hv
    rcases hv with rfl | rfl
    · exact h
    · exact validT_rev h
theorem vs_len (t : Track) : 1 ≤ (vs t).length ∧ (vs t).length ≤ 2 := by unfold vs; split <;> simp

theorem foldl_take {α β : Type} (f : β → α → β) (b : β) (l : List α) {j : Nat} {x : α} (h : l[j]? = some x) : (l.take (j + 1)).foldl f b = f ((l.take j).foldl f b) x := by
  rw [List.take_add_one, h]; simp

theorem stp_bd {G : Cell → List Track → List Track × Int} {f : Cell} {l : List Track} {i : Nat} {v : Track} {st : List Track × Int} {M : Int} (hf : onG f = true) (hv : validT v = true) (hG : 0 ≤ (G (lstC v) (l.eraseIdx i)).2 ∧ (G (lstC v) (l.eraseIdx i)).2 + 16384 ≤ M) (hs : -1 ≤ st.2 ∧ st.2 ≤ M) :
    -1 ≤ (stp G f l i st v).2 ∧ (stp G f l i st v).2 ≤ M := by
  have := dist_bd hf (validT_facts hv).2.2.2.2.2.1
  unfold stp
  split
  · simp only; omega
  · exact hs

theorem fold_bd {G : Cell → List Track → List Track × Int} {f : Cell} {l : List Track} {i : Nat} {M : Int} (hf : onG f = true) (hG : ∀ v, validT v = true → 0 ≤ (G (lstC v) (l.eraseIdx i)).2 ∧ (G (lstC v) (l.eraseIdx i)).2 + 16384 ≤ M) : ∀ (V : List Track) (st : List Track × Int), (∀ v ∈ V, validT v = true) → (-1 ≤ st.2 ∧ st.2 ≤ M) →
    -1 ≤ (V.foldl (stp G f l i) st).2 ∧ (V.foldl (stp G f l i) st).2 ≤ M
  | [], st, _, hs => hs
  | v :: V, st, hV, hs => fold_bd hf hG V _ (fun x hx => hV x (by simp [hx])) (stp_bd hf (hV v (by simp)) (hG v (hV v (by simp))) hs)

theorem cS_bd {G : Cell → List Track → List Track × Int} {f : Cell} {l : List Track} {M : Int} (hf : onG f = true) (hM : -1 ≤ M) (hL : ∀ t ∈ l, validT t = true) (hG : ∀ i v, i < l.length → validT v = true → 0 ≤ (G (lstC v) (l.eraseIdx i)).2 ∧ (G (lstC v) (l.eraseIdx i)).2 + 16384 ≤ M) : ∀ k, k ≤ l.length → -1 ≤ (cS G f l k).2 ∧ (cS G f l k).2 ≤ M
  | 0, _ => by simp [cS]; exact hM
  | k + 1, h => by
    obtain ⟨t, ht⟩ : ∃ t, l[k]? = some t := getq (by omega)
    simp only [cS, ht]
    exact fold_bd hf (fun v hv => hG k v (by omega) hv) (vs t) _ (fun v hv => vs_valid (hL t (List.mem_of_getElem? ht)) hv) (cS_bd hf hM hL hG k (by omega))

theorem chG_bd : ∀ (n : Nat) (f : Cell) (l : List Track), onG f = true → (∀ t ∈ l, validT t = true) → l.length = n → 0 ≤ (chG n f l).2 ∧ (chG n f l).2 ≤ 16384 * n
  | 0, f, l, _, _, _ => by simp [chG]
  | n + 1, f, l, hf, hL, hn => by
    have := cS_bd (G := chG n) (M := 16384 * (n + 1)) hf (by omega) hL (fun i v hi hv => by
      have := chG_bd n (lstC v) (l.eraseIdx i) (validT_facts hv).2.2.2.2.2.2 (erase_valid hL) (by rw [List.length_eraseIdx, if_pos hi]; omega)
      omega) l.length (Nat.le_refl _)
    simp only [chG]
    omega
end Go.Proofs.Ytdoedfheagkloaa
