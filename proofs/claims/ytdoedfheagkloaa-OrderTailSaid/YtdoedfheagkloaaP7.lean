/-
  The walks of this seat's functions and the plain laws behind them: part P7.
-/
import Derived.Test.YtdoedfheagkloaaP5
import Derived.Test.YtdoedfheagkloaaP4
set_option linter.unusedVariables false
set_option linter.unusedSimpArgs false
namespace Go.Proofs.Ytdoedfheagkloaa
open Go.Abs

/-! Tracks up to reversal and turning; lists up to order. -/
def alikeB (a b : Track) : Bool := decide (a = b) || (!b.closed && decide (a = revT b)) || (b.closed && (List.range b.cells.length).any fun i : Nat => decide (a = turT b i))
def key (t : Track) : Track → Bool := fun s => alikeB s t
def key2 (t : Track) : Track → Bool := fun s => decide (s = t) || (!t.closed && decide (s = revT t))

theorem rot_zero (l : List Cell) : rot l 0 = l := by simp [rot]
theorem rot_inv {l : List Cell} {k : Nat} (hk : k ≤ l.length) : rot (rot l k) (l.length - k) = l := by
  unfold rot
  rw [List.drop_left' (by simp), List.take_left' (by simp), List.take_append_drop]
theorem rot_rot {l : List Cell} {i j : Nat} (hi : i < l.length) (hj : j < l.length) : ∃ k, k < l.length ∧ rot (rot l i) j = rot l k := by
  refine ⟨(i + j) % l.length, Nat.mod_lt _ (by omega), ?_⟩
  have h1 : (rot l i).length = l.length := rot_length (by omega)
  have h2 : (rot (rot l i) j).length = l.length := by rw [rot_length (by omega), h1]
  have hk := Nat.mod_lt (i + j) (show l.length > 0 by omega)
  have h3 : (rot l ((i + j) % l.length)).length = l.length := rot_length (by omega)
  apply List.ext_getElem?
  intro p
  by_cases hp : p < l.length
  · rw [rot_at (by omega) (by omega), h1, rot_at (by omega) (Nat.mod_lt _ (by omega)), rot_at (by omega) hp, Nat.add_mod_mod, Nat.mod_add_mod, Nat.add_assoc]
  · rw [List.getElem?_eq_none (by omega), List.getElem?_eq_none (by omega)]

theorem alike_closed {a b : Track} (hv : validT b = true) (hc : b.closed = true) : alikeB a b = true ↔ ∃ i, i < b.cells.length ∧ a = { b with cells := rot b.cells i } := by
  have h1 := (validT_facts hv).1
  have h2 : (alikeB a b = true) ↔ (a = b ∨ ∃ i, i < b.cells.length ∧ a = turT b (i : Nat)) := by
    simp [alikeB, hc]
  rw [h2]
  constructor
  · rintro (rfl | ⟨i, hi, e⟩)
    · exact ⟨0, by omega, by rw [rot_zero]⟩
    · exact ⟨i, hi, by rw [e, turT_valid hv hc hi]⟩
  · rintro ⟨i, hi, e⟩
    exact .inr ⟨i, hi, by rw [e, turT_valid hv hc hi]⟩

theorem alike_open {a b : Track} (hc : b.closed = false) : alikeB a b = true ↔ a = b ∨ a = revT b := by
  simp [alikeB, hc]

theorem key_of {a b : Track} (hv : validT b = true) (h : alikeB a b = true) : key a = key b := by
  funext s
  apply Bool.eq_iff_iff.2
  show alikeB s a = true ↔ alikeB s b = true
  cases hc : b.closed with
  | true =>
    obtain ⟨i, hi, e⟩ := (alike_closed hv hc).1 h
    have hva : validT a = true := by rw [e, ← turT_valid hv hc hi]; exact validT_tur hv hc hi
    have hca : a.closed = true := by rw [e]; exact hc
    have hl : a.cells.length = b.cells.length := by rw [e]; exact rot_length (by omega)
    rw [alike_closed hva hca, alike_closed hv hc]
    have ec : a.cells = rot b.cells i := by rw [e]
    have ex : ∀ X, ({ a with cells := X } : Track) = { b with cells := X } := fun X => by rw [e]
    constructor
    · rintro ⟨j, hj, e2⟩
      obtain ⟨k, hk, e3⟩ := rot_rot hi (show j < b.cells.length by omega)
      exact ⟨k, hk, by rw [e2, ex, ec, e3]⟩
    · rintro ⟨k, hk, e2⟩
      by_cases h0 : i = 0
      · subst h0
        rw [rot_zero] at ec
        exact ⟨k, by omega, by rw [e2, ex, ec]⟩
      · obtain ⟨j, hj, e3⟩ := rot_rot (l := rot b.cells i) (i := b.cells.length - i) (j := k) (by rw [rot_length (by omega)]; omega) (by rw [rot_length (by omega)]; omega)
        rw [rot_inv (by omega)] at e3
        exact ⟨j, by rw [← ec] at hj; omega, by rw [e2, ex, ec, e3]⟩
  | false =>
    rw [alike_open hc]
    rcases (alike_open hc).1 h with rfl | e
    · rw [alike_open hc]
    · have hca : a.closed = false := by rw [e, revT_valid hv]; exact hc
      rw [alike_open hca, e, rev_rev hv]
      exact or_comm

theorem alike_refl (t : Track) : alikeB t t = true := by simp [alikeB]
theorem alike_key {a b : Track} (h : key a = key b) : alikeB a b = true := by
  have := congrFun h a
  simp only [key] at this
  rw [← this]; exact alike_refl a
theorem key_variant {t : Track} {k : Nat} (hv : validT t = true) (hk : k < (cands t).length) : key (variant t k) = key t := by
  apply key_of hv
  unfold variant
  unfold cands at hk
  cases hc : t.closed with
  | true =>
    simp only [hc, if_true] at hk ⊢
    rw [alike_closed hv hc, turT_valid hv hc hk]
    exact ⟨k, hk, rfl⟩
  | false =>
    simp only [hc, Bool.false_eq_true, if_false] at hk ⊢
    rw [alike_open hc]
    split
    · exact .inr rfl
    · exact .inl rfl
theorem key_rv {t : Track} (hv : validT t = true) : key (rv t) = key t := by
  apply key_of hv
  unfold rv
  cases hc : t.closed with
  | true => simp [alike_refl]
  | false =>
    simp only [Bool.false_eq_true, if_false]
    rw [alike_open hc]; exact .inr rfl
theorem key2_rev {t : Track} (hv : validT t = true) (hc : t.closed = false) : key2 (revT t) = key2 t := by
  have hca : (revT t).closed = false := by rw [revT_valid hv]; exact hc
  funext s
  simp only [key2, hca, hc, rev_rev hv]
  exact Bool.or_comm _ _ |>.trans (by simp)
theorem key2_rv {t : Track} (hv : validT t = true) : key2 (rv t) = key2 t := by
  unfold rv
  cases hc : t.closed with
  | true => simp
  | false => simp [key2_rev hv hc]
theorem key2_vs {t v : Track} (hv : validT t = true) (h : v ∈ vs t) : key2 v = key2 t := by
  unfold vs at h
  cases hc : t.closed with
  | true => simp [hc] at h; rw [h]
  | false =>
    simp [hc] at h
    rcases h with rfl | rfl
    · rfl
    · exact key2_rev hv hc
theorem vs_key2 {t v : Track} (h : key2 v = key2 t) : v ∈ vs t := by
  have := congrFun h v
  simp [key2] at this
  unfold vs
  cases hc : t.closed with
  | true => simp [hc] at this; simp [this]
  | false => simp [hc] at this; simp [this]
theorem key2_open {t : Track} {k : Nat} (hv : validT t = true) (hc : t.closed = false) : key2 (variant t k) = key2 t := by
  unfold variant
  simp only [hc, Bool.false_eq_true, if_false]
  split
  · exact key2_rev hv hc
  · rfl
theorem vs_variant {t v : Track} (hv : validT t = true) (h : v ∈ vs t) : key v = key t := by
  apply key_of hv
  unfold vs at h
  cases hc : t.closed with
  | true => simp [hc] at h; rw [h]; exact alike_refl t
  | false =>
    simp [hc] at h
    rw [alike_open hc]; exact h

theorem perm_at {α β : Type} (K : α → β) : ∀ {X : List α} {i : Nat} {x : α}, X[i]? = some x → (X.map K).Perm (K x :: (X.eraseIdx i).map K)
  | [], i, x, h => by simp at h
  | y :: X, 0, x, h => by
    simp at h
    subst h
    simp
  | y :: X, i + 1, x, h => by
    have := perm_at K (X := X) (i := i) (x := x) (by simpa using h)
    simp only [List.map_cons, List.eraseIdx_cons_succ]
    exact (this.cons _).trans (List.Perm.swap _ _ _)

theorem gr_perm {β : Type} (K : Track → β) : ∀ (n : Nat) (f : Cell) (L : List Track), onG f = true → (∀ t ∈ L, validT t = true) → (∀ t ∈ L, ∀ k, k < (cands t).length → K (variant t k) = K t) → L.length = n → ((gr n f L).map K).Perm (L.map K)
  | 0, f, L, _, _, _, hn => by
    have : L = [] := List.length_eq_zero_iff.1 hn
    subst this; simp [gr]
  | n + 1, f, L, hf, hL, hK, hn => by
    obtain ⟨_, _, _, h4⟩ := pk_bd f L hf hL L.length (Nat.le_refl _)
    obtain ⟨h5, h6, t, ht, hb⟩ := h4 (by omega)
    have hvt := hL t (List.mem_of_getElem? ht)
    obtain ⟨b1, b2, b3, b4⟩ := best_facts (f := f) hvt
    simp only [gr, ht]
    generalize (pk f L L.length).1 = i at *
    rw [hb]
    have hlen : (L.eraseIdx i).length = n := by rw [List.length_eraseIdx, if_pos h5]; omega
    have ih := gr_perm K n (lstC (variant t (best f t).1)) (L.eraseIdx i) (validT_facts b4).2.2.2.2.2.2 (erase_valid hL) (fun u hu => hK u (List.mem_of_mem_eraseIdx hu)) hlen
    rw [List.map_cons, hK t (List.mem_of_getElem? ht) _ b1]
    exact (ih.cons _).trans (perm_at K ht).symm

theorem rp_perm {β : Type} (K : Track → β) {l : List Track} {i j : Nat} (hK : ∀ t ∈ l, K (rv t) = K t) (hij : i ≤ j) : ((revPart l i j).map K).Perm (l.map K) := by
  have h := split3 l hij
  have e : (((l.drop i).take (j + 1 - i)).reverse.map rv).map K = (((l.drop i).take (j + 1 - i)).map K).reverse := by
    rw [List.map_map, ← List.map_reverse]
    apply List.map_congr_left
    intro t ht
    exact hK t (List.mem_of_mem_drop (List.mem_of_mem_take (List.mem_reverse.1 ht)))
  unfold revPart
  conv => rhs; rw [h]
  simp only [List.map_append]
  rw [e]
  exact ((List.Perm.refl _).append (List.reverse_perm _)).append (List.Perm.refl _)

theorem imp_perm {β : Type} (K : Track → β) (hK : ∀ t, validT t = true → K (rv t) = K t) (f : Cell) : ∀ (n : Nat) (l : List Track), (∀ t ∈ l, validT t = true) → ((imp f n l).map K).Perm (l.map K)
  | 0, l, _ => by simp [imp]
  | n + 1, l, hL => by
    simp only [imp]
    split
    · rename_i i j hs
      obtain ⟨a1, a2, a3⟩ := scanI_some (Nat.le_of_eq (Nat.zero_add _)) hs
      exact (imp_perm K hK f n _ (rp_valid hL)).trans (rp_perm K (fun t ht => hK t (hL t ht)) a1)
    · exact List.Perm.refl _

theorem imp_cost (f : Cell) : ∀ (n : Nat) (l : List Track), (∀ t ∈ l, validT t = true) → costV f (imp f n l) ≤ costV f l
  | 0, l, _ => by simp [imp]
  | n + 1, l, hL => by
    simp only [imp]
    split
    · rename_i i j hs
      obtain ⟨a1, a2, a3⟩ := scanI_some (Nat.le_of_eq (Nat.zero_add _)) hs
      rw [gain_eq f l hL a1 a2] at a3
      have := imp_cost f n _ (rp_valid (i := i) (j := j) hL)
      simp at a3
      omega
    · exact Int.le_refl _

theorem greedy_perm {f : Cell} {l : List Track} (hf : onG f = true) : ((greedy f l).map key).Perm ((l.filter validT).map key) := by
  unfold greedy
  rw [if_pos hf]
  exact gr_perm key _ f _ hf (filter_valid l) (fun t ht k hk => key_variant (filter_valid l t ht) hk) rfl
theorem improve_perm {f : Cell} {l : List Track} (r : Int) (hf : onG f = true) : ((improve f l r).map key).Perm ((l.filter validT).map key) := by
  unfold improve
  rw [if_pos hf]
  exact imp_perm key (fun t hv => key_rv hv) f _ _ (filter_valid l)
theorem improve_cost {f : Cell} {l : List Track} (r : Int) (hf : onG f = true) : cost f (improve f l r) ≤ cost f l := by
  rw [cost_valid hf (improve_valid f l r)]
  unfold improve cost
  rw [if_pos hf, if_pos hf]
  exact imp_cost f _ _ (filter_valid l)
theorem greedy_off {f : Cell} {l : List Track} (hf : onG f = false) : greedy f l = [] := by simp [greedy, hf]
theorem improve_off {f : Cell} {l : List Track} {r : Int} (hf : onG f = false) : improve f l r = [] := by simp [improve, hf]

/-! The nearest first. -/
theorem bst_min (f : Cell) (cs : List Cell) : ∀ (k j : Nat) (c : Cell), j < k → cs[j]? = some c → (bst f cs k).2 ≤ dist f c
  | 0, j, c, h, _ => by omega
  | k + 1, j, c, h, hc => by
    simp only [bst]
    by_cases hj : j = k
    · subst hj
      rw [hc]
      simp only
      split
      · exact Int.le_refl _
      · omega
    · have := bst_min f cs k j c (by omega) hc
      split
      · split
        · simp only; omega
        · exact this
      · exact this
theorem best_min {f : Cell} {t : Track} {c : Cell} (h : c ∈ cands t) : (best f t).2 ≤ dist f c := by
  obtain ⟨j, hj⟩ := List.mem_iff_getElem?.1 h
  exact bst_min f _ _ j c (List.getElem?_eq_some_iff.1 hj).1 hj
theorem pk_min {f : Cell} {L : List Track} (hf : onG f = true) (hL : ∀ t ∈ L, validT t = true) : ∀ (k j : Nat) (t : Track), k ≤ L.length → j < k → L[j]? = some t → (pk f L k).2.2 ≤ (best f t).2
  | 0, j, t, _, h, _ => by omega
  | k + 1, j, t, hk, h, ht => by
    obtain ⟨_, _, _, h4⟩ := pk_bd f L hf hL k (by omega)
    simp only [pk]
    by_cases hj : j = k
    · subst hj
      rw [ht]
      simp only
      split
      · exact Int.le_refl _
      · omega
    · have := pk_min hf hL k j t (by omega) (by omega) ht
      split
      · split
        · simp only; omega
        · exact this
      · exact this
/-- The first track of the greedy order begins as near as any can. -/
theorem greedy_first {f : Cell} {l : List Track} {g : Track} {r : List Track} (hf : onG f = true) (hg : greedy f l = g :: r) : validT g = true ∧ ∀ t ∈ l, validT t = true → ∀ c ∈ cands t, dist f (fstC g) ≤ dist f c := by
  have hvg : validT g = true := greedy_valid f l g (by rw [hg]; simp)
  refine ⟨hvg, fun t ht hv c hc => ?_⟩
  unfold greedy at hg
  rw [if_pos hf] at hg
  have hL := filter_valid l
  have htm : t ∈ l.filter validT := List.mem_filter.2 ⟨ht, hv⟩
  generalize l.filter validT = L at *
  cases hn : L.length with
  | zero => rw [List.length_eq_zero_iff.1 hn] at htm; cases htm
  | succ n =>
    rw [hn] at hg
    obtain ⟨_, _, _, h4⟩ := pk_bd f L hf hL L.length (Nat.le_refl _)
    obtain ⟨h5, h6, u, hu, hb⟩ := h4 (by omega)
    have hvu := hL u (List.mem_of_getElem? hu)
    obtain ⟨b1, b2, b3, b4⟩ := best_facts (f := f) hvu
    simp only [gr, hu] at hg
    rw [hb] at hg
    obtain ⟨j, hj⟩ := List.mem_iff_getElem?.1 htm
    have m1 := pk_min hf hL L.length j t (Nat.le_refl _) (List.getElem?_eq_some_iff.1 hj).1 hj
    have m2 := best_min (f := f) hc
    have e : g = variant u (best f u).1 := (List.cons.inj hg).1.symm
    rw [e, ← b3]
    rw [hb] at m1
    omega
end Go.Proofs.Ytdoedfheagkloaa
