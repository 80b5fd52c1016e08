/-
  The walks of this seat's functions and the plain laws behind them: part P8.
-/
import Derived.Test.YtdoedfheagkloaaP6
import Derived.Test.YtdoedfheagkloaaP7
set_option linter.unusedVariables false
set_option linter.unusedSimpArgs false
namespace Go.Proofs.Ytdoedfheagkloaa
open Go.Abs

/-! The best order costs least; which track comes first. -/
def cst (G : Cell → List Track → List Track × Int) (f : Cell) (l : List Track) (i : Nat) (v : Track) : Int := (G (lstC v) (l.eraseIdx i)).2 + dist f (fstC v)
def outc (G : Cell → List Track → List Track × Int) (f : Cell) (l : List Track) (i : Nat) (v : Track) : List Track × Int := (v :: (G (lstC v) (l.eraseIdx i)).1, cst G f l i v)
def Rb (G : Cell → List Track → List Track × Int) (f : Cell) (l : List Track) (C : Nat → Track → Prop) (st : List Track × Int) : Prop :=
  (st.2 < 0 ∧ ∀ i v, ¬ C i v) ∨ ∃ i v, C i v ∧ st = outc G f l i v ∧ (∀ i' w, C i' w → cst G f l i v ≤ cst G f l i' w) ∧ (∀ i' w, C i' w → i' < i → cst G f l i v < cst G f l i' w)

theorem rb_step {G : Cell → List Track → List Track × Int} {f : Cell} {l : List Track} {C : Nat → Track → Prop} {st : List Track × Int} {k : Nat} {v : Track} (h : Rb G f l C st) (hC : ∀ i w, C i w → i ≤ k ∧ 0 ≤ cst G f l i w) :
    Rb G f l (fun i w => C i w ∨ (i = k ∧ w = v)) (stp G f l k st v) := by
  have e : stp G f l k st v = if st.2 < 0 ∨ cst G f l k v < st.2 then outc G f l k v else st := rfl
  rw [e]
  rcases h with ⟨h1, h2⟩ | ⟨i, u, h1, h2, h3, h4⟩
  · rw [if_pos (.inl h1)]
    refine .inr ⟨k, v, .inr ⟨rfl, rfl⟩, rfl, ?_, ?_⟩
    · rintro i' w (h | ⟨rfl, rfl⟩)
      · exact absurd h (h2 _ _)
      · exact Int.le_refl _
    · rintro i' w (h | ⟨rfl, rfl⟩) hlt
      · exact absurd h (h2 _ _)
      · omega
  · have hs : st.2 = cst G f l i u := by rw [h2]; rfl
    obtain ⟨c1, c2⟩ := hC i u h1
    split
    · rename_i hc
      have hlt : cst G f l k v < cst G f l i u := by rcases hc with hc | hc <;> omega
      refine .inr ⟨k, v, .inr ⟨rfl, rfl⟩, rfl, ?_, ?_⟩
      · rintro i' w (h | ⟨rfl, rfl⟩)
        · have := h3 i' w h; omega
        · exact Int.le_refl _
      · rintro i' w (h | ⟨rfl, rfl⟩) hl
        · have := h3 i' w h; omega
        · omega
    · rename_i hc
      simp only [not_or] at hc
      refine .inr ⟨i, u, .inl h1, h2, ?_, ?_⟩
      · rintro i' w (h | ⟨rfl, rfl⟩)
        · exact h3 i' w h
        · omega
      · rintro i' w (h | ⟨rfl, rfl⟩) hl
        · exact h4 i' w h hl
        · omega

theorem rb_eq {G : Cell → List Track → List Track × Int} {f : Cell} {l : List Track} {C C' : Nat → Track → Prop} {st : List Track × Int} (h : Rb G f l C st) (e : ∀ i v, C i v ↔ C' i v) : Rb G f l C' st := by
  have : C = C' := by funext i v; exact propext (e i v)
  rw [← this]; exact h

theorem rb_fold {G : Cell → List Track → List Track × Int} {f : Cell} {l : List Track} {k : Nat} : ∀ (V : List Track) (C : Nat → Track → Prop) (st : List Track × Int), Rb G f l C st → (∀ i w, C i w → i ≤ k ∧ 0 ≤ cst G f l i w) → (∀ v ∈ V, 0 ≤ cst G f l k v) →
    Rb G f l (fun i w => C i w ∨ (i = k ∧ w ∈ V)) (V.foldl (stp G f l k) st)
  | [], C, st, h, _, _ => rb_eq h fun i v => by simp
  | v :: V, C, st, h, hC, hV => rb_eq (rb_fold V _ _ (rb_step (v := v) h hC) (by
      rintro i w (h | ⟨rfl, rfl⟩)
      · exact hC i w h
      · exact ⟨Nat.le_refl _, hV _ (by simp)⟩) (fun x hx => hV x (by simp [hx]))) fun i w => by
      simp only [List.mem_cons]
      constructor
      · rintro ((h | ⟨h1, h2⟩) | ⟨h1, h2⟩)
        · exact .inl h
        · exact .inr ⟨h1, .inl h2⟩
        · exact .inr ⟨h1, .inr h2⟩
      · rintro (h | ⟨h1, h2 | h2⟩)
        · exact .inl (.inl h)
        · exact .inl (.inr ⟨h1, h2⟩)
        · exact .inr ⟨h1, h2⟩

theorem rb_cS {G : Cell → List Track → List Track × Int} {f : Cell} {l : List Track} (hG : ∀ i t v, l[i]? = some t → v ∈ vs t → 0 ≤ cst G f l i v) : ∀ k, k ≤ l.length → Rb G f l (fun i v => i < k ∧ ∃ t, l[i]? = some t ∧ v ∈ vs t) (cS G f l k)
  | 0, _ => .inl ⟨by simp [cS], fun i v h => by omega⟩
  | k + 1, hk => by
    obtain ⟨t, ht⟩ : ∃ t, l[k]? = some t := getq (by omega)
    simp only [cS, ht]
    refine rb_eq (rb_fold (vs t) _ _ (rb_cS hG k (by omega)) (fun i w h => ?_) (fun v hv => hG k t v ht hv)) fun i w => ?_
    · obtain ⟨h1, u, hu, hw⟩ := h
      exact ⟨by omega, hG i u w hu hw⟩
    · constructor
      · rintro (⟨h1, u, hu, hw⟩ | ⟨rfl, hw⟩)
        · exact ⟨by omega, u, hu, hw⟩
        · exact ⟨by omega, t, ht, hw⟩
      · rintro ⟨h1, u, hu, hw⟩
        by_cases h : i = k
        · subst h; rw [ht] at hu; cases hu; exact .inr ⟨rfl, hw⟩
        · exact .inl ⟨by omega, u, hu, hw⟩

/-- What the search chooses first. -/
theorem ch_spec {n : Nat} {f : Cell} {l : List Track} (hf : onG f = true) (hL : ∀ t ∈ l, validT t = true) (hn : l.length = n + 1) : ∃ i t v, l[i]? = some t ∧ v ∈ vs t ∧ chG (n + 1) f l = outc (chG n) f l i v ∧
    (∀ i' t' w, l[i']? = some t' → w ∈ vs t' → cst (chG n) f l i v ≤ cst (chG n) f l i' w) ∧ (∀ i' t' w, l[i']? = some t' → w ∈ vs t' → i' < i → cst (chG n) f l i v < cst (chG n) f l i' w) := by
  have hG : ∀ i t v, l[i]? = some t → v ∈ vs t → 0 ≤ cst (chG n) f l i v := fun i t v ht hv => by
    have hvv := vs_valid (hL t (List.mem_of_getElem? ht)) hv
    have hi := (List.getElem?_eq_some_iff.1 ht).1
    have := (chG_bd n (lstC v) (l.eraseIdx i) (validT_facts hvv).2.2.2.2.2.2 (erase_valid hL) (by rw [List.length_eraseIdx, if_pos hi]; omega)).1
    have := dist_nn f (fstC v)
    unfold cst; omega
  rcases rb_cS (G := chG n) (f := f) hG l.length (Nat.le_refl _) with ⟨h1, h2⟩ | ⟨i, v, ⟨h1, t, ht, hv⟩, h2, h3, h4⟩
  · exfalso
    obtain ⟨t, ht⟩ : ∃ t, l[0]? = some t := getq (by omega)
    obtain ⟨v, hv⟩ := List.exists_mem_of_ne_nil _ (vs_ne t)
    exact h2 0 v ⟨by omega, t, ht, hv⟩
  · refine ⟨i, t, v, ht, hv, ?_, fun i' t' w ht' hw => h3 i' w ⟨(List.getElem?_eq_some_iff.1 ht').1, t', ht', hw⟩, fun i' t' w ht' hw hlt => h4 i' w ⟨(List.getElem?_eq_some_iff.1 ht').1, t', ht', hw⟩ hlt⟩
    have h0 := hG i t v ht hv
    simp only [chG, h2, outc]
    rw [show max (cst (chG n) f l i v) 0 = cst (chG n) f l i v by omega]

theorem ch_cost : ∀ (n : Nat) (f : Cell) (l : List Track), onG f = true → (∀ t ∈ l, validT t = true) → l.length = n → costV f (chG n f l).1 = (chG n f l).2
  | 0, f, l, _, _, _ => by simp [chG, costV]
  | n + 1, f, l, hf, hL, hn => by
    obtain ⟨i, t, v, ht, hv, e, _, _⟩ := ch_spec hf hL hn
    have hvv := vs_valid (hL t (List.mem_of_getElem? ht)) hv
    have hi := (List.getElem?_eq_some_iff.1 ht).1
    have := ch_cost n (lstC v) (l.eraseIdx i) (validT_facts hvv).2.2.2.2.2.2 (erase_valid hL) (by rw [List.length_eraseIdx, if_pos hi]; omega)
    rw [e]
    simp only [outc, costV, cst, this]
    omega

theorem ch_perm {β : Type} (K : Track → β) (hK : ∀ t v, validT t = true → v ∈ vs t → K v = K t) : ∀ (n : Nat) (f : Cell) (l : List Track), onG f = true → (∀ t ∈ l, validT t = true) → l.length = n → ((chG n f l).1.map K).Perm (l.map K)
  | 0, f, l, _, _, hn => by
    have : l = [] := List.length_eq_zero_iff.1 hn
    subst this; simp [chG]
  | n + 1, f, l, hf, hL, hn => by
    obtain ⟨i, t, v, ht, hv, e, _, _⟩ := ch_spec hf hL hn
    have hvt := hL t (List.mem_of_getElem? ht)
    have hvv := vs_valid hvt hv
    have hi := (List.getElem?_eq_some_iff.1 ht).1
    have := ch_perm K hK n (lstC v) (l.eraseIdx i) (validT_facts hvv).2.2.2.2.2.2 (erase_valid hL) (by rw [List.length_eraseIdx, if_pos hi]; omega)
    rw [e]
    simp only [outc, List.map_cons]
    rw [hK t v hvt hv]
    exact (this.cons _).trans (perm_at K ht).symm

theorem ch_min : ∀ (n : Nat) (f : Cell) (l X : List Track), onG f = true → (∀ t ∈ l, validT t = true) → l.length = n → (X.map key2).Perm (l.map key2) → (chG n f l).2 ≤ costV f X
  | 0, f, l, X, _, _, hn, hp => by
    have := hp.length_eq
    simp [hn] at this
    subst this
    simp [chG, costV]
  | n + 1, f, l, X, hf, hL, hn, hp => by
    obtain ⟨i, t, v, ht, hv, e, hmin, _⟩ := ch_spec hf hL hn
    cases X with
    | nil => have := hp.length_eq; simp [hn] at this
    | cons w X =>
      have hm : key2 w ∈ l.map key2 := hp.subset (by simp)
      obtain ⟨u, hu, hk⟩ := List.mem_map.1 hm
      obtain ⟨j, hj⟩ := List.mem_iff_getElem?.1 hu
      have hw := vs_key2 hk.symm
      have hvw := vs_valid (hL u hu) hw
      have hjl := (List.getElem?_eq_some_iff.1 hj).1
      have hp2 : (X.map key2).Perm ((l.eraseIdx j).map key2) := by
        have := hp.trans (perm_at key2 hj)
        rw [List.map_cons, hk] at this
        exact this.cons_inv
      have ih := ch_min n (lstC w) (l.eraseIdx j) X (validT_facts hvw).2.2.2.2.2.2 (erase_valid hL) (by rw [List.length_eraseIdx, if_pos hjl]; omega) hp2
      have h3 := hmin j u w hj hw
      rw [e]
      simp only [outc, costV]
      simp only [cst] at h3 ⊢
      omega

theorem ch_same {n : Nat} {f : Cell} {l l' : List Track} (hf : onG f = true) (hL : ∀ t ∈ l, validT t = true) (hL' : ∀ t ∈ l', validT t = true) (hn : l.length = n) (hp : (l.map key2).Perm (l'.map key2)) : (chG n f l).2 = (chG n f l').2 := by
  have hn' : l'.length = n := by have := hp.length_eq; simp at this; omega
  have hK : ∀ t v, validT t = true → v ∈ vs t → key2 v = key2 t := fun t v h1 h2 => key2_vs h1 h2
  have a1 := ch_min n f l (chG n f l').1 hf hL hn ((ch_perm key2 hK n f l' hf hL' hn').trans hp.symm)
  have a2 := ch_min n f l' (chG n f l).1 hf hL' hn' ((ch_perm key2 hK n f l hf hL hn).trans hp)
  rw [ch_cost n f l' hf hL' hn'] at a1
  rw [ch_cost n f l hf hL hn] at a2
  omega

/-- The best order behind its first track is the best one of the others. -/
theorem ch_tail {n : Nat} {f : Cell} {l : List Track} (hf : onG f = true) (hL : ∀ t ∈ l, validT t = true) (hn : l.length = n + 1) : ∃ i t v, l[i]? = some t ∧ v ∈ vs t ∧ validT v = true ∧ (chG (n + 1) f l).1 = v :: (chG n (lstC v) (l.eraseIdx i)).1 ∧ (∀ i' t', i' < i → l[i']? = some t' → v ∉ vs t') := by
  obtain ⟨i, t, v, ht, hv, e, hmin, hst⟩ := ch_spec hf hL hn
  have hvt := hL t (List.mem_of_getElem? ht)
  have hvv := vs_valid hvt hv
  refine ⟨i, t, v, ht, hv, hvv, by rw [e]; rfl, fun i' t' hlt ht' hv' => ?_⟩
  have h := hst i' t' v ht' hv' hlt
  have hi := (List.getElem?_eq_some_iff.1 ht).1
  have hvt' := hL t' (List.mem_of_getElem? ht')
  have hk : key2 t' = key2 t := (key2_vs hvt' hv').symm.trans (key2_vs hvt hv)
  have hp : ((l.eraseIdx i).map key2).Perm ((l.eraseIdx i').map key2) := by
    have := (perm_at key2 ht).symm.trans (perm_at key2 ht')
    rw [hk] at this
    exact this.cons_inv
  have := ch_same (n := n) (validT_facts hvv).2.2.2.2.2.2 (erase_valid hL) (erase_valid hL) (by rw [List.length_eraseIdx, if_pos hi]; omega) hp
  simp only [cst] at h
  omega

theorem best_perm {f : Cell} {l : List Track} (h : (bestS f l).2 = 0) : ((bestS f l).1.map key).Perm ((l.filter validT).map key) := by
  rcases best_cases f l with ⟨h1, _⟩ | ⟨hf, hL, _, e⟩
  · exact absurd h h1
  · rw [e, List.filter_eq_self.2 hL]
    exact ch_perm key (fun t v h1 h2 => vs_variant h1 h2) _ f l hf hL rfl
theorem best_least {f : Cell} {l X : List Track} (h : (bestS f l).2 = 0) (hX : ∀ t ∈ X, validT t = true) (hp : (X.map key2).Perm (l.map key2)) : cost f (bestS f l).1 ≤ cost f X := by
  have hbv := best_valid f l
  rcases best_cases f l with ⟨h1, _⟩ | ⟨hf, hL, _, e⟩
  · exact absurd h h1
  · rw [cost_valid hf hbv, cost_valid hf hX, e]
    simp only
    rw [ch_cost _ f l hf hL rfl]
    exact ch_min _ f l X hf hL rfl hp
theorem improve_perm2 {f : Cell} {l : List Track} (r : Int) (hf : onG f = true) (hL : ∀ t ∈ l, validT t = true) : ((improve f l r).map key2).Perm (l.map key2) := by
  unfold improve
  rw [if_pos hf, List.filter_eq_self.2 hL]
  exact imp_perm key2 (fun t hv => key2_rv hv) f _ _ hL
theorem greedy_perm2 {f : Cell} {l : List Track} (hf : onG f = true) (hL : ∀ t ∈ l, validT t = true) (ho : ∀ t ∈ l, t.closed = false) : ((greedy f l).map key2).Perm (l.map key2) := by
  unfold greedy
  rw [if_pos hf, List.filter_eq_self.2 hL]
  exact gr_perm key2 _ f _ hf hL (fun t ht k _ => key2_open (hL t ht) (ho t ht)) rfl
end Go.Proofs.Ytdoedfheagkloaa
