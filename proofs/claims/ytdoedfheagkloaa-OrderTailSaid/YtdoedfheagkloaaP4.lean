/-
  The walks of this seat's functions and the plain laws behind them: part P4.
-/
import Derived.Test.YtdoedfheagkloaaP3
set_option linter.unusedVariables false
set_option linter.unusedSimpArgs false
namespace Go.Proofs.Ytdoedfheagkloaa
open Go.Abs

/-! What the search of Best keeps. -/
def brow (b : Bool) : List D := [.bool b]
theorem brow_len (b : Bool) : (brow b).length = 1 := rfl
/-- The tracks that are not used. -/
def un : List Bool → List Track → List Track
  | b :: us, t :: l => if b then un us l else t :: un us l
  | _, _ => []
/-- How many of the first are not used. -/
def cnt : List Bool → Nat → Nat
  | b :: us, i + 1 => (if b then 0 else 1) + cnt us i
  | _, _ => 0

theorem cnt_zero (us : List Bool) : cnt us 0 = 0 := by cases us <;> rfl

theorem un_at : ∀ (us : List Bool) (l : List Track) (i : Nat) (t : Track), us[i]? = some false → l[i]? = some t → (un us l)[cnt us i]? = some t ∧ (un us l).eraseIdx (cnt us i) = un (us.set i true) l
  | [], l, i, t, h, _ => by simp at h
  | b :: us, [], i, t, _, h => by simp at h
  | b :: us, x :: l, 0, t, h, h' => by
    simp at h h'
    subst h h'
    simp [un, cnt]
  | b :: us, x :: l, i + 1, t, h, h' => by
    simp at h h'
    obtain ⟨h1, h2⟩ := un_at us l i t h h'
    cases b
    · simp [un, cnt, Nat.add_comm 1, h1, h2]
    · simp [un, cnt, h1, h2]

theorem cnt_next : ∀ (us : List Bool) (i : Nat) (b : Bool), us[i]? = some b → cnt us (i + 1) = cnt us i + (if b then 0 else 1)
  | [], i, b, h => by simp at h
  | a :: us, 0, b, h => by simp at h; subst h; simp [cnt, cnt_zero]
  | a :: us, i + 1, b, h => by
    simp at h
    have := cnt_next us i b h
    simp only [cnt] at this ⊢
    omega

theorem cnt_all : ∀ (us : List Bool) (l : List Track), us.length = l.length → cnt us l.length = (un us l).length
  | [], [], _ => rfl
  | [], _ :: _, h => by simp at h
  | _ :: _, [], h => by simp at h
  | b :: us, x :: l, h => by
    simp at h
    have := cnt_all us l h
    cases b <;> simp [cnt, un, this] <;> omega

theorem un_mem : ∀ (us : List Bool) (l : List Track) (t : Track), t ∈ un us l → t ∈ l
  | [], _, t, h => by simp [un] at h
  | _ :: _, [], t, h => by simp [un] at h
  | b :: us, x :: l, t, h => by
    cases b <;> simp [un] at h
    · rcases h with h | h
      · simp [h]
      · simp [un_mem us l t h]
    · simp [un_mem us l t h]

theorem un_none : ∀ (l : List Track), un (List.replicate l.length false) l = l
  | [] => rfl
  | x :: l => by simp [List.replicate_succ, un, un_none l]

theorem set_back : ∀ (us : List Bool) (i : Nat), us[i]? = some false → (us.set i true).set i false = us
  | [], i, h => by simp at h
  | b :: us, 0, h => by simp at h; simp [h]
  | b :: us, i + 1, h => by simp at h; simp [set_back us i h]

/-- What is found once more arrangements are tried. -/
def mrg (F : Option (List Track)) (w : Int) (N : List Track) (c : Int) (s : List Track × Int) : Option (List Track) × Int :=
  if s.2 < 0 then (F, w) else if F.isNone = true ∨ c + s.2 < w then (some (N ++ s.1), c + s.2) else (F, w)

theorem mrg_lo (F : Option (List Track)) (w : Int) (N : List Track) (c : Int) (S : List Track) {s : Int} (h : s < 0) : mrg F w N c (S, s) = (F, w) := if_pos h
theorem mrg_new {F : Option (List Track)} {w : Int} (N : List Track) {c : Int} (S : List Track) {s : Int} (h : 0 ≤ s) (h2 : F = none ∨ c + s < w) : mrg F w N c (S, s) = (some (N ++ S), c + s) := by
  unfold mrg
  simp only
  rw [if_neg (show ¬ s < 0 by omega), if_pos (h2.imp (fun e => by rw [e]; rfl) id)]
theorem mrg_old {F : Option (List Track)} {w : Int} (N : List Track) {c : Int} (S : List Track) {s : Int} (h : 0 ≤ s) (h2 : F ≠ none) (h3 : w ≤ c + s) : mrg F w N c (S, s) = (F, w) := by
  unfold mrg
  simp only
  rw [if_neg (show ¬ s < 0 by omega), if_neg]
  rintro (h | h)
  · exact h2 (by simpa using h)
  · omega

theorem mrg_stp {G : Cell → List Track → List Track × Int} {f : Cell} {R : List Track} {k : Nat} {v : Track} {st : List Track × Int} (F : Option (List Track)) (w : Int) (N : List Track) (c : Int) (hG : 0 ≤ (G (lstC v) (R.eraseIdx k)).2) (hd : 0 ≤ dist f (fstC v)) :
    mrg (mrg F w N c st).1 (mrg F w N c st).2 (N ++ [v]) (c + dist f (fstC v)) (G (lstC v) (R.eraseIdx k)) = mrg F w N c (stp G f R k st v) := by
  unfold stp
  generalize G (lstC v) (R.eraseIdx k) = g at *
  generalize dist f (fstC v) = d at *
  obtain ⟨B, b⟩ := g
  obtain ⟨S, s⟩ := st
  simp only at hG ⊢
  have hass : N ++ [v] ++ B = N ++ v :: B := by simp
  have hadd : c + d + b = c + (b + d) := by omega
  by_cases hlt : s < 0 ∨ b + d < s
  · rw [if_pos hlt]
    by_cases h1 : s < 0
    · rw [mrg_lo _ _ _ _ _ h1]
      simp only
      by_cases h2 : F = none ∨ c + (b + d) < w
      · rw [mrg_new _ _ hG (by rw [hadd]; exact h2), mrg_new _ _ (by omega) h2, hass, hadd]
      · simp only [not_or] at h2
        rw [mrg_old _ _ hG h2.1 (by omega), mrg_old _ _ (by omega) h2.1 (by omega)]
    · have h3 : b + d < s := hlt.resolve_left h1
      by_cases h2 : F = none ∨ c + s < w
      · rw [mrg_new _ _ (by omega) h2]
        simp only
        rw [mrg_new _ _ hG (.inr (by omega)), mrg_new _ _ (by omega) (h2.imp id (fun h => by omega)), hass, hadd]
      · simp only [not_or] at h2
        rw [mrg_old _ _ (by omega) h2.1 (by omega)]
        simp only
        by_cases h4 : c + (b + d) < w
        · rw [mrg_new _ _ hG (.inr (by omega)), mrg_new _ _ (by omega) (.inr h4), hass, hadd]
        · rw [mrg_old _ _ hG h2.1 (by omega), mrg_old _ _ (by omega) h2.1 (by omega)]
  · rw [if_neg hlt]
    simp only [not_or] at hlt
    by_cases h2 : F = none ∨ c + s < w
    · rw [mrg_new _ _ (by omega) h2]
      simp only
      rw [mrg_old _ _ hG (by simp) (by omega)]
    · simp only [not_or] at h2
      rw [mrg_old _ _ (by omega) h2.1 (by omega)]
      simp only
      rw [mrg_old _ _ hG h2.1 (by omega)]

theorem stp_pos {G : Cell → List Track → List Track × Int} {f : Cell} {R : List Track} {k : Nat} {v : Track} {st : List Track × Int} (hG : 0 ≤ (G (lstC v) (R.eraseIdx k)).2) (hd : 0 ≤ dist f (fstC v)) : 0 ≤ (stp G f R k st v).2 := by
  unfold stp
  split
  · simp only; omega
  · rename_i h; simp only [not_or] at h; omega

theorem fold_pos {G : Cell → List Track → List Track × Int} {f : Cell} {R : List Track} {k : Nat} : ∀ (V : List Track) (st : List Track × Int), (∀ v ∈ V, 0 ≤ (G (lstC v) (R.eraseIdx k)).2 ∧ 0 ≤ dist f (fstC v)) → V ≠ [] ∨ 0 ≤ st.2 → 0 ≤ (V.foldl (stp G f R k) st).2
  | [], st, _, h => by rcases h with h | h; · exact absurd rfl h
                       · exact h
  | v :: V, st, hV, _ => fold_pos V _ (fun x hx => hV x (by simp [hx])) (.inr (stp_pos (hV v (by simp)).1 (hV v (by simp)).2))

theorem vs_ne (t : Track) : vs t ≠ [] := by unfold vs; split <;> simp

theorem dist_nn (a b : Cell) : 0 ≤ dist a b := by
  unfold dist; omega

theorem cS_pos {G : Cell → List Track → List Track × Int} {f : Cell} {R : List Track} (hR : ∀ t ∈ R, validT t = true) (hG : ∀ v k, validT v = true → k < R.length → 0 ≤ (G (lstC v) (R.eraseIdx k)).2) : ∀ k, 0 < k → k ≤ R.length → 0 ≤ (cS G f R k).2
  | 0, h, _ => by omega
  | k + 1, _, h => by
    obtain ⟨t, ht⟩ : ∃ t, R[k]? = some t := getq (by omega)
    simp only [cS, ht]
    exact fold_pos _ _ (fun v hv => ⟨hG v k (vs_valid (hR t (List.mem_of_getElem? ht)) hv) (by omega), dist_nn _ _⟩) (.inl (vs_ne t))

/-- What is kept is no empty list. -/
def okF (F : Option (List Track)) : Prop := ∀ x, F = some x → x ≠ []
def okS (s : List Track × Int) : Prop := s.2 < 0 ∨ s.1 ≠ []
theorem stp_okS {G : Cell → List Track → List Track × Int} {f : Cell} {R : List Track} {k : Nat} {v : Track} {st : List Track × Int} (h : okS st) : okS (stp G f R k st v) := by
  unfold stp
  split
  · exact .inr (by simp)
  · exact h
theorem fold_okS {G : Cell → List Track → List Track × Int} {f : Cell} {R : List Track} {k : Nat} : ∀ (V : List Track) (st : List Track × Int), okS st → okS (V.foldl (stp G f R k) st)
  | [], _, h => h
  | v :: V, st, h => fold_okS V _ (stp_okS h)
theorem cS_okS (G : Cell → List Track → List Track × Int) (f : Cell) (R : List Track) : ∀ k, okS (cS G f R k)
  | 0 => .inl (by simp [cS])
  | k + 1 => by
    simp only [cS]
    split
    · exact fold_okS _ _ (cS_okS G f R k)
    · exact cS_okS G f R k
theorem mrg_ok {F : Option (List Track)} {w : Int} {N : List Track} {c : Int} {s : List Track × Int} (hF : okF F) (hs : okS s) : okF (mrg F w N c s).1 := by
  unfold mrg
  split
  · exact hF
  · rename_i h1
    split
    · intro x hx
      cases hx
      rcases hs with h | h
      · exact absurd h h1
      · simp [h]
    · exact hF
theorem mrg_ch {F : Option (List Track)} {w : Int} {N : List Track} {c : Int} {s : List Track × Int} (hs : 0 ≤ s.2) : mrg F w N c (s.1, max s.2 0) = mrg F w N c s := by
  have : max s.2 0 = s.2 := by omega
  rw [this]

theorem chG_len : ∀ (n : Nat) (f : Cell) (l : List Track), (chG n f l).1.length ≤ n
  | 0, f, l => by simp [chG]
  | n + 1, f, l => by
    have h1 : ∀ (i : Nat) (v : Track) (st : List Track × Int), st.1.length ≤ n + 1 → (stp (chG n) f l i st v).1.length ≤ n + 1 := fun i v st h => by
      have := chG_len n (lstC v) (l.eraseIdx i)
      unfold stp
      split
      · simp; exact this
      · exact h
    have h2 : ∀ (i : Nat) (V : List Track) (st : List Track × Int), st.1.length ≤ n + 1 → (V.foldl (stp (chG n) f l i) st).1.length ≤ n + 1 := fun i V => by
      induction V with
      | nil => intro st h; exact h
      | cons v V ih => intro st h; exact ih _ (h1 i v st h)
    have h3 : ∀ k, (cS (chG n) f l k).1.length ≤ n + 1 := fun k => by
      induction k with
      | zero => simp [cS]
      | succ k ih =>
        simp only [cS]
        split
        · exact h2 _ _ _ ih
        · exact ih
    simp only [chG]
    exact h3 _
end Go.Proofs.Ytdoedfheagkloaa
