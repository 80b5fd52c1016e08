/-
  The walks of this seat's functions and the plain laws behind them: part P1.
-/
import Derived.Test.YtnnpmkeojfmclaaL0
set_option linter.unusedVariables false
set_option linter.unusedSimpArgs false
namespace Go.Proofs.Ytnnpmkeojfmclaa
open Go.Abs

theorem bis_spec (p : Int → Bool) : ∀ (n : Nat) (x y : Int), (y - x).toNat ≤ n → x ≤ y → (∀ u w, x ≤ u → u ≤ w → w ≤ y → p w = true → p u = true) →
    x ≤ bis p x y ∧ bis p x y ≤ y ∧ (bis p x y = x ∨ p (bis p x y) = true) ∧ ∀ u, bis p x y < u → u ≤ y → p u = false
  | n, x, y, hn, hxy, hp => by
    by_cases h : x < y
    · rw [bis_if h]
      cases n with
      | zero => omega
      | succ n =>
        split
        · rename_i hm
          obtain ⟨a1, a2, a3, a4⟩ := bis_spec p n ((x + y + 1) / 2) y (by omega) (by omega) (fun u w h1 h2 h3 => hp u w (by omega) h2 h3)
          refine ⟨by omega, a2, ?_, a4⟩
          rcases a3 with e | e
          · right; rw [e]; exact hm
          · exact .inr e
        · rename_i hm
          obtain ⟨a1, a2, a3, a4⟩ := bis_spec p n x ((x + y + 1) / 2 - 1) (by omega) (by omega) (fun u w h1 h2 h3 => hp u w h1 h2 (by omega))
          refine ⟨a1, by omega, a3, fun u h1 h2 => ?_⟩
          by_cases hu : u ≤ (x + y + 1) / 2 - 1
          · exact a4 u h1 hu
          · cases hq : p u with
            | false => rfl
            | true => exact absurd (hp ((x + y + 1) / 2) u (by omega) (by omega) h2 hq) hm
    · rw [bis_end h]
      exact ⟨Int.le_refl _, by omega, .inl rfl, fun u h1 h2 => by omega⟩

/-- The time of one operation does not grow with its speed. -/
theorem ceil_anti (n a b : Int) (hn : 0 ≤ n) (ha : 1 ≤ a) (hab : a ≤ b) : n / b + (if n % b = 0 then 0 else 1) ≤ n / a + (if n % a = 0 then 0 else 1) := by
  have key : ∀ c : Int, 1 ≤ c → n ≤ c * (n / c + (if n % c = 0 then 0 else 1)) ∧ c * (n / c + (if n % c = 0 then 0 else 1)) < n + c := by
    intro c hc
    have h1 := Int.mul_ediv_add_emod n c
    have h2 := Int.emod_nonneg n (show c ≠ 0 by omega)
    have h3 := Int.emod_lt_of_pos n (show 0 < c by omega)
    rw [Int.mul_add]
    split <;> constructor <;> simp <;> omega
  obtain ⟨a1, a2⟩ := key a ha
  obtain ⟨b1, b2⟩ := key b (by omega)
  generalize n / b + (if n % b = 0 then 0 else 1) = q at *
  generalize n / a + (if n % a = 0 then 0 else 1) = r at *
  have hr : 0 ≤ r := by
    apply Int.not_lt.1
    intro hr
    have : a * r ≤ a * (-1) := Int.mul_le_mul_of_nonneg_left (by omega) (by omega)
    omega
  apply Int.not_lt.1
  intro h
  have h1 : b * (r + 1) ≤ b * q := Int.mul_le_mul_of_nonneg_left (by omega) (by omega)
  have h2 : a * r ≤ b * r := Int.mul_le_mul_of_nonneg_right hab hr
  rw [Int.mul_add] at h1
  omega

theorem dur_pos {o : Op} (hk : o.kind = 3) (hs : 0 < o.speed) : dur o = (o.cells.length * 1000 : Int) / o.speed + (if (o.cells.length * 1000 : Int) % o.speed = 0 then 0 else 1) := by
  unfold dur; rw [if_pos ⟨.inr hk, hs⟩]
theorem dur_zero {o : Op} (hs : ¬ 0 < o.speed) : dur o = 0 := by
  unfold dur; rw [if_neg (fun h => hs h.2)]

theorem dur_anti (o : Op) (v w : Int) (hv : 1 ≤ v) (hvw : v ≤ w) : dur (lim w o) ≤ dur (lim v o) := by
  unfold lim
  split
  · rename_i hk
    by_cases hs : 0 < o.speed
    · rw [dur_pos (o := { o with speed := min o.speed w }) hk (by simp only; omega), dur_pos (o := { o with speed := min o.speed v }) hk (by simp only; omega)]
      exact ceil_anti (o.cells.length * 1000 : Int) (min o.speed v) (min o.speed w) (by omega) (by omega) (by omega)
    · rw [dur_zero (o := { o with speed := min o.speed w }) (by simp only; omega), dur_zero (o := { o with speed := min o.speed v }) (by simp only; omega)]
      exact Int.le_refl _
  · exact Int.le_refl _

theorem time_anti (l : List Op) (v w : Int) (hv : 1 ≤ v) (hvw : v ≤ w) : time (l.map (lim w)) ≤ time (l.map (lim v)) := by
  induction l with
  | nil => simp
  | cons o l ih =>
    have := dur_anti o v w hv hvw
    simp only [time, List.map_cons, List.sum_cons, List.map_map] at ih ⊢
    omega

theorem best_spec {l : List Op} {s : Settings} (h : valid s = true) : 1 ≤ sLo s ∧ sLo s ≤ best l s ∧ best l s ≤ sHi s ∧ sHi s ≤ 1048576 ∧ (best l s = sLo s ∨ s.mintime ≤ time (l.map (lim (best l s)))) ∧ ∀ u, best l s < u → u ≤ sHi s → time (l.map (lim u)) < s.mintime := by
  obtain ⟨h1, h2, h3, h4, h5, h6, h7, h8⟩ := speeds_facts h
  have hlo : 1 ≤ sLo s := by unfold sLo; omega
  have hhi : sHi s ≤ 1048576 := by unfold sHi; omega
  have hlh : sLo s ≤ sHi s := by unfold sLo sHi; omega
  have hmono : ∀ u w, sLo s ≤ u → u ≤ w → w ≤ sHi s → long l s w = true → long l s u = true := by
    intro u w h1 h2 h3 h4
    have := time_anti l u w (by omega) h2
    simp only [long, decide_eq_true_eq] at h4 ⊢
    omega
  obtain ⟨a1, a2, a3, a4⟩ := bis_spec (long l s) _ (sLo s) (sHi s) (Nat.le_refl _) hlh hmono
  refine ⟨hlo, a1, a2, hhi, a3.imp id fun h => by simpa [long, best] using h, fun u h1 h2 => ?_⟩
  have := a4 u h1 h2
  simp only [long, decide_eq_false_iff_not] at this
  omega

theorem lim_lim (v w : Int) (o : Op) : lim w (lim v o) = lim (min v w) o := by
  unfold lim
  split
  · rename_i h
    simp only [h, if_true]
    congr 1
    omega
  · rename_i h; simp [h]

theorem lims (v w : Int) (l : List Op) : (l.map (lim v)).map (lim w) = l.map (lim (min v w)) := by
  rw [List.map_map]; exact List.map_congr_left fun o _ => lim_lim v w o

theorem slow_slow (l : List Op) (s : Settings) : slow (slow l s) s = slow l s := by
  by_cases h : valid s = true
  · simp only [slow, h, if_true, lims]
    obtain ⟨a1, a2, a3, a4, a5, a6⟩ := best_spec (l := l) h
    obtain ⟨b1, b2, b3, b4, b5, b6⟩ := best_spec (l := l.map (lim (best l s))) h
    congr 1
    congr 1
    rcases a5 with e | e
    · rw [e] at b2 b3 ⊢; omega
    · apply Int.min_eq_left
      apply Int.not_lt.1
      intro hlt
      have := b6 (best l s) hlt a3
      rw [lims, Int.min_self] at this
      omega
  · simp [slow, h]

def more (s : Settings) (t : Int) : Settings := { s with mintime := t }

theorem slow_more (l : List Op) (s : Settings) (t : Int) (hs : valid s = true) (ht : valid (more s t) = true) (hst : s.mintime ≤ t) : time (slow l s) ≤ time (slow l (more s t)) := by
  simp only [slow, hs, ht, if_true]
  obtain ⟨a1, a2, a3, a4, a5, a6⟩ := best_spec (l := l) hs
  obtain ⟨b1, b2, b3, b4, b5, b6⟩ := best_spec (l := l) ht
  have e1 : sLo (more s t) = sLo s := rfl
  have e2 : sHi (more s t) = sHi s := rfl
  have e3 : (more s t).mintime = t := rfl
  rw [e1] at b1 b2 b5
  rw [e2] at b3 b4 b6
  rw [e3] at b5 b6
  apply time_anti _ _ _ (by omega)
  rcases b5 with e | e
  · omega
  · apply Int.not_lt.1
    intro hlt
    have := a6 _ hlt b3
    omega
end Go.Proofs.Ytnnpmkeojfmclaa
