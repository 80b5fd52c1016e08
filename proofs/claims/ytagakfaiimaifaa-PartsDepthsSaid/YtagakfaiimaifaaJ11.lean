/-
  Texts of this seat put together: M2, N0, M3, N1, N2, M4, M5, M6.
-/
import Derived.Test.YtagakfaiimaifaaJ10
import Derived.Test.YtagakfaiimaifaaJ6
import Derived.Test.YtagakfaiimaifaaJ5
import Derived.Test.YtagakfaiimaifaaJ9
set_option linter.unusedVariables false
set_option linter.unusedSimpArgs false
set_option maxRecDepth 100000
namespace Go.Proofs.Ytagakfaiimaifaa
open Go.Abs

/-! Runs that overlap or touch are joined. -/
def joinOne (out : List Run) (r : Run) : List Run := match out.getLast? with
  | some q => if r.a ≤ q.b then out.dropLast ++ [⟨q.a, max q.b r.b⟩] else out ++ [r]
  | none => [r]
def joinL (l : List Run) : List Run := l.foldl joinOne []
end Go.Proofs.Ytagakfaiimaifaa

set_option linter.unusedVariables false
set_option linter.unusedSimpArgs false
set_option maxRecDepth 100000
namespace Go.Proofs.Ytagakfaiimaifaa
open Go.Abs

/-! Runs made longer: which numbers they hold. Maps from rows' numbers to runs. -/
def groRun (k : Int) (r : Run) : Run := ⟨r.a - k, r.b + k⟩
def groL (l : List Run) (k : Int) : List Run := joinL (l.map (groRun k))
theorem apart_rv {l : List Run} (h : Apart l) (hb : ∀ r ∈ l, -4160 ≤ r.a ∧ r.b ≤ 4160) : rvalid l = true :=
  rvalid_iff.2 ⟨h, fun r hr => by have := hb r hr; have := h.1 r hr; simp [fitsB]; omega⟩
theorem apart_small {l : List Run} (h : Apart l) (hb : ∀ r ∈ l, -4160 ≤ r.a ∧ r.b ≤ 4160) : l.length ≤ 8320 := by
  have := apart_len h hb; omega

/-- A map from rows' numbers to runs, as its entries. -/
def mpRows (M : List (Int × List Run)) : List (List D) := rowL (fun y => .int .i64 y) encRuns M
def mget (M : List (Int × List Run)) (y : Int) : List Run := (getL M y).getD []
theorem mget_put (M : List (Int × List Run)) (y z : Int) (l : List Run) : mget (putL M y l) z = if z = y then l else mget M z := by
  unfold mget; rw [getL_putL]; split <;> rfl
end Go.Proofs.Ytagakfaiimaifaa

set_option linter.unusedVariables false
set_option linter.unusedSimpArgs false
set_option maxRecDepth 100000
namespace Go.Proofs.Ytagakfaiimaifaa
open Go.Abs

/-! The runs of a row of a valid region, made longer. -/

end Go.Proofs.Ytagakfaiimaifaa

set_option linter.unusedVariables false
set_option linter.unusedSimpArgs false
set_option maxRecDepth 100000
namespace Go.Proofs.Ytagakfaiimaifaa
open Go.Abs

/-! What is marked around a region, row by row. -/
def nearStep (g : List Run) (M : List (Int × List Run)) (y : Int) : List (Int × List Run) := putL M y (sweep fU (mget M y) g)
def ysN (y : Int) (K j : Nat) : List Int := (List.range j).map fun i : Nat => y - K + i
def nearRow (K : Nat) (M : List (Int × List Run)) (w : Row) : List (Int × List Run) := (ysN w.y K (2 * K + 1)).foldl (nearStep (groL w.runs K)) M
def nearM (R : List Row) (K : Nat) : List (Int × List Run) := R.foldl (nearRow K) []
/-- What a map of runs holds. -/
def NI (P : Int → Int → Prop) (M : List (Int × List Run)) : Prop := ∀ y, Apart (mget M y) ∧ (∀ r ∈ mget M y, -4160 ≤ r.a ∧ r.b ≤ 4160) ∧ ∀ x, inR (mget M y) x = true ↔ P y x
theorem NI.nil : NI (fun _ _ => False) [] := fun y => ⟨⟨by simp [mget, getL], by simp [mget, getL]⟩, by simp [mget, getL], by simp [mget, getL, inR]⟩
theorem NI.congr {P Q : Int → Int → Prop} {M : List (Int × List Run)} (h : NI P M) (he : ∀ y x, P y x ↔ Q y x) : NI Q M := fun y => ⟨(h y).1, (h y).2.1, fun x => ((h y).2.2 x).trans (he y x)⟩
theorem NI.step {P : Int → Int → Prop} {M : List (Int × List Run)} (h : NI P M) {g : List Run} (hg : Apart g) (hb : ∀ r ∈ g, -4160 ≤ r.a ∧ r.b ≤ 4160) (z : Int) : NI (fun y x => P y x ∨ (y = z ∧ inR g x = true)) (nearStep g M z) := by
  intro y
  have h1 := h z
  have hs := sweep_facts (f := fU) rfl (apart_rv h1.1 h1.2.1) (apart_rv hg hb)
  unfold nearStep
  rw [mget_put]
  split
  · rename_i e
    subst e
    refine ⟨hs.1, apart_bounds hs.1 fun x hx => ?_, fun x => ?_⟩
    · rw [hs.2] at hx
      simp only [fU, Bool.or_eq_true] at hx
      rcases hx with hx | hx
      · obtain ⟨r, hr, h3, h4⟩ := inR_iff.1 hx; have := h1.2.1 r hr; omega
      · obtain ⟨r, hr, h3, h4⟩ := inR_iff.1 hx; have := hb r hr; omega
    · rw [hs.2]
      simp only [fU, Bool.or_eq_true, true_and, h1.2.2]
  · rename_i e
    refine ⟨(h y).1, (h y).2.1, fun x => ?_⟩
    rw [(h y).2.2]
    simp [e]
def nearP (R : List Row) (K : Nat) (y x : Int) : Prop := ∃ w ∈ R, w.y - K ≤ y ∧ y ≤ w.y + K ∧ ∃ r ∈ w.runs, r.a - K ≤ x ∧ x < r.b + K
end Go.Proofs.Ytagakfaiimaifaa

set_option linter.unusedVariables false
set_option linter.unusedSimpArgs false
set_option maxRecDepth 100000
namespace Go.Proofs.Ytagakfaiimaifaa
open Go.Abs

/-! Regions made row by row of another one. -/
def mapRow (F : Row → List Run) (w : Row) : List Row := if F w = [] then [] else [⟨w.y, F w⟩]
def mapR (F : Row → List Run) (S : List Row) : List Row := S.flatMap (mapRow F)
/-- What is left of a region where runs are taken away from its rows. -/
def lessF (g : Int → List Run) (w : Row) : List Run := sweep fD w.runs (g w.y)
/-- What the package calls missing. -/
def missB (S M : List Row) (k : Int) : Bool := validR S && validR M && decide (0 ≤ k) && decide (k ≤ 64)
def missR (S M : List Row) (k : Int) : List Row := if missB S M k then mapR (lessF (mget (nearM M k.toNat))) S else []
end Go.Proofs.Ytagakfaiimaifaa

set_option linter.unusedVariables false
set_option linter.unusedSimpArgs false
set_option maxRecDepth 100000
namespace Go.Proofs.Ytagakfaiimaifaa
open Go.Abs

/-! The runs of neighboring rows, joined. -/
def OkL (l : List Run) : Prop := Apart l ∧ ∀ r ∈ l, -4160 ≤ r.a ∧ r.b ≤ 4160
theorem OkL.nil : OkL [] := ⟨⟨by simp, by simp⟩, by simp⟩
theorem OkL.rv {l : List Run} (h : OkL l) : rvalid l = true := apart_rv h.1 h.2
theorem OkL.len {l : List Run} (h : OkL l) : l.length ≤ 8320 := apart_small h.1 h.2
theorem OkL.sweep {f : Bool → Bool → Bool} (hf : f false false = false) {a b : List Run} (ha : OkL a) (hb : OkL b) : OkL (sweep f a b) := by
  obtain ⟨h1, h2⟩ := sweep_facts hf ha.rv hb.rv
  refine ⟨h1, apart_bounds h1 fun x hx => ?_⟩
  rw [h2] at hx
  cases q1 : inR a x with
  | true => obtain ⟨r, hr, h3, h4⟩ := inR_iff.1 q1; have := ha.2 r hr; omega
  | false =>
    cases q2 : inR b x with
    | true => obtain ⟨r, hr, h3, h4⟩ := inR_iff.1 q2; have := hb.2 r hr; omega
    | false => rw [q1, q2, hf] at hx; cases hx
def OkM (M : List (Int × List Run)) : Prop := ∀ y, OkL (mget M y)
/-- The rows y, y + 1, .. y + j. -/
def wj (f : Bool → Bool → Bool) (M : List (Int × List Run)) (y : Int) : Nat → List Run
  | 0 => mget M y
  | j + 1 => sweep f (wj f M y j) (mget M (y + 1 + j))
def rowW (f : Bool → Bool → Bool) (M : List (Int × List Run)) (y : Int) (K : Nat) : List Run := wj f M (y - K) (2 * K)

end Go.Proofs.Ytagakfaiimaifaa

set_option linter.unusedVariables false
set_option linter.unusedSimpArgs false
set_option maxRecDepth 100000
namespace Go.Proofs.Ytagakfaiimaifaa
open Go.Abs

/-! A map of a region's rows. Erosion. -/
def rowMap (F : List Run → List Run) (R : List Row) : List (Int × List Run) := R.foldl (fun M w => putL M w.y (F w.runs)) []
def shrF (K : Nat) (l : List Run) : List Run := shrB l K
def eroF (R : List Row) (K : Nat) (w : Row) : List Run := rowW fI (rowMap (shrF K) R) w.y K
def eroR (R : List Row) (k : Int) : List Row := if reachB R k then mapR (eroF R k.toNat) R else []
def aroundC (R : List Row) (K : Nat) (c : Cell) : Prop := ∀ dx dy : Int, -K ≤ dx → dx ≤ K → -K ≤ dy → dy ≤ K → (⟨c.x + dx, c.y + dy⟩ : Cell) ∈ regCells R
end Go.Proofs.Ytagakfaiimaifaa

set_option linter.unusedVariables false
set_option linter.unusedSimpArgs false
set_option maxRecDepth 100000
namespace Go.Proofs.Ytagakfaiimaifaa
open Go.Abs

/-! Dilation. -/
def groF (K : Nat) (l : List Run) : List Run := groL l K
def dilRun (R : List Row) (K : Nat) (y : Int) : List Run := rowW fU (rowMap (groF K) R) y K
def ysD (lo : Int) (n : Nat) : List Int := (List.range n).map fun i : Nat => lo + i
theorem ysD_mem {lo : Int} {n : Nat} {y : Int} : y ∈ ysD lo n ↔ lo ≤ y ∧ y < lo + n := by
  simp only [ysD, List.mem_map, List.mem_range]
  constructor
  · rintro ⟨i, hi, rfl⟩; omega
  · intro h; exact ⟨(y - lo).toNat, by omega, by omega⟩
theorem ysD_pw (lo : Int) (n : Nat) : (ysD lo n).Pairwise (· < ·) := by
  simp only [ysD, List.pairwise_map]
  exact List.pairwise_lt_range.imp (fun {a b} h => by omega)
def dilRow (F : Int → List Run) (y : Int) : List Row := if F y = [] then [] else [⟨y, F y⟩]
def rowsF (F : Int → List Run) (ys : List Int) : List Row := ys.flatMap (dilRow F)
def dilN (R : List Row) (K : Nat) : Nat := (lstY R + K - (fstY R - K) + 1).toNat
def dilL (R : List Row) (K : Nat) : List Row := rowsF (dilRun R K) (ysD (fstY R - K) (dilN R K))
def rngB (R : List Row) (k : Int) : Bool := !decide (min (lowX R) (fstY R) - k < -4096) && !decide (4096 ≤ max (highX R) (lstY R) + k)
def dilR (R : List Row) (k : Int) : List Row := if reachB R k && decide (0 < R.length) && rngB R k then dilL R k.toNat else []
def dilE (R : List Row) (k : Int) : Int := if reachB R k then (if 0 < R.length then (if rngB R k then 0 else 8) else 0) else 1
end Go.Proofs.Ytagakfaiimaifaa
