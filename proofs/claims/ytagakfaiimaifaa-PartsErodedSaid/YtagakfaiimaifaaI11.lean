/-
  Texts of this seat put together: M2, N0, M3, N1, N2, M4, M5, M6.
-/
import Derived.Test.YtagakfaiimaifaaI10
import Derived.Test.YtagakfaiimaifaaI6
import Derived.Test.YtagakfaiimaifaaI5
import Derived.Test.YtagakfaiimaifaaI9
set_option linter.unusedVariables false
set_option linter.unusedSimpArgs false
set_option maxRecDepth 100000
namespace Go.Proofs.Ytagakfaiimaifaa
open Go.Abs

/-! Runs that overlap or touch are joined. -/
def joinOne (out : List Run) (r : Run) : List Run := match out.getLast? with
  | some q => if r.a ≤ q.b then out.dropLast ++ [⟨q.a, max q.b r.b⟩] else out ++ [r]
  | none => [r]
def joinL (l : List Run) : List Run := l.foldl joinOne []
end Go.Proofs.Ytagakfaiimaifaa

set_option linter.unusedVariables false
set_option linter.unusedSimpArgs false
set_option maxRecDepth 100000
namespace Go.Proofs.Ytagakfaiimaifaa
open Go.Abs

/-! Runs made longer: which numbers they hold. Maps from rows' numbers to runs. -/
def groRun (k : Int) (r : Run) : Run := ⟨r.a - k, r.b + k⟩
def groL (l : List Run) (k : Int) : List Run := joinL (l.map (groRun k))
theorem apart_rv {l : List Run} (h : Apart l) (hb : ∀ r ∈ l, -4160 ≤ r.a ∧ r.b ≤ 4160) : rvalid l = true :=
  rvalid_iff.2 ⟨h, fun r hr => by have := hb r hr; have := h.1 r hr; simp [fitsB]; omega⟩
theorem apart_small {l : List Run} (h : Apart l) (hb : ∀ r ∈ l, -4160 ≤ r.a ∧ r.b ≤ 4160) : l.length ≤ 8320 := by
  have := apart_len h hb; omega

/-- A map from rows' numbers to runs, as its entries. -/
def mpRows (M : List (Int × List Run)) : List (List D) := rowL (fun y => .int .i64 y) encRuns M
def mget (M : List (Int × List Run)) (y : Int) : List Run := (getL M y).getD []
theorem eqK_int (a b : Int) : eqK (.int .i64 a) (.int .i64 b) = some (decide (a = b)) := by
  simp only [eqK, if_true, Option.some.injEq]
  by_cases h : a = b <;> simp [h]
theorem putR_mp (y : Int) (b : List Run) (M : List (Int × List Run)) : putR (.int .i64 y) (.d (.sl (b.map Run.row))) (dr (mpRows M)) = some (dr (mpRows (putL M y b))) :=
  putR_row (kd := fun y => D.int .i64 y) (vd := encRuns) eqK_int y b M
theorem look_mp (y : Int) (M : List (Int × List Run)) : lookIs .nl false (lookA (.int .i64 y) (dr (mpRows M))) (.sl ((mget M y).map Run.row)) = True := by
  rw [show dr (mpRows M) = dr (rowL (fun y => D.int .i64 y) encRuns M) from rfl, lookA_row (kd := fun y => D.int .i64 y) (vd := encRuns) eqK_int y M]
  unfold mget
  cases getL M y <;> simp [lookIs, outD, encRuns]
theorem mp_nil : ([] : List (List AV)) = dr (mpRows []) := rfl
theorem mget_put (M : List (Int × List Run)) (y z : Int) (l : List Run) : mget (putL M y l) z = if z = y then l else mget M z := by
  unfold mget; rw [getL_putL]; split <;> rfl
end Go.Proofs.Ytagakfaiimaifaa

set_option linter.unusedVariables false
set_option linter.unusedSimpArgs false
set_option maxRecDepth 100000
namespace Go.Proofs.Ytagakfaiimaifaa
open Go.Abs

/-! The runs of a row of a valid region, made longer. -/

end Go.Proofs.Ytagakfaiimaifaa

set_option linter.unusedVariables false
set_option linter.unusedSimpArgs false
set_option maxRecDepth 100000
namespace Go.Proofs.Ytagakfaiimaifaa
open Go.Abs

/-! What is marked around a region, row by row. -/
def nearStep (g : List Run) (M : List (Int × List Run)) (y : Int) : List (Int × List Run) := putL M y (sweep fU (mget M y) g)
def ysN (y : Int) (K j : Nat) : List Int := (List.range j).map fun i : Nat => y - K + i
def nearRow (K : Nat) (M : List (Int × List Run)) (w : Row) : List (Int × List Run) := (ysN w.y K (2 * K + 1)).foldl (nearStep (groL w.runs K)) M
def nearM (R : List Row) (K : Nat) : List (Int × List Run) := R.foldl (nearRow K) []
/-- What a map of runs holds. -/
def NI (P : Int → Int → Prop) (M : List (Int × List Run)) : Prop := ∀ y, Apart (mget M y) ∧ (∀ r ∈ mget M y, -4160 ≤ r.a ∧ r.b ≤ 4160) ∧ ∀ x, inR (mget M y) x = true ↔ P y x
theorem NI.nil : NI (fun _ _ => False) [] := fun y => ⟨⟨by simp [mget, getL], by simp [mget, getL]⟩, by simp [mget, getL], by simp [mget, getL, inR]⟩
theorem NI.congr {P Q : Int → Int → Prop} {M : List (Int × List Run)} (h : NI P M) (he : ∀ y x, P y x ↔ Q y x) : NI Q M := fun y => ⟨(h y).1, (h y).2.1, fun x => ((h y).2.2 x).trans (he y x)⟩
theorem NI.step {P : Int → Int → Prop} {M : List (Int × List Run)} (h : NI P M) {g : List Run} (hg : Apart g) (hb : ∀ r ∈ g, -4160 ≤ r.a ∧ r.b ≤ 4160) (z : Int) : NI (fun y x => P y x ∨ (y = z ∧ inR g x = true)) (nearStep g M z) := by
  intro y
  have h1 := h z
  have hs := sweep_facts (f := fU) rfl (apart_rv h1.1 h1.2.1) (apart_rv hg hb)
  unfold nearStep
  rw [mget_put]
  split
  · rename_i e
    subst e
    refine ⟨hs.1, apart_bounds hs.1 fun x hx => ?_, fun x => ?_⟩
    · rw [hs.2] at hx
      simp only [fU, Bool.or_eq_true] at hx
      rcases hx with hx | hx
      · obtain ⟨r, hr, h3, h4⟩ := inR_iff.1 hx; have := h1.2.1 r hr; omega
      · obtain ⟨r, hr, h3, h4⟩ := inR_iff.1 hx; have := hb r hr; omega
    · rw [hs.2]
      simp only [fU, Bool.or_eq_true, true_and, h1.2.2]
  · rename_i e
    refine ⟨(h y).1, (h y).2.1, fun x => ?_⟩
    rw [(h y).2.2]
    simp [e]
def nearP (R : List Row) (K : Nat) (y x : Int) : Prop := ∃ w ∈ R, w.y - K ≤ y ∧ y ≤ w.y + K ∧ ∃ r ∈ w.runs, r.a - K ≤ x ∧ x < r.b + K
end Go.Proofs.Ytagakfaiimaifaa

set_option linter.unusedVariables false
set_option linter.unusedSimpArgs false
set_option maxRecDepth 100000
namespace Go.Proofs.Ytagakfaiimaifaa
open Go.Abs

/-! Regions made row by row of another one. -/
def mapRow (F : Row → List Run) (w : Row) : List Row := if F w = [] then [] else [⟨w.y, F w⟩]
def mapR (F : Row → List Run) (S : List Row) : List Row := S.flatMap (mapRow F)
theorem mapRow_len (F : Row → List Run) (w : Row) : (mapRow F w).length ≤ 1 := by unfold mapRow; split <;> simp
theorem mapRow_mem {F : Row → List Run} {w v : Row} (h : v ∈ mapRow F w) : v = ⟨w.y, F w⟩ ∧ F w ≠ [] := by
  unfold mapRow at h
  split at h
  · simp at h
  · rename_i e; simp at h; exact ⟨h, e⟩
theorem mapR_mem {F : Row → List Run} {S : List Row} {v : Row} (h : v ∈ mapR F S) : ∃ w ∈ S, v = ⟨w.y, F w⟩ ∧ F w ≠ [] := by
  obtain ⟨w, hw, hv⟩ := List.mem_flatMap.1 h
  exact ⟨w, hw, mapRow_mem hv⟩
theorem mapR_len (F : Row → List Run) : ∀ S : List Row, (mapR F S).length ≤ S.length := flat_one_len (mapRow_len F)
theorem mapR_take {F : Row → List Run} {S : List Row} {k : Nat} {w : Row} (h : S[k]? = some w) : mapR F (S.take (k + 1)) = mapR F (S.take k) ++ mapRow F w := flat_take _ h
theorem flat_pw {α β : Type} {P : α → α → Prop} {Q : β → β → Prop} {f : α → List β} (h1 : ∀ a, (f a).length ≤ 1) (h2 : ∀ a b x y, P a b → x ∈ f a → y ∈ f b → Q x y) : ∀ {l : List α}, l.Pairwise P → (l.flatMap f).Pairwise Q
  | [], _ => by simp
  | a :: l, h => by
    obtain ⟨ha, hl⟩ := List.pairwise_cons.1 h
    rw [List.flatMap_cons]
    refine List.pairwise_append.2 ⟨?_, flat_pw h1 h2 hl, fun x hx y hy => ?_⟩
    · have := h1 a
      match h : f a, this with
      | [], _ => simp
      | [x], _ => simp
    · obtain ⟨b, hb, hy⟩ := List.mem_flatMap.1 hy
      exact h2 a b x y (ha b hb) hx hy
theorem mapR_valid {F : Row → List Run} {S : List Row} (hv : validR S = true) (hF : ∀ w ∈ S, F w ≠ [] → fine (F w) = true) : validR (mapR F S) = true := by
  obtain ⟨h1, h2⟩ := validR_pw.1 hv
  refine validR_pw.2 ⟨fun v hv' => ?_, flat_pw (mapRow_len F) (fun a b x y hab hx hy => ?_) h2⟩
  · obtain ⟨w, hw, rfl, hne⟩ := mapR_mem hv'
    exact ⟨(h1 w hw).1, hF w hw hne⟩
  · rw [(mapRow_mem hx).1, (mapRow_mem hy).1]; exact hab
theorem mapR_cells {F : Row → List Run} {S : List Row} {c : Cell} : c ∈ regCells (mapR F S) ↔ ∃ w ∈ S, c.y = w.y ∧ inR (F w) c.x = true := by
  rw [mem_regCells]
  constructor
  · rintro ⟨v, hv, hy, hr⟩
    obtain ⟨w, hw, rfl, _⟩ := mapR_mem hv
    exact ⟨w, hw, hy, inR_iff.2 hr⟩
  · rintro ⟨w, hw, hy, hr⟩
    refine ⟨⟨w.y, F w⟩, List.mem_flatMap.2 ⟨w, hw, ?_⟩, hy, inR_iff.1 hr⟩
    unfold mapRow
    rw [if_neg (by rintro e; rw [e] at hr; simp [inR] at hr)]
    simp
/-- What is left of a region where runs are taken away from its rows. -/
def lessF (g : Int → List Run) (w : Row) : List Run := sweep fD w.runs (g w.y)
/-- What the package calls missing. -/
def missB (S M : List Row) (k : Int) : Bool := validR S && validR M && decide (0 ≤ k) && decide (k ≤ 64)
def missR (S M : List Row) (k : Int) : List Row := if missB S M k then mapR (lessF (mget (nearM M k.toNat))) S else []
end Go.Proofs.Ytagakfaiimaifaa

set_option linter.unusedVariables false
set_option linter.unusedSimpArgs false
set_option maxRecDepth 100000
namespace Go.Proofs.Ytagakfaiimaifaa
open Go.Abs

/-! The runs of neighboring rows, joined. -/
def OkL (l : List Run) : Prop := Apart l ∧ ∀ r ∈ l, -4160 ≤ r.a ∧ r.b ≤ 4160
theorem OkL.nil : OkL [] := ⟨⟨by simp, by simp⟩, by simp⟩
theorem OkL.rv {l : List Run} (h : OkL l) : rvalid l = true := apart_rv h.1 h.2
theorem OkL.len {l : List Run} (h : OkL l) : l.length ≤ 8320 := apart_small h.1 h.2
theorem OkL.sweep {f : Bool → Bool → Bool} (hf : f false false = false) {a b : List Run} (ha : OkL a) (hb : OkL b) : OkL (sweep f a b) := by
  obtain ⟨h1, h2⟩ := sweep_facts hf ha.rv hb.rv
  refine ⟨h1, apart_bounds h1 fun x hx => ?_⟩
  rw [h2] at hx
  cases q1 : inR a x with
  | true => obtain ⟨r, hr, h3, h4⟩ := inR_iff.1 q1; have := ha.2 r hr; omega
  | false =>
    cases q2 : inR b x with
    | true => obtain ⟨r, hr, h3, h4⟩ := inR_iff.1 q2; have := hb.2 r hr; omega
    | false => rw [q1, q2, hf] at hx; cases hx
def OkM (M : List (Int × List Run)) : Prop := ∀ y, OkL (mget M y)
/-- The rows y, y + 1, .. y + j. -/
def wj (f : Bool → Bool → Bool) (M : List (Int × List Run)) (y : Int) : Nat → List Run
  | 0 => mget M y
  | j + 1 => sweep f (wj f M y j) (mget M (y + 1 + j))
theorem wj_ok {f : Bool → Bool → Bool} (hf : f false false = false) {M : List (Int × List Run)} (hM : OkM M) (y : Int) : ∀ j, OkL (wj f M y j)
  | 0 => hM y
  | j + 1 => (wj_ok hf hM y j).sweep hf (hM _)
theorem wj_I {M : List (Int × List Run)} (hM : OkM M) (y x : Int) : ∀ j : Nat, inR (wj fI M y j) x = true ↔ ∀ i : Nat, i ≤ j → inR (mget M (y + i)) x = true
  | 0 => by
    simp only [wj, Nat.le_zero]
    constructor
    · rintro h i rfl; simpa using h
    · intro h; simpa using h 0 rfl
  | j + 1 => by
    have ih := wj_I hM y x j
    simp only [wj, (sweep_facts (f := fI) rfl (wj_ok (f := fI) rfl hM y j).rv (hM (y + 1 + j)).rv).2, fI, Bool.and_eq_true, ih]
    constructor
    · rintro ⟨h1, h2⟩ i hi
      by_cases e : i = j + 1
      · subst e; rw [show y + ((j + 1 : Nat) : Int) = y + 1 + j by omega]; exact h2
      · exact h1 i (by omega)
    · intro h
      refine ⟨fun i hi => h i (by omega), ?_⟩
      have := h (j + 1) (Nat.le_refl _)
      rw [show y + ((j + 1 : Nat) : Int) = y + 1 + j by omega] at this; exact this
def rowW (f : Bool → Bool → Bool) (M : List (Int × List Run)) (y : Int) (K : Nat) : List Run := wj f M (y - K) (2 * K)

set_option maxHeartbeats 2000000 in
theorem wrow_ok (f : Bool → Bool → Bool) (hf : f false false = false) (g : FuncId) (hg : ∀ a b : List Run, a.length ≤ 1000000 → b.length ≤ 1000000 → rvalid a = true → rvalid b = true → PC Try.prog g [encRuns a, encRuns b] (.p (encRuns (sweep f a b))))
    (M : List (Int × List Run)) (hM : OkM M) (y : Int) (K : Nat) (hy : -10000 ≤ y ∧ y ≤ 10000) (hK : K ≤ 64) :
    PC Try.prog 54 [.agg [.mp (mpRows M), .fn (.func g) []], .int .i64 y, .int .i64 K] (.p (encRuns (rowW f M y K))) := by
  have hok := fun j => wj_ok hf hM (y - K) j
  have h0 : wj f M (y - K) 0 = mget M (y - K) := rfl
  have hs : ∀ j : Nat, wj f M (y - K) (j + 1) = sweep f (wj f M (y - K) j) (mget M (y - K + 1 + j)) := fun j => rfl
  have hr : rowW f M y K = wj f M (y - K) (2 * K) := rfl
  rw [hr]
  clear hr
  generalize wj f M (y - K) = W at *
  have e1 := wrap_i64 (n := y - (K : Int)) (by omega) (by omega)
  have e2 := wrap_i64 (n := y - (K : Int) + 1) (by omega) (by omega)
  have e3 := wrap_i64 (n := y + (K : Int)) (by omega) (by omega)
  have hl0 := look_mp (y - K) M
  refine pc_of_awp cx (fn := Try.f54) (c := _) Try.func54 rfl rfl (Nat.le_of_ble_eq_true rfl) ?_
  rw [Try.ntmps54]; refine Nav.imp ?_
  refine awp_region cx [] fun K hK => ?_
  simp [push_cast]
  repeat (refine And.intro (by clear hK; intros; first | omega | (simp_all; done) | (simp_all <;> omega)) ?_)
  refine hK _ ?_; clear hK K; refine Nav.imp ?_
  refine awp_region cx [(5, .p (encRuns (mget M (y - K))))] fun K hK => ?_
  simp [push_cast, e1, hl0]
  repeat (refine And.intro (by clear hK; intros; first | omega | (simp_all; done) | (simp_all <;> omega)) ?_)
  refine hK _ ?_; clear hK K; refine Nav.imp ?_
  rw [← h0]
  refine awp_region cx [] fun K hK => ?_
  simp [push_cast, e1, e2]
  repeat (refine And.intro (by clear hK; intros; first | omega | (simp_all; done) | (simp_all <;> omega)) ?_)
  refine hK _ ?_; clear hK K; refine Nav.imp ?_
  refine awp_loop (β := Nat) (fun j => ⟨35, [(1, .d (.int .i64 y)), (2, .d (.int .i64 K)), (3, .ptr 0 0 0), (7, .d (encRuns (W j))), (8, .d (.int .i64 (y - K + 1 + j)))], [(0, some ⟨68, 2, [[.d (.mp (mpRows M)), .d (.fn (.func g) [])]]⟩)], 1⟩) (fun j => j ≤ 2 * K) (fun j => 2 * K - j) 0 ?_ (Nat.zero_le _) ?_
  · refine weak_of [(0, some 0)] rfl (by simp [upT, up, upL, push_cast]) (by simp [upH, upR, upL, up, push_cast]) (by simp [namesOk, push_cast]) (by simp [olds])
  · intro j hj
    replace hj : j ≤ 2 * K := hj
    refine Nav.imp ?_
    by_cases hlt : j < 2 * K
    · have q1 : y - (K : Int) + 1 + j ≤ y + K := by omega
      have e4 := wrap_i64 (n := y - (K : Int) + 1 + j + 1) (by omega) (by omega)
      have hl := look_mp (y - K + 1 + j) M
      have hA := hok j
      have hB := hM (y - K + 1 + j)
      have c1 := hg (W j) (mget M (y - K + 1 + j)) (by have := hA.len; omega) (by have := hB.len; omega) hA.rv hB.rv
      rw [← hs j] at c1
      refine awp_region cx [] fun K hK => ?_
      simp [push_cast, e3]
      repeat (refine And.intro (by clear hK; intros; first | omega | (simp_all; done) | (simp_all <;> omega)) ?_)
      refine hK _ ?_; clear hK K; refine Nav.imp ?_
      refine awp_cond (b := true) (by simp [push_cast, q1]) (fun hb => ?_) (fun hb => ?_) <;> (refine Nav.imp ?_)
      · refine awp_region cx [(6, .p (encRuns (mget M (y - K + 1 + j)))), (7, .p (encRuns (W (j + 1))))] fun K hK => ?_
        simp [push_cast, hl, c1]
        repeat (refine And.intro (by clear hK; intros; first | omega | (simp_all; done) | (simp_all <;> omega)) ?_)
        refine hK _ ?_; clear hK K; refine Nav.imp ?_
        refine awp_region cx [] fun K hK => ?_
        simp [push_cast, e4]
        repeat (refine And.intro (by clear hK; intros; first | omega | (simp_all; done) | (simp_all <;> omega)) ?_)
        refine hK _ ?_; clear hK K; refine Nav.imp ?_
        refine ⟨j + 1, by show j + 1 ≤ 2 * K; omega, by show 2 * K - (j + 1) < 2 * K - j; omega, ?_⟩
        refine weak_of [(0, some 0)] rfl (by simp [upT, up, upL, push_cast, Int.add_assoc]) (by simp [upH, upR, upL, up, push_cast, Int.add_assoc]) (by simp [namesOk, push_cast]) (by simp [olds])
      · simp at hb
    · have hje : j = 2 * K := by omega
      subst hje
      have q1 : y + (K : Int) < y - K + 1 + 2 * K := by omega
      refine awp_region cx [] fun K hK => ?_
      simp [push_cast, e3]
      repeat (refine And.intro (by clear hK; intros; first | omega | (simp_all; done) | (simp_all <;> omega)) ?_)
      refine hK _ ?_; clear hK K; refine Nav.imp ?_
      refine awp_cond (b := false) (by simp [push_cast, q1]) (fun hb => ?_) (fun hb => ?_) <;> (refine Nav.imp ?_)
      · simp at hb
      · refine awp_region cx [] fun K hK => ?_
        simp [push_cast]
        repeat (refine And.intro (by clear hK; intros; first | omega | (simp_all; done) | (simp_all <;> omega)) ?_)
        refine hK _ ?_; clear hK K; refine Nav.imp ?_
        simp [push_cast]
end Go.Proofs.Ytagakfaiimaifaa

set_option linter.unusedVariables false
set_option linter.unusedSimpArgs false
set_option maxRecDepth 100000
namespace Go.Proofs.Ytagakfaiimaifaa
open Go.Abs

/-! A map of a region's rows. Erosion. -/
def rowMap (F : List Run → List Run) (R : List Row) : List (Int × List Run) := R.foldl (fun M w => putL M w.y (F w.runs)) []
theorem rowMap_take {F : List Run → List Run} {R : List Row} {i : Nat} {w : Row} (h : R[i]? = some w) : rowMap F (R.take (i + 1)) = putL (rowMap F (R.take i)) w.y (F w.runs) := by simp [rowMap, take_get h]
theorem rowOf_cons (w : Row) (R : List Row) (y : Int) : rowOf (w :: R) y = if w.y = y then w.runs else rowOf R y := by
  unfold rowOf
  rw [List.find?_cons]
  by_cases h : w.y = y <;> simp [h]
theorem rowMap_from (F : List Run → List Run) : ∀ (R : List Row) (M : List (Int × List Run)) (y : Int), (R.Pairwise fun a b => a.y < b.y) →
    mget (R.foldl (fun M w => putL M w.y (F w.runs)) M) y = if (∃ w ∈ R, w.y = y) then F (rowOf R y) else mget M y
  | [], M, y, _ => by simp
  | w :: R, M, y, h => by
    obtain ⟨h1, h2⟩ := List.pairwise_cons.1 h
    rw [List.foldl_cons, rowMap_from F R _ y h2, rowOf_cons, mget_put]
    by_cases hr : ∃ v ∈ R, v.y = y
    · obtain ⟨v, hv, e⟩ := hr
      have hne : w.y ≠ y := by have := h1 v hv; omega
      rw [if_pos ⟨v, hv, e⟩, if_pos ⟨v, by simp [hv], e⟩, if_neg hne]
    · rw [if_neg hr]
      by_cases e : w.y = y
      · rw [if_pos e.symm, if_pos ⟨w, by simp, e⟩, if_pos e]
      · rw [if_neg (Ne.symm e), if_neg]
        rintro ⟨v, hv, e'⟩
        rcases List.mem_cons.1 hv with rfl | hv
        · exact e e'
        · exact hr ⟨v, hv, e'⟩
theorem rowMap_get {F : List Run → List Run} (h0 : F [] = []) {R : List Row} (hv : R.Pairwise fun a b => a.y < b.y) (y : Int) : mget (rowMap F R) y = F (rowOf R y) := by
  unfold rowMap
  rw [rowMap_from F R [] y hv]
  split
  · rfl
  · rename_i h
    rw [rowOf_none (fun w hw e => h ⟨w, hw, e⟩), h0]
    rfl

theorem mem_shrK {K : Int} {l : List Run} {q : Run} : q ∈ shrK K l ↔ ∃ r ∈ l, r.a + K < r.b - K ∧ q = ⟨r.a + K, r.b - K⟩ := by
  unfold shrK shrRun
  rw [List.mem_flatMap]
  refine exists_congr fun r => and_congr_right fun _ => ?_
  split
  · rename_i h; simp [h]
  · rename_i h; simp [h]
theorem shrK_in {K : Int} {l : List Run} {x : Int} : inR (shrK K l) x = true ↔ ∃ r ∈ l, r.a + K ≤ x ∧ x < r.b - K := by
  rw [inR_iff]
  constructor
  · rintro ⟨q, hq, h⟩
    obtain ⟨r, hr, _, rfl⟩ := mem_shrK.1 hq
    exact ⟨r, hr, h⟩
  · rintro ⟨r, hr, h1, h2⟩
    exact ⟨_, mem_shrK.2 ⟨r, hr, by omega, rfl⟩, h1, h2⟩
theorem shrK_ok {K : Int} (hK : 0 ≤ K) {l : List Run} (h : Apart l) (hb : ∀ r ∈ l, -4096 ≤ r.a ∧ r.b ≤ 4096) : OkL (shrK K l) := by
  refine ⟨⟨fun q hq => ?_, ?_⟩, fun q hq => ?_⟩
  · obtain ⟨r, hr, h1, rfl⟩ := mem_shrK.1 hq; exact h1
  · refine flat_pw (P := fun p r => p.b < r.a) (fun r => shrRun_len K r) (fun a b x y hab hx hy => ?_) h.2
    unfold shrRun at hx hy
    split at hx <;> simp at hx
    split at hy <;> simp at hy
    subst hx; subst hy
    simp only; omega
  · obtain ⟨r, hr, h1, rfl⟩ := mem_shrK.1 hq
    have := hb r hr
    simp only; omega
/-- A number lies in the shortened runs exactly if all numbers around it lie in the runs. -/
theorem shrK_all {K : Nat} {l : List Run} (h : Apart l) (x : Int) : inR (shrK K l) x = true ↔ ∀ d : Int, -K ≤ d → d ≤ K → inR l (x + d) = true := by
  rw [shrK_in]
  constructor
  · rintro ⟨r, hr, h1, h2⟩ d d1 d2
    exact inR_iff.2 ⟨r, hr, by omega, by omega⟩
  · intro hall
    obtain ⟨r, hr, h1, h2⟩ := inR_iff.1 (hall (-K) (by omega) (by omega))
    refine ⟨r, hr, by omega, ?_⟩
    apply Classical.byContradiction
    intro hn
    obtain ⟨p, hp, h3, h4⟩ := inR_iff.1 (hall (r.b - x) (by omega) (by omega))
    have hrb := h.1 r hr
    have hpb := h.1 p hp
    have hne : r ≠ p := by rintro rfl; omega
    obtain ⟨i, hi⟩ := List.getElem?_of_mem hr
    obtain ⟨j, hj⟩ := List.getElem?_of_mem hp
    have hpw := List.pairwise_iff_getElem.1 h.2
    obtain ⟨hi1, hi2⟩ := List.getElem?_eq_some_iff.1 hi
    obtain ⟨hj1, hj2⟩ := List.getElem?_eq_some_iff.1 hj
    rcases (by omega : i < j ∨ i = j ∨ j < i) with q | q | q
    · have := hpw i j hi1 hj1 q; rw [hi2, hj2] at this; omega
    · subst q; rw [hi2] at hj2; exact hne hj2
    · have := hpw j i hj1 hi1 q; rw [hi2, hj2] at this; omega

def shrF (K : Nat) (l : List Run) : List Run := shrB l K
theorem shrF_nil (K : Nat) : shrF K [] = [] := by unfold shrF shrB shrK; simp
theorem shrF_eq {l : List Run} (h : rvalid l = true) {K : Nat} (hK : K ≤ 64) : shrF K l = shrK K l := by
  unfold shrF shrB
  rw [if_pos (by rw [h]; simp; omega)]
theorem rowOf_apart {R : List Row} (hv : validR R = true) (y : Int) : Apart (rowOf R y) ∧ ∀ r ∈ rowOf R y, -4096 ≤ r.a ∧ r.b ≤ 4096 := by
  rcases rowOf_cases hv y with ⟨w, hw, _, e⟩ | ⟨_, e⟩
  · rw [e]; exact (fine_apart.1 (row_fine hv hw).2).2
  · rw [e]; exact ⟨⟨by simp, by simp⟩, by simp⟩
theorem eroM_get {R : List Row} (hv : validR R = true) {K : Nat} (hK : K ≤ 64) (y : Int) : mget (rowMap (shrF K) R) y = shrK K (rowOf R y) := by
  rw [rowMap_get (shrF_nil K) (validR_pw.1 hv).2, shrF_eq (rowOf_rv hv y) hK]
theorem eroM_ok {R : List Row} (hv : validR R = true) {K : Nat} (hK : K ≤ 64) : OkM (rowMap (shrF K) R) := fun y => by
  rw [eroM_get hv hK]
  exact shrK_ok (by omega) (rowOf_apart hv y).1 (rowOf_apart hv y).2

def eroF (R : List Row) (K : Nat) (w : Row) : List Run := rowW fI (rowMap (shrF K) R) w.y K
def eroR (R : List Row) (k : Int) : List Row := if reachB R k then mapR (eroF R k.toNat) R else []
def aroundC (R : List Row) (K : Nat) (c : Cell) : Prop := ∀ dx dy : Int, -K ≤ dx → dx ≤ K → -K ≤ dy → dy ≤ K → (⟨c.x + dx, c.y + dy⟩ : Cell) ∈ regCells R
theorem eroF_in {R : List Row} (hv : validR R = true) {K : Nat} (hK : K ≤ 64) (w : Row) (x : Int) : inR (eroF R K w) x = true ↔ aroundC R K ⟨x, w.y⟩ := by
  unfold eroF rowW
  rw [wj_I (eroM_ok hv hK)]
  constructor
  · intro h dx dy h1 h2 h3 h4
    have h5 := h (dy + K).toNat (by omega)
    rw [show w.y - (K : Int) + ((dy + K).toNat : Int) = w.y + dy by omega, eroM_get hv hK, shrK_all (rowOf_apart hv _).1] at h5
    exact (rowOf_in hv ⟨x + dx, w.y + dy⟩).2 (h5 dx h1 h2)
  · intro h i hi
    rw [eroM_get hv hK, shrK_all (rowOf_apart hv _).1]
    intro d h1 h2
    have h5 := h d (i - K) h1 h2 (by omega) (by omega)
    have h6 := (rowOf_in hv _).1 h5
    rw [show w.y - (K : Int) + (i : Int) = w.y + ((i : Int) - K) by omega]
    exact h6
theorem eroF_ok {R : List Row} (hv : validR R = true) {K : Nat} (hK : K ≤ 64) (w : Row) : OkL (eroF R K w) := wj_ok rfl (eroM_ok hv hK) _ _
theorem ero_facts {R : List Row} {k : Int} (h : reachB R k = true) : validR (eroR R k) = true ∧ ∀ c, c ∈ regCells (eroR R k) ↔ aroundC R k.toNat c := by
  have e : eroR R k = mapR (eroF R k.toNat) R := by unfold eroR; rw [if_pos h]
  simp only [reachB, Bool.and_eq_true, decide_eq_true_eq] at h
  obtain ⟨⟨k1, k2⟩, hv⟩ := h
  have hK : k.toNat ≤ 64 := by omega
  rw [e]
  refine ⟨mapR_valid hv fun w hw hne => fine_apart.2 ⟨hne, (eroF_ok hv hK w).1, apart_bounds (eroF_ok hv hK w).1 fun x hx => ?_⟩, fun c => ?_⟩
  · have := (eroF_in hv hK w x).1 hx 0 0 (by omega) (by omega) (by omega) (by omega)
    have := onG_bd (cells_on hv this)
    simp only at this; omega
  · rw [mapR_cells]
    constructor
    · rintro ⟨w, hw, hy, hr⟩
      have := (eroF_in hv hK w c.x).1 hr
      rw [← hy] at this; exact this
    · intro hc
      have h0 := hc 0 0 (by omega) (by omega) (by omega) (by omega)
      obtain ⟨w, hw, hy, _⟩ := mem_regCells.1 h0
      simp only [Int.add_zero] at hy
      refine ⟨w, hw, hy, (eroF_in hv hK w c.x).2 ?_⟩
      rw [← hy]; exact hc
set_option maxHeartbeats 4000000 in
theorem erode_ok (R : List Row) (k : Int) (hR : bigR R) : PC Try.prog 28 [.agg (regRow R), .int .i64 k] (.p (.agg (regRow (eroR R k)))) := by
  have c0 := mvalid_big R k hR
  have hE : eroR R k = if reachB R k then mapR (eroF R k.toNat) R else [] := rfl
  cases hq : reachB R k with
  | false =>
    rw [hq] at c0 hE
    rw [hE]
    refine pc_of_awp cx (fn := Try.f28) (c := _) Try.func28 rfl rfl (Nat.le_of_ble_eq_true rfl) ?_
    rw [Try.ntmps28]; refine Nav.imp ?_
    refine awp_region cx [] fun K hK => ?_
    simp [push_cast]
    repeat (refine And.intro (by clear hK; intros; first | omega | (simp_all; done) | (simp_all <;> omega)) ?_)
    refine hK _ ?_; clear hK K; refine Nav.imp ?_
    refine awp_region cx [] fun K hK => ?_
    simp [push_cast]
    repeat (refine And.intro (by clear hK; intros; first | omega | (simp_all; done) | (simp_all <;> omega)) ?_)
    refine hK _ ?_; clear hK K; refine Nav.imp ?_
    refine awp_region cx [(2, .p (.bool false))] fun K hK => ?_
    simp [push_cast, c0]
    repeat (refine And.intro (by clear hK; intros; first | omega | (simp_all; done) | (simp_all <;> omega)) ?_)
    refine hK _ ?_; clear hK K; refine Nav.imp ?_
    refine awp_cond (b := true) (by simp [push_cast]) (fun hb => ?_) (fun hb => ?_) <;> (refine Nav.imp ?_)
    · refine awp_region cx [] fun K hK => ?_
      simp [push_cast]
      repeat (refine And.intro (by clear hK; intros; first | omega | (simp_all; done) | (simp_all <;> omega)) ?_)
      refine hK _ ?_; clear hK K; refine Nav.imp ?_
      simp [push_cast]
    · simp at hb
  | true =>
    rw [hq] at c0 hE
    rw [if_pos rfl] at hE
    simp only [reachB, Bool.and_eq_true, decide_eq_true_eq] at hq
    obtain ⟨⟨k1, k2⟩, hv⟩ := hq
    replace hR := small_valid hv
    have hl := hR.1
    obtain ⟨K, rfl⟩ : ∃ K : Nat, k = K := ⟨k.toNat, by omega⟩
    have hK : K ≤ 64 := by omega
    rw [Int.toNat_natCast] at hE
    rw [hE]
    clear hE
    have hFd : ∀ w : Row, eroF R K w = rowW fI (rowMap (shrF K) R) w.y K := fun w => rfl
    have hFok := fun w => eroF_ok hv hK w
    have hMok := eroM_ok hv hK
    have hMt := fun i w => @rowMap_take (shrF K) R i w
    have hM0 : rowMap (shrF K) (R.take 0) = [] := rfl
    have hMe : rowMap (shrF K) (R.take R.length) = rowMap (shrF K) R := by rw [List.take_length]
    have hFt := fun i w => @mapR_take (eroF R K) R i w
    have hFl := fun i => mapR_len (eroF R K) (R.take i)
    have hF0 : mapR (eroF R K) (R.take 0) = [] := rfl
    have hFe : mapR (eroF R K) (R.take R.length) = mapR (eroF R K) R := by rw [List.take_length]
    have hFr : ∀ w, mapRow (eroF R K) w = if eroF R K w = [] then [] else [⟨w.y, eroF R K w⟩] := fun w => rfl
    generalize eroF R K = F at *
    generalize hMM : rowMap (shrF K) R = MM at *
    refine pc_of_awp cx (fn := Try.f28) (c := _) Try.func28 rfl rfl (Nat.le_of_ble_eq_true rfl) ?_
    rw [Try.ntmps28]; refine Nav.imp ?_
    refine awp_region cx [] fun K hK => ?_
    simp [push_cast]
    repeat (refine And.intro (by clear hK; intros; first | omega | (simp_all; done) | (simp_all <;> omega)) ?_)
    refine hK _ ?_; clear hK K; refine Nav.imp ?_
    refine awp_region cx [] fun K hK => ?_
    simp [push_cast]
    repeat (refine And.intro (by clear hK; intros; first | omega | (simp_all; done) | (simp_all <;> omega)) ?_)
    refine hK _ ?_; clear hK K; refine Nav.imp ?_
    refine awp_region cx [(2, .p (.bool true))] fun K hK => ?_
    simp [push_cast, c0]
    repeat (refine And.intro (by clear hK; intros; first | omega | (simp_all; done) | (simp_all <;> omega)) ?_)
    refine hK _ ?_; clear hK K; refine Nav.imp ?_
    refine awp_cond (b := false) (by simp [push_cast]) (fun hb => ?_) (fun hb => ?_) <;> (refine Nav.imp ?_)
    · simp at hb
    · refine awp_region cx [] fun K hK => ?_
      simp [push_cast, mp_nil]
      repeat (refine And.intro (by clear hK; intros; first | omega | (simp_all; done) | (simp_all <;> omega)) ?_)
      refine hK _ ?_; clear hK K; refine Nav.imp ?_
      refine awp_region cx [] fun K hK => ?_
      simp [push_cast]
      repeat (refine And.intro (by clear hK; intros; first | omega | (simp_all; done) | (simp_all <;> omega)) ?_)
      refine hK _ ?_; clear hK K; refine Nav.imp ?_
      refine awp_loop (β := Nat × List (Int × List Run)) (fun b => ⟨63, [(1, .d (.int .i64 K)), (2, .ptr 0 0 0), (4, .ptr 1 0 0), (5, .ptr 2 0 0), (6, .ptr 4 0 0), (20, .d (encRows R)), (21, .d (.int .i64 R.length)), (22, .d (.int .i64 b.1))], [(0, some ⟨24, 1, [(regRow R).map .d]⟩), (1, some ⟨24, 1, [[.nl]]⟩), (2, some ⟨24, 1, [[.nl]]⟩), (3, some ⟨66, mapM, dr (mpRows b.2)⟩), (4, some ⟨68, 2, [[.hm 3, .d (.fn (.func 48) [])]]⟩)], 5⟩) (fun b => b.1 ≤ R.length ∧ b.2 = rowMap (shrF K) (R.take b.1)) (fun b => R.length - b.1) (0, []) ?_ ⟨Nat.zero_le _, hM0.symm⟩ ?_
      · refine weak_of [(0, some 0), (1, some 1), (2, some 2), (3, some 7), (4, some 9)] rfl (by simp [upT, up, upL, push_cast, mp_nil]) (by simp [upH, upR, upL, up, push_cast, mp_nil]) (by simp [namesOk, push_cast]) (by simp [olds])
      · rintro ⟨i, M⟩ ⟨hi, hM⟩
        simp only at hi hM
        refine Nav.imp ?_
        refine awp_region cx [] fun K hK => ?_
        simp [push_cast]
        repeat (refine And.intro (by clear hK; intros; first | omega | (simp_all; done) | (simp_all <;> omega)) ?_)
        refine hK _ ?_; clear hK K; refine Nav.imp ?_
        refine awp_cond (b := decide ((i : Int) < R.length)) (by simp [push_cast]) (fun hb => ?_) (fun hb => ?_) <;> (refine Nav.imp ?_)
        · have hlt : i < R.length := by simpa using hb
          obtain ⟨w, hw⟩ := getq hlt
          have e0 := wrap_i64 (n := (i : Int) + 1) (by omega) (by omega)
          have hwl := hR.2 w (List.mem_of_getElem? hw)
          have c1 := shrink_ok w.runs K hwl
          have hsf : shrB w.runs K = shrF K w.runs := rfl
          rw [hsf] at c1
          have hnx := hMt i w hw
          rw [← hM] at hnx
          clear hsf
          generalize shrF K w.runs = s at *
          have hput := putR_mp w.y s M
          refine awp_region cx [] fun K hK => ?_
          simp [push_cast, hw, Row.row]
          repeat (refine And.intro (by clear hK; intros; first | omega | (simp_all; done) | (simp_all <;> omega)) ?_)
          refine hK _ ?_; clear hK K; refine Nav.imp ?_
          refine awp_region_draw cx mixed [(7, .p (encRuns s))] fun K hK => ?_
          simp [push_cast, c1, hput, Row.row]
          repeat (refine And.intro (by clear hK; intros; first | omega | (simp_all; done) | (simp_all <;> omega)) ?_)
          refine hK _ _ (by kernel_rfl) ?_; clear hK K; refine Nav.imp ?_
          refine awp_region cx [] fun K hK => ?_
          simp [push_cast, e0]
          repeat (refine And.intro (by clear hK; intros; first | omega | (simp_all; done) | (simp_all <;> omega)) ?_)
          refine hK _ ?_; clear hK K; refine Nav.imp ?_
          refine ⟨(i + 1, putL M w.y s), ⟨hlt, hnx.symm⟩, by simp only; omega, ?_⟩
          refine weak_of [(0, some 0), (1, some 1), (2, some 2), (3, some 3), (4, some 4)] rfl (by simp [upT, up, upL, push_cast]) (by simp [upH, upR, upL, up, push_cast]) (by simp [namesOk, push_cast]) (by simp [olds])
        · have hge : i = R.length := by simp at hb; omega
          subst hge
          rw [hMe] at hM
          subst hM
          refine awp_freeze 3 (mpRows M) rfl (by simp [push_cast]) fun K hK => ?_
          simp [push_cast, St.fz, fzT, fzH, fzO, fz, fzL, fzR, fzR_dr, fzR_app, fzR_set, fzL_map]
          refine hK _ ?_; clear hK K; refine Nav.imp ?_
          refine awp_region cx [] fun K hK => ?_
          simp [push_cast]
          repeat (refine And.intro (by clear hK; intros; first | omega | (simp_all; done) | (simp_all <;> omega)) ?_)
          refine hK _ ?_; clear hK K; refine Nav.imp ?_
          refine awp_loop (β := Nat × List Row) (fun s => ⟨63, [(1, .d (.int .i64 K)), (4, .ptr 1 0 0), (5, .ptr 2 0 0), (6, .ptr 4 0 0), (36, .d (encRows R)), (37, .d (.int .i64 R.length)), (38, .d (.int .i64 s.1))], [(1, some ⟨24, 1, [[.nl]]⟩), (2, some ⟨24, 1, [[.hs 3 0 s.2.length]]⟩), (3, some ⟨42, 2, dr (s.2.map Row.row)⟩), (4, some ⟨68, 2, [[.d (.mp (mpRows M)), .d (.fn (.func 48) [])]]⟩)], 5⟩) (fun s => s.1 ≤ R.length ∧ s.2 = mapR F (R.take s.1)) (fun s => R.length - s.1) (0, []) ?_ ⟨Nat.zero_le _, hF0.symm⟩ ?_
          · refine weak_of [(1, some 1), (2, some 2), (3, none), (4, some 4)] rfl (by simp [upT, up, upL, push_cast]) (by simp [upH, upR, upL, up, push_cast]) (by simp [namesOk, push_cast]) (by simp [olds])
          · rintro ⟨i, Z⟩ ⟨hi, hZ⟩
            simp only at hi hZ
            refine Nav.imp ?_
            refine awp_region cx [] fun K hK => ?_
            simp [push_cast]
            repeat (refine And.intro (by clear hK; intros; first | omega | (simp_all; done) | (simp_all <;> omega)) ?_)
            refine hK _ ?_; clear hK K; refine Nav.imp ?_
            refine awp_cond (b := decide ((i : Int) < R.length)) (by simp [push_cast]) (fun hb => ?_) (fun hb => ?_) <;> (refine Nav.imp ?_)
            · have hlt : i < R.length := by simpa using hb
              obtain ⟨w, hw⟩ := getq hlt
              have hwm := List.mem_of_getElem? hw
              have e0 := wrap_i64 (n := (i : Int) + 1) (by omega) (by omega)
              have hwb := (validR_at hv hw).1
              have c2 := wrow_ok fI rfl 48 (fun a b h1 h2 h3 h4 => intersect_ok a b h1 h2 h3 h4) M hMok w.y K (by omega) hK
              rw [← hFd w] at c2
              have hul := (hFok w).len
              have hnx := hFt i w hw
              rw [hFr, ← hZ] at hnx
              have hZl : Z.length ≤ 1000000 := by have := hFl i; rw [← hZ] at this; simp at this; omega
              have hZ32 : (Z.length + 1) * 32 ≤ 140737488355328 := by omega
              have hu16 : (0 + (F w).length) * 16 ≤ 140737488355328 := by omega
              generalize F w = u at *
              refine awp_region cx [] fun K hK => ?_
              simp [push_cast, hw, Row.row]
              repeat (refine And.intro (by clear hK; intros; first | omega | (simp_all; done) | (simp_all <;> omega)) ?_)
              refine hK _ ?_; clear hK K; refine Nav.imp ?_
              refine awp_region cx [(4, .p (encRuns u))] fun K hK => ?_
              simp [push_cast, c2, Row.row]
              repeat (refine And.intro (by clear hK; intros; first | omega | (simp_all; done) | (simp_all <;> omega)) ?_)
              refine hK _ ?_; clear hK K; refine Nav.imp ?_
              refine awp_region cx [] fun K hK => ?_
              simp [push_cast]
              repeat (refine And.intro (by clear hK; intros; first | omega | (simp_all; done) | (simp_all <;> omega)) ?_)
              refine hK _ ?_; clear hK K; refine Nav.imp ?_
              cases hu : u with
              | nil =>
                rw [hu] at hnx
                simp only [if_true, List.append_nil] at hnx
                refine awp_cond (b := false) (by simp [push_cast, hu]) (fun hb => ?_) (fun hb => ?_) <;> (refine Nav.imp ?_)
                · simp at hb
                · refine awp_region cx [] fun K hK => ?_
                  simp [push_cast, e0]
                  repeat (refine And.intro (by clear hK; intros; first | omega | (simp_all; done) | (simp_all <;> omega)) ?_)
                  refine hK _ ?_; clear hK K; refine Nav.imp ?_
                  refine ⟨(i + 1, Z), ⟨hlt, hnx.symm⟩, by simp only; omega, ?_⟩
                  refine weak_of [(1, some 1), (2, some 2), (3, some 3), (4, some 4)] rfl (by simp [upT, up, upL, push_cast]) (by simp [upH, upR, upL, up, push_cast]) (by simp [namesOk, push_cast]) (by simp [olds])
              | cons q u' =>
                have hne : ¬ u = [] := by rw [hu]; simp
                have hpos : 0 < u.length := by rw [hu]; simp
                rw [if_neg hne] at hnx
                rw [← hu]
                clear hu
                refine awp_cond (b := true) (by simp [push_cast, hpos]) (fun hb => ?_) (fun hb => ?_) <;> (refine Nav.imp ?_)
                · refine awp_region_draw cx mixed [] fun K hK => ?_
                  simp [push_cast, hZ32, hu16, Row.row]
                  repeat (refine And.intro (by clear hK; intros; first | omega | (simp_all; done) | (simp_all <;> omega)) ?_)
                  refine hK _ _ (by kernel_rfl) ?_; clear hK K; refine Nav.imp ?_
                  refine awp_freeze 25 (u.map Run.row) rfl (by simp [push_cast]) fun K hK => ?_
                  simp [push_cast, St.fz, fzT, fzH, fzO, fz, fzL, fzR, fzR_dr, fzR_app, fzR_set, fzL_map]
                  refine hK _ ?_; clear hK K; refine Nav.imp ?_
                  refine awp_region cx [] fun K hK => ?_
                  simp [push_cast, e0]
                  repeat (refine And.intro (by clear hK; intros; first | omega | (simp_all; done) | (simp_all <;> omega)) ?_)
                  refine hK _ ?_; clear hK K; refine Nav.imp ?_
                  refine ⟨(i + 1, Z ++ [⟨w.y, u⟩]), ⟨hlt, hnx.symm⟩, by simp only; omega, ?_⟩
                  refine weak_of [(1, some 1), (2, some 2), (3, some 28), (4, some 4)] rfl (by simp [upT, up, upL, push_cast, Row.row]) (by simp [upH, upR, upL, up, push_cast, Row.row]) (by simp [namesOk, push_cast]) (by simp [olds])
                · simp at hb
            · have hge : i = R.length := by simp at hb; omega
              subst hge
              rw [hFe] at hZ
              rw [← hZ]
              have ht2 : List.take Z.length (Z.map Row.row) = Z.map Row.row := List.take_of_length_le (by simp)
              refine awp_freeze 3 (Z.map Row.row) rfl (by simp [push_cast, Row.row, ht2]) fun K hK => ?_
              simp [push_cast, St.fz, fzT, fzH, fzO, fz, fzL, fzR, fzR_dr, fzR_app, fzR_set, fzL_map, Row.row, ht2]
              refine hK _ ?_; clear hK K; refine Nav.imp ?_
              refine awp_region cx [] fun K hK => ?_
              simp [push_cast]
              repeat (refine And.intro (by clear hK; intros; first | omega | (simp_all; done) | (simp_all <;> omega)) ?_)
              refine hK _ ?_; clear hK K; refine Nav.imp ?_
              simp [push_cast]
end Go.Proofs.Ytagakfaiimaifaa

set_option linter.unusedVariables false
set_option linter.unusedSimpArgs false
set_option maxRecDepth 100000
namespace Go.Proofs.Ytagakfaiimaifaa
open Go.Abs

/-! Dilation. -/
def groF (K : Nat) (l : List Run) : List Run := groL l K
def dilRun (R : List Row) (K : Nat) (y : Int) : List Run := rowW fU (rowMap (groF K) R) y K
def ysD (lo : Int) (n : Nat) : List Int := (List.range n).map fun i : Nat => lo + i
theorem ysD_mem {lo : Int} {n : Nat} {y : Int} : y ∈ ysD lo n ↔ lo ≤ y ∧ y < lo + n := by
  simp only [ysD, List.mem_map, List.mem_range]
  constructor
  · rintro ⟨i, hi, rfl⟩; omega
  · intro h; exact ⟨(y - lo).toNat, by omega, by omega⟩
theorem ysD_pw (lo : Int) (n : Nat) : (ysD lo n).Pairwise (· < ·) := by
  simp only [ysD, List.pairwise_map]
  exact List.pairwise_lt_range.imp (fun {a b} h => by omega)
def dilRow (F : Int → List Run) (y : Int) : List Row := if F y = [] then [] else [⟨y, F y⟩]
def rowsF (F : Int → List Run) (ys : List Int) : List Row := ys.flatMap (dilRow F)
def dilN (R : List Row) (K : Nat) : Nat := (lstY R + K - (fstY R - K) + 1).toNat
def dilL (R : List Row) (K : Nat) : List Row := rowsF (dilRun R K) (ysD (fstY R - K) (dilN R K))
def rngB (R : List Row) (k : Int) : Bool := !decide (min (lowX R) (fstY R) - k < -4096) && !decide (4096 ≤ max (highX R) (lstY R) + k)
def dilR (R : List Row) (k : Int) : List Row := if reachB R k && decide (0 < R.length) && rngB R k then dilL R k.toNat else []
def dilE (R : List Row) (k : Int) : Int := if reachB R k then (if 0 < R.length then (if rngB R k then 0 else 8) else 0) else 1
end Go.Proofs.Ytagakfaiimaifaa
