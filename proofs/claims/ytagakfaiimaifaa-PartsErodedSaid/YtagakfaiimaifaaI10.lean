/-
  Texts of this seat put together: Y1, Y2, Y3, Y4, X8, X7, Y5, M1.
-/
import Derived.Test.YtagakfaiimaifaaI6
import Derived.Test.YtagakfaiimaifaaI8
import Derived.Test.YtagakfaiimaifaaI9
import Derived.Test.YtagakfaiimaifaaI5
set_option linter.unusedVariables false
set_option linter.unusedSimpArgs false
set_option maxRecDepth 100000
namespace Go.Proofs.Ytagakfaiimaifaa
open Go.Abs

/-! The reference of an operation on two rows: the bounds in their order, and what is kept between them. -/
def InsI (l : List Int) (i : Nat) (Z : List Int) (k : Nat) : Prop :=
  ∃ (P : List Int) (c : Int) (Q T : List Int), Z = P ++ c :: (Q ++ T) ∧ P.length = k ∧ P.length + Q.length = i ∧ Z.Perm l ∧ ((P ++ Q).Pairwise fun a b => a ≤ b) ∧ ∀ q ∈ Q, c ≤ q
def UpI (l : List Int) (i : Nat) (Z : List Int) : Prop := Z.Perm l ∧ ((Z.take i).Pairwise fun a b => a ≤ b)

def ascI (l : List Int) : List Int := l.mergeSort (fun x y => decide (x ≤ y))
/-- The bounds of runs. -/
def ends (l : List Run) : List Int := l.flatMap fun r => [r.a, r.b]
def bnds (a b : List Run) : List Int := ascI (ends a ++ ends b)
/-- All bounds of both lists lie at X or before, or at Y or behind. -/
def Gap (a b : List Run) (X Y : Int) : Prop := ∀ r, r ∈ a ∨ r ∈ b → (r.a ≤ X ∨ Y ≤ r.a) ∧ (r.b ≤ X ∨ Y ≤ r.b)
/-- What is known before bound X is looked at. -/
def CombAt (f : Bool → Bool → Bool) (a b : List Run) (X : Int) (out : List Run) : Prop :=
  Apart out ∧ (∀ r ∈ out, r.b ≤ X) ∧ ∀ z, inR out z = (decide (z < X) && f (inR a z) (inR b z))
/-! The reference of an operation on two regions: row by row. -/
def stepI (R : List Row) (i : Nat) (y : Int) : Nat := match R[i]? with
  | some v => if v.y = y then i + 1 else i
  | none => i
def runsAt (R : List Row) (i : Nat) (y : Int) : List Run := match R[i]? with
  | some v => if v.y = y then v.runs else []
  | none => []
def nextY (a b : List Row) (i k : Nat) : Int := match a[i]?, b[k]? with
  | some v, some w => if v.y ≤ w.y then v.y else w.y
  | some v, none => v.y
  | none, some w => w.y
  | none, none => 0
theorem side {R : List Row} (hR : validR R = true) {i : Nat} {y : Int} {ys : List Int} (h1 : ∀ w ∈ R.take i, w.y ∈ ys) (h0 : ∀ z ∈ ys, z < y) (h2 : ∀ w ∈ R.drop i, y ≤ w.y) :
    rowOf R y = runsAt R i y ∧ (∀ w ∈ R.take (stepI R i y), w.y ∈ ys ++ [y]) ∧ (∀ z ∈ ys ++ [y], ∀ w ∈ R.drop (stepI R i y), z < w.y) := by
  unfold stepI runsAt
  have hno : ∀ w ∈ R.take i, w.y ≠ y := fun w hw e => by have := h0 _ (h1 w hw); omega
  cases h : R[i]? with
  | none =>
    have hl : R.length ≤ i := List.getElem?_eq_none_iff.1 h
    rw [List.take_of_length_le hl] at hno h1
    simp only
    refine ⟨?_, fun w hw => ?_, fun z hz w hw => ?_⟩
    · rcases rowOf_cases hR y with ⟨w, hw, e, _⟩ | ⟨_, e⟩
      · exact absurd e (hno w hw)
      · exact e
    · exact List.mem_append_left _ (h1 w (List.mem_of_mem_take hw))
    · rw [List.drop_eq_nil_of_le hl] at hw; cases hw
  | some v =>
    obtain ⟨hi, hv⟩ := List.getElem?_eq_some_iff.1 h
    have hd : R.drop i = v :: R.drop (i + 1) := by rw [List.drop_eq_getElem_cons hi, hv]
    have hvR : v ∈ R := List.mem_of_getElem? h
    have hp := rows_pw hR
    rw [← List.take_append_drop i R, hd] at hp
    have hgt := (List.pairwise_cons.1 (List.pairwise_append.1 hp).2.1).1
    have hvy := h2 v (by rw [hd]; simp)
    simp only
    by_cases e : v.y = y
    · rw [if_pos e, if_pos e]
      refine ⟨by rw [← e]; exact rowOf_mem hR hvR, fun w hw => ?_, fun z hz w hw => ?_⟩
      · rw [take_get h] at hw
        rcases List.mem_append.1 hw with hw | hw
        · exact List.mem_append_left _ (h1 w hw)
        · simp at hw; subst hw; simp [e]
      · have := hgt w hw
        rcases List.mem_append.1 hz with hz | hz
        · have := h0 z hz; omega
        · simp at hz; subst hz; omega
    · rw [if_neg e, if_neg e]
      refine ⟨?_, fun w hw => List.mem_append_left _ (h1 w hw), fun z hz w hw => ?_⟩
      · rcases rowOf_cases hR y with ⟨w, hw, e', _⟩ | ⟨_, e'⟩
        · rw [← List.take_append_drop i R, hd] at hw
          rcases List.mem_append.1 hw with hw | hw
          · exact absurd e' (hno w hw)
          · rcases List.mem_cons.1 hw with rfl | hw
            · exact absurd e' e
            · have := hgt w hw; omega
        · exact e'
      · have hw' : y < w.y := by
          rw [hd] at hw
          rcases List.mem_cons.1 hw with rfl | hw
          · omega
          · have := hgt w hw; omega
        rcases List.mem_append.1 hz with hz | hz
        · have := h0 z hz; omega
        · simp at hz; subst hz; exact hw'
def OpAt (f : Bool → Bool → Bool) (a b : List Row) (i k : Nat) (out : List Row) : Prop :=
  i ≤ a.length ∧ k ≤ b.length ∧ ∃ ys : List Int, ys.Pairwise (· < ·) ∧ out = opOn f a b ys ∧ ys.length ≤ i + k ∧ (∀ w ∈ a.take i, w.y ∈ ys) ∧ (∀ w ∈ b.take k, w.y ∈ ys) ∧ (∀ z ∈ ys, ∀ w ∈ a.drop i, z < w.y) ∧ (∀ z ∈ ys, ∀ w ∈ b.drop k, z < w.y)
end Go.Proofs.Ytagakfaiimaifaa

set_option linter.unusedVariables false
set_option linter.unusedSimpArgs false
set_option maxRecDepth 100000
namespace Go.Proofs.Ytagakfaiimaifaa
open Go.Abs

end Go.Proofs.Ytagakfaiimaifaa

set_option linter.unusedVariables false
set_option linter.unusedSimpArgs false
set_option maxRecDepth 100000
namespace Go.Proofs.Ytagakfaiimaifaa
open Go.Abs

end Go.Proofs.Ytagakfaiimaifaa

set_option linter.unusedVariables false
set_option linter.unusedSimpArgs false
set_option maxRecDepth 100000
namespace Go.Proofs.Ytagakfaiimaifaa
open Go.Abs

end Go.Proofs.Ytagakfaiimaifaa

set_option linter.unusedVariables false
set_option linter.unusedSimpArgs false
set_option maxRecDepth 100000
namespace Go.Proofs.Ytagakfaiimaifaa
open Go.Abs

/-! A valid region is small. -/
/-! Regions compared. -/



def sameB (a b : List Row) : Bool := validR a && validR b && decide (a = b)

end Go.Proofs.Ytagakfaiimaifaa

set_option linter.unusedVariables false
set_option linter.unusedSimpArgs false
set_option maxRecDepth 100000
namespace Go.Proofs.Ytagakfaiimaifaa
open Go.Abs

def withinB (a b : List Row) : Bool := validR a && validR b && decide ((opR fD a b).length = 0)
theorem withinR_big (a b : List Row) (hA : bigR a) (hB : bigR b) : PC Try.prog 26 [.agg (regRow a), .agg (regRow b)] (.p (.bool (withinB a b))) := by
  have c1 := valid_big a hA
  have c2 := valid_big b hB
  have c3 := subtractR_big a b hA hB
  unfold withinB
  generalize validR a = v at *
  generalize validR b = w at *
  generalize opR fD a b = r at *
  have hr : ((r.length : Int) == 0) = decide (r.length = 0) := by rw [Bool.eq_iff_iff]; simp
  cases v with
  | false =>
    refine pc_of_awp cx (fn := Try.f26) (c := _) Try.func26 rfl rfl (Nat.le_of_ble_eq_true rfl) ?_
    rw [Try.ntmps26]; refine Nav.imp ?_
    refine awp_region cx [] fun K hK => ?_
    simp [push_cast]
    repeat (refine And.intro (by clear hK; intros; first | omega | (simp_all; done) | (simp_all <;> omega)) ?_)
    refine hK _ ?_; clear hK K; refine Nav.imp ?_
    refine awp_region cx [(1, .p (.bool false)), (4, .skip), (9, .skip)] fun K hK => ?_
    simp [push_cast, c1]
    repeat (refine And.intro (by clear hK; intros; first | omega | (simp_all; done) | (simp_all <;> omega)) ?_)
    refine hK _ ?_; clear hK K; refine Nav.imp ?_
    simp [push_cast]
  | true =>
    cases w with
    | false =>
      refine pc_of_awp cx (fn := Try.f26) (c := _) Try.func26 rfl rfl (Nat.le_of_ble_eq_true rfl) ?_
      rw [Try.ntmps26]; refine Nav.imp ?_
      refine awp_region cx [] fun K hK => ?_
      simp [push_cast]
      repeat (refine And.intro (by clear hK; intros; first | omega | (simp_all; done) | (simp_all <;> omega)) ?_)
      refine hK _ ?_; clear hK K; refine Nav.imp ?_
      refine awp_region cx [(1, .p (.bool true)), (4, .p (.bool false)), (9, .skip)] fun K hK => ?_
      simp [push_cast, c1, c2]
      repeat (refine And.intro (by clear hK; intros; first | omega | (simp_all; done) | (simp_all <;> omega)) ?_)
      refine hK _ ?_; clear hK K; refine Nav.imp ?_
      simp [push_cast]
    | true =>
      refine pc_of_awp cx (fn := Try.f26) (c := _) Try.func26 rfl rfl (Nat.le_of_ble_eq_true rfl) ?_
      rw [Try.ntmps26]; refine Nav.imp ?_
      refine awp_region cx [] fun K hK => ?_
      simp [push_cast]
      repeat (refine And.intro (by clear hK; intros; first | omega | (simp_all; done) | (simp_all <;> omega)) ?_)
      refine hK _ ?_; clear hK K; refine Nav.imp ?_
      refine awp_region cx [(1, .p (.bool true)), (4, .p (.bool true)), (9, .p (.agg (regRow r)))] fun K hK => ?_
      simp [push_cast, c1, c2, c3]
      repeat (refine And.intro (by clear hK; intros; first | omega | (simp_all; done) | (simp_all <;> omega)) ?_)
      refine hK _ ?_; clear hK K; refine Nav.imp ?_
      simp [push_cast, hr]
theorem withinR_ok (a b : List Row) (hA : smallR a) (hB : smallR b) : PC Try.prog 26 [.agg (regRow a), .agg (regRow b)] (.p (.bool (withinB a b))) := withinR_big a b (big_of hA) (big_of hB)
end Go.Proofs.Ytagakfaiimaifaa

set_option linter.unusedVariables false
set_option linter.unusedSimpArgs false
set_option maxRecDepth 100000
namespace Go.Proofs.Ytagakfaiimaifaa
open Go.Abs

end Go.Proofs.Ytagakfaiimaifaa

set_option linter.unusedVariables false
set_option linter.unusedSimpArgs false
set_option maxRecDepth 100000
namespace Go.Proofs.Ytagakfaiimaifaa
open Go.Abs

/-! Offsets: what is valid; runs made shorter. -/
def reachB (R : List Row) (k : Int) : Bool := decide (0 ≤ k) && decide (k ≤ 64) && validR R
theorem mvalid_big (R : List Row) (k : Int) (hR : bigR R) : PC Try.prog 52 [.agg (regRow R), .int .i64 k] (.p (.bool (reachB R k))) := by
  have c1 := valid_big R hR
  unfold reachB
  generalize validR R = v at *
  by_cases h : 0 ≤ k ∧ k ≤ 64
  · have e1 : (0 : Int) ≤ k := h.1
    have e2 : k ≤ 64 := h.2
    refine pc_of_awp cx (fn := Try.f52) (c := _) Try.func52 rfl rfl (Nat.le_of_ble_eq_true rfl) ?_
    rw [Try.ntmps52]; refine Nav.imp ?_
    refine awp_region cx [] fun K hK => ?_
    simp [push_cast]
    repeat (refine And.intro (by clear hK; intros; first | omega | (simp_all; done) | (simp_all <;> omega)) ?_)
    refine hK _ ?_; clear hK K; refine Nav.imp ?_
    refine awp_region cx [(8, .p (.bool v))] fun K hK => ?_
    simp [push_cast, c1, e1, e2]
    repeat (refine And.intro (by clear hK; intros; first | omega | (simp_all; done) | (simp_all <;> omega)) ?_)
    refine hK _ ?_; clear hK K; refine Nav.imp ?_
    simp [push_cast, e1, e2]
  · have e : (decide (0 ≤ k) && decide (k ≤ 64)) = false := by simp; omega
    rw [e]
    by_cases h0 : 0 ≤ k
    · have e2 : ¬ k ≤ 64 := by omega
      refine pc_of_awp cx (fn := Try.f52) (c := _) Try.func52 rfl rfl (Nat.le_of_ble_eq_true rfl) ?_
      rw [Try.ntmps52]; refine Nav.imp ?_
      refine awp_region cx [] fun K hK => ?_
      simp [push_cast]
      repeat (refine And.intro (by clear hK; intros; first | omega | (simp_all; done) | (simp_all <;> omega)) ?_)
      refine hK _ ?_; clear hK K; refine Nav.imp ?_
      refine awp_region cx [(8, .skip)] fun K hK => ?_
      simp [push_cast, h0, e2]
      repeat (refine And.intro (by clear hK; intros; first | omega | (simp_all; done) | (simp_all <;> omega)) ?_)
      refine hK _ ?_; clear hK K; refine Nav.imp ?_
      simp [push_cast, h0, e2]
    · refine pc_of_awp cx (fn := Try.f52) (c := _) Try.func52 rfl rfl (Nat.le_of_ble_eq_true rfl) ?_
      rw [Try.ntmps52]; refine Nav.imp ?_
      refine awp_region cx [] fun K hK => ?_
      simp [push_cast]
      repeat (refine And.intro (by clear hK; intros; first | omega | (simp_all; done) | (simp_all <;> omega)) ?_)
      refine hK _ ?_; clear hK K; refine Nav.imp ?_
      refine awp_region cx [(8, .skip)] fun K hK => ?_
      simp [push_cast, h0]
      repeat (refine And.intro (by clear hK; intros; first | omega | (simp_all; done) | (simp_all <;> omega)) ?_)
      refine hK _ ?_; clear hK K; refine Nav.imp ?_
      simp [push_cast, h0]

def shrRun (k : Int) (r : Run) : List Run := if r.a + k < r.b - k then [⟨r.a + k, r.b - k⟩] else []
def shrK (k : Int) (l : List Run) : List Run := l.flatMap (shrRun k)
def shrB (l : List Run) (k : Int) : List Run := if rvalid l && decide (0 ≤ k) && decide (k ≤ 1048576) then shrK k l else []
theorem shrRun_len (k : Int) (r : Run) : (shrRun k r).length ≤ 1 := by unfold shrRun; split <;> simp
theorem flat_one_len {α β : Type} {f : α → List β} (h : ∀ x, (f x).length ≤ 1) : ∀ m : List α, (m.flatMap f).length ≤ m.length
  | [] => by simp
  | x :: m => by have := h x; have := flat_one_len h m; rw [List.flatMap_cons, List.length_append, List.length_cons]; omega

set_option maxHeartbeats 1000000 in
theorem shrink_ok (l : List Run) (k : Int) (hl : l.length ≤ 1000000) : PC Try.prog 53 [encRuns l, .int .i64 k] (.p (encRuns (shrB l k))) := by
  have c1 := rvalid_ok l hl
  have hB : shrB l k = if rvalid l && decide (0 ≤ k) && decide (k ≤ 1048576) then shrK k l else [] := rfl
  cases hv : rvalid l with
  | false =>
    rw [hv] at c1 hB
    rw [if_neg (by simp)] at hB
    rw [hB]
    refine pc_of_awp cx (fn := Try.f53) (c := _) Try.func53 rfl rfl (Nat.le_of_ble_eq_true rfl) ?_
    rw [Try.ntmps53]; refine Nav.imp ?_
    refine awp_region cx [] fun K hK => ?_
    simp [push_cast]
    repeat (refine And.intro (by clear hK; intros; first | omega | (simp_all; done) | (simp_all <;> omega)) ?_)
    refine hK _ ?_; clear hK K; refine Nav.imp ?_
    refine awp_region cx [(1, .p (.bool false))] fun K hK => ?_
    simp [push_cast, c1]
    repeat (refine And.intro (by clear hK; intros; first | omega | (simp_all; done) | (simp_all <;> omega)) ?_)
    refine hK _ ?_; clear hK K; refine Nav.imp ?_
    refine awp_cond (b := true) (by simp [push_cast]) (fun hb => ?_) (fun hb => ?_) <;> (refine Nav.imp ?_)
    · refine awp_region cx [] fun K hK => ?_
      simp [push_cast]
      repeat (refine And.intro (by clear hK; intros; first | omega | (simp_all; done) | (simp_all <;> omega)) ?_)
      refine hK _ ?_; clear hK K; refine Nav.imp ?_
      simp [push_cast]
    · simp at hb
  | true =>
    rw [hv] at c1 hB
    by_cases hk : 0 ≤ k ∧ k ≤ 1048576
    · rw [if_pos (by simp; omega)] at hB
      rw [hB]
      clear hB
      have e1 : ¬ k < 0 := by omega
      have e2 : ¬ 1048576 < k := by omega
      refine pc_of_awp cx (fn := Try.f53) (c := _) Try.func53 rfl rfl (Nat.le_of_ble_eq_true rfl) ?_
      rw [Try.ntmps53]; refine Nav.imp ?_
      refine awp_region cx [] fun K hK => ?_
      simp [push_cast]
      repeat (refine And.intro (by clear hK; intros; first | omega | (simp_all; done) | (simp_all <;> omega)) ?_)
      refine hK _ ?_; clear hK K; refine Nav.imp ?_
      refine awp_region cx [(1, .p (.bool true))] fun K hK => ?_
      simp [push_cast, c1]
      repeat (refine And.intro (by clear hK; intros; first | omega | (simp_all; done) | (simp_all <;> omega)) ?_)
      refine hK _ ?_; clear hK K; refine Nav.imp ?_
      refine awp_cond (b := false) (by simp [push_cast, e1, e2]) (fun hb => ?_) (fun hb => ?_) <;> (refine Nav.imp ?_)
      · simp at hb
      · refine awp_region cx [] fun K hK => ?_
        simp [push_cast]
        repeat (refine And.intro (by clear hK; intros; first | omega | (simp_all; done) | (simp_all <;> omega)) ?_)
        refine hK _ ?_; clear hK K; refine Nav.imp ?_
        refine awp_region cx [] fun K hK => ?_
        simp [push_cast]
        repeat (refine And.intro (by clear hK; intros; first | omega | (simp_all; done) | (simp_all <;> omega)) ?_)
        refine hK _ ?_; clear hK K; refine Nav.imp ?_
        refine awp_loop (β := Nat × List Run) (fun s => ⟨48, [(1, .d (.int .i64 k)), (5, .hs 0 0 s.2.length), (19, .d (encRuns l)), (20, .d (.int .i64 l.length)), (21, .d (.int .i64 s.1))], [(0, some ⟨56, 2, dr (s.2.map Run.row)⟩)], 1⟩) (fun s => s.1 ≤ l.length ∧ s.2 = shrK k (l.take s.1)) (fun s => l.length - s.1) (0, []) ?_ ⟨Nat.zero_le _, by simp [shrK]⟩ ?_
        · refine weak_of [(0, none)] rfl (by simp [upT, up, upL, push_cast]) (by simp [upH, upR, upL, up, push_cast]) (by simp [namesOk, push_cast]) (by simp [olds])
        · rintro ⟨i, Z⟩ ⟨hi, hZ⟩
          simp only at hi hZ
          refine Nav.imp ?_
          refine awp_region cx [] fun K hK => ?_
          simp [push_cast]
          repeat (refine And.intro (by clear hK; intros; first | omega | (simp_all; done) | (simp_all <;> omega)) ?_)
          refine hK _ ?_; clear hK K; refine Nav.imp ?_
          refine awp_cond (b := decide ((i : Int) < l.length)) (by simp [push_cast]) (fun hb => ?_) (fun hb => ?_) <;> (refine Nav.imp ?_)
          · have hlt : i < l.length := by simpa using hb
            obtain ⟨r, hr⟩ := getq hlt
            have e0 := wrap_i64 (n := (i : Int) + 1) (by omega) (by omega)
            have hbd := fitsB_bd (rvalid_at hv hr).2
            have hZl : Z.length ≤ 1000000 := by
              have := flat_one_len (shrRun_len k) (l.take i)
              rw [hZ]; unfold shrK; rw [List.length_take] at this; omega
            have hZ16 : (Z.length + 1) * 16 ≤ 140737488355328 := by omega
            have hnx : shrK k (l.take (i + 1)) = Z ++ shrRun k r := by rw [hZ]; exact flat_take _ hr
            obtain ⟨ra, rb⟩ := r
            simp only [shrRun] at hnx hbd
            have w1 := wrap_i64 (n := ra + k) (by omega) (by omega)
            have w2 := wrap_i64 (n := rb - k) (by omega) (by omega)
            refine awp_region cx [] fun K hK => ?_
            simp [push_cast, hr, Run.row]
            repeat (refine And.intro (by clear hK; intros; first | omega | (simp_all; done) | (simp_all <;> omega)) ?_)
            refine hK _ ?_; clear hK K; refine Nav.imp ?_
            refine awp_region cx [] fun K hK => ?_
            simp [push_cast, w1, w2]
            repeat (refine And.intro (by clear hK; intros; first | omega | (simp_all; done) | (simp_all <;> omega)) ?_)
            refine hK _ ?_; clear hK K; refine Nav.imp ?_
            refine awp_cond (b := decide (ra + k < rb - k)) (by simp [push_cast]) (fun hb => ?_) (fun hb => ?_) <;> (refine Nav.imp ?_)
            · have hb : ra + k < rb - k := by simpa using hb
              rw [if_pos hb] at hnx
              refine awp_region cx [] fun K hK => ?_
              simp [push_cast, w1, w2, hZ16]
              repeat (refine And.intro (by clear hK; intros; first | omega | (simp_all; done) | (simp_all <;> omega)) ?_)
              refine hK _ ?_; clear hK K; refine Nav.imp ?_
              refine awp_region cx [] fun K hK => ?_
              simp [push_cast, e0]
              repeat (refine And.intro (by clear hK; intros; first | omega | (simp_all; done) | (simp_all <;> omega)) ?_)
              refine hK _ ?_; clear hK K; refine Nav.imp ?_
              refine ⟨(i + 1, Z ++ [⟨ra + k, rb - k⟩]), ⟨hlt, hnx.symm⟩, by simp only; omega, ?_⟩
              refine weak_of [(0, some 26)] rfl (by simp [upT, up, upL, push_cast, Run.row]) (by simp [upH, upR, upL, up, push_cast, Run.row]) (by simp [namesOk, push_cast]) (by simp [olds])
            · have hb : ¬ ra + k < rb - k := by simpa using hb
              rw [if_neg hb, List.append_nil] at hnx
              refine awp_region cx [] fun K hK => ?_
              simp [push_cast, e0]
              repeat (refine And.intro (by clear hK; intros; first | omega | (simp_all; done) | (simp_all <;> omega)) ?_)
              refine hK _ ?_; clear hK K; refine Nav.imp ?_
              refine ⟨(i + 1, Z), ⟨hlt, hnx.symm⟩, by simp only; omega, ?_⟩
              refine weak_of [(0, some 0)] rfl (by simp [upT, up, upL, push_cast]) (by simp [upH, upR, upL, up, push_cast]) (by simp [namesOk, push_cast]) (by simp [olds])
          · have hge : i = l.length := by simp at hb; omega
            subst hge
            rw [List.take_length] at hZ
            rw [← hZ]
            refine awp_region cx [] fun K hK => ?_
            simp [push_cast]
            repeat (refine And.intro (by clear hK; intros; first | omega | (simp_all; done) | (simp_all <;> omega)) ?_)
            refine hK _ ?_; clear hK K; refine Nav.imp ?_
            have ht : List.take Z.length (Z.map Run.row) = Z.map Run.row := List.take_of_length_le (by simp)
            simp [push_cast, ht]
    · rw [if_neg (by simp; omega)] at hB
      rw [hB]
      have e : (decide (k < 0) || decide (1048576 < k)) = true := by simp; omega
      refine pc_of_awp cx (fn := Try.f53) (c := _) Try.func53 rfl rfl (Nat.le_of_ble_eq_true rfl) ?_
      rw [Try.ntmps53]; refine Nav.imp ?_
      refine awp_region cx [] fun K hK => ?_
      simp [push_cast]
      repeat (refine And.intro (by clear hK; intros; first | omega | (simp_all; done) | (simp_all <;> omega)) ?_)
      refine hK _ ?_; clear hK K; refine Nav.imp ?_
      refine awp_region cx [(1, .p (.bool true))] fun K hK => ?_
      simp [push_cast, c1]
      repeat (refine And.intro (by clear hK; intros; first | omega | (simp_all; done) | (simp_all <;> omega)) ?_)
      refine hK _ ?_; clear hK K; refine Nav.imp ?_
      refine awp_cond (b := true) (by simp [push_cast, e]) (fun hb => ?_) (fun hb => ?_) <;> (refine Nav.imp ?_)
      · refine awp_region cx [] fun K hK => ?_
        simp [push_cast]
        repeat (refine And.intro (by clear hK; intros; first | omega | (simp_all; done) | (simp_all <;> omega)) ?_)
        refine hK _ ?_; clear hK K; refine Nav.imp ?_
        simp [push_cast]
      · simp at hb
end Go.Proofs.Ytagakfaiimaifaa
