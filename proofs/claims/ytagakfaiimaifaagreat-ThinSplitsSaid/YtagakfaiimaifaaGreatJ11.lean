/-
  Texts of this seat put together: X6, Y2, Y3, Y4, X8, X7, Y5.
-/
import Derived.Test.YtagakfaiimaifaaGreatJ9
import Derived.Test.YtagakfaiimaifaaGreatJ10
import Derived.Test.YtagakfaiimaifaaGreatJ4
import Derived.Test.YtagakfaiimaifaaGreatJ5
set_option linter.unusedVariables false
set_option linter.unusedSimpArgs false
set_option maxRecDepth 100000
namespace Go.Proofs.YtagakfaiimaifaaGreat
open Go.Abs

/-! Cells of a region, looked for. -/
def hitB (x : Int) (r : Run) : Bool := decide (r.a ≤ x) && decide (x < r.b)
def conB (R : List Row) (c : Cell) : Bool := validR R && inR (rowOf R c.y) c.x
theorem conB_mem {R : List Row} (h : validR R = true) (c : Cell) : conB R c = decide (c ∈ regCells R) := by
  unfold conB
  rw [h, Bool.true_and, Bool.eq_iff_iff, decide_eq_true_eq]
  exact (rowOf_in h c).symm
theorem tw_len : ∀ {l : List Run} {k : Nat} {x : Int} {r : Run}, (∀ q ∈ l.take k, hitB x q = false) → l[k]? = some r → hitB x r = true → (l.takeWhile fun q => !hitB x q).length = k
  | [], k, x, r, _, h, _ => by simp at h
  | q :: l, 0, x, r, _, h, hr => by simp at h; subst h; simp [hr]
  | q :: l, k + 1, x, r, hp, h, hr => by
    have hq := hp q (by simp)
    have := tw_len (l := l) (k := k) (x := x) (r := r) (fun s hs => hp s (by simp [hs])) (by simpa using h) hr
    simp [hq, this]
theorem find_at : ∀ {R : List Row} {k : Nat} {y : Int} {w : Row}, (∀ v ∈ R.take k, v.y ≠ y) → R[k]? = some w → w.y = y → rowOf R y = w.runs
  | [], k, y, w, _, h, _ => by simp at h
  | v :: R, 0, y, w, _, h, hw => by simp at h; subst h; simp [rowOf, hw]
  | v :: R, k + 1, y, w, hp, h, hw => by
    have hv := hp v (by simp)
    have := find_at (R := R) (k := k) (y := y) (w := w) (fun s hs => hp s (by simp [hs])) (by simpa using h) hw
    simpa [rowOf, hv] using this
def idxR (l : List Run) (x : Int) : Int := if inR l x then ((l.takeWhile fun q => !hitB x q).length : Nat) else -1





theorem inside18_ok (l : List Run) (x : Int) (hl : l.length ≤ 1000000) : PC Tryz.prog 128 [encRuns l, .int .i64 x] (.p (.bool (inR l x))) := by
  refine pc_of_awp cx (fn := Tryz.f128) (c := _) Tryz.func128 rfl rfl (Nat.le_of_ble_eq_true rfl) ?_
  rw [Tryz.ntmps128]; refine Nav.imp ?_
  refine awp_region cx [] fun K hK => ?_
  simp [push_cast]
  repeat (refine And.intro (by clear hK; intros; first | omega | (simp_all; done) | (simp_all <;> omega)) ?_)
  refine hK _ ?_; clear hK K; refine Nav.imp ?_
  refine awp_region cx [] fun K hK => ?_
  simp [push_cast]
  repeat (refine And.intro (by clear hK; intros; first | omega | (simp_all; done) | (simp_all <;> omega)) ?_)
  refine hK _ ?_; clear hK K; refine Nav.imp ?_
  refine awp_loop (β := Nat) (fun k => ⟨28, [(0, .d (encRuns l)), (1, .d (.int .i64 x)), (5, .d (.int .i64 k))], [], 0⟩) (fun k => k ≤ l.length ∧ ∀ q ∈ l.take k, hitB x q = false) (fun k => l.length - k) 0 ?_ ⟨Nat.zero_le _, by simp⟩ ?_
  · refine weak_of [] rfl (by simp [upT, up, upL, push_cast]) (by simp [upH, upR, upL, up, push_cast]) (by simp [namesOk, push_cast]) (by simp [olds])
  · rintro k ⟨hk, hno⟩
    refine Nav.imp ?_
    refine awp_region cx [] fun K hK => ?_
    simp [push_cast]
    repeat (refine And.intro (by clear hK; intros; first | omega | (simp_all; done) | (simp_all <;> omega)) ?_)
    refine hK _ ?_; clear hK K; refine Nav.imp ?_
    refine awp_cond (b := decide ((k : Int) < l.length)) (by simp [push_cast]) (fun hb => ?_) (fun hb => ?_) <;> (refine Nav.imp ?_)
    · have hlt : k < l.length := by simpa using hb
      obtain ⟨r, hr⟩ := getq hlt
      have hrm := List.mem_of_getElem? hr
      have e0 := wrap_i64 (n := (k : Int) + 1) (by omega) (by omega)
      obtain ⟨ra, rb⟩ := r
      refine awp_region cx [] fun K hK => ?_
      simp [push_cast, hr, Run.row]
      repeat (refine And.intro (by clear hK; intros; first | omega | (simp_all; done) | (simp_all <;> omega)) ?_)
      refine hK _ ?_; clear hK K; refine Nav.imp ?_
      refine awp_cond (by simp [push_cast] <;> exact rfl) (fun hb => ?_) (fun hb => ?_) <;> (refine Nav.imp ?_)
      · have hi : inR l x = true := inR_iff.2 ⟨_, hrm, by simpa using hb⟩
        refine awp_region cx [] fun K hK => ?_
        simp [push_cast]
        repeat (refine And.intro (by clear hK; intros; first | omega | (simp_all; done) | (simp_all <;> omega)) ?_)
        refine hK _ ?_; clear hK K; refine Nav.imp ?_
        simp [push_cast, hi]
      · have hv : hitB x ⟨ra, rb⟩ = false := by
          rw [Bool.eq_false_iff]; intro h; simp [hitB] at h; simp [h] at hb
        refine awp_region cx [] fun K hK => ?_
        simp [push_cast, e0]
        repeat (refine And.intro (by clear hK; intros; first | omega | (simp_all; done) | (simp_all <;> omega)) ?_)
        refine hK _ ?_; clear hK K; refine Nav.imp ?_
        refine ⟨k + 1, ⟨hlt, fun q hq => ?_⟩, by omega, ?_⟩
        · rw [take_get hr] at hq
          rcases List.mem_append.1 hq with hq | hq
          · exact hno q hq
          · simp at hq; subst hq; exact hv
        · refine weak_of [] rfl (by simp [upT, up, upL, push_cast]) (by simp [upH, upR, upL, up, push_cast]) (by simp [namesOk, push_cast]) (by simp [olds])
    · have hge : k = l.length := by simp at hb; omega
      subst hge
      rw [List.take_length] at hno
      have h1 : inR l x = false := by
        rw [Bool.eq_false_iff]
        intro h
        obtain ⟨r, hr, h2, h3⟩ := inR_iff.1 h
        have := hno r hr
        simp [hitB, h2, h3] at this
      rw [h1]
      refine awp_region cx [] fun K hK => ?_
      simp [push_cast]
      repeat (refine And.intro (by clear hK; intros; first | omega | (simp_all; done) | (simp_all <;> omega)) ?_)
      refine hK _ ?_; clear hK K; refine Nav.imp ?_
      simp [push_cast]

theorem row18_ok (R : List Row) (y : Int) (hR : smallR R) : PC Tryz.prog 129 [.agg (regRow R), .int .i64 y] (.p (encRuns (rowOf R y))) := by
  have hl := hR.1
  refine pc_of_awp cx (fn := Tryz.f129) (c := _) Tryz.func129 rfl rfl (Nat.le_of_ble_eq_true rfl) ?_
  rw [Tryz.ntmps129]; refine Nav.imp ?_
  refine awp_region cx [] fun K hK => ?_
  simp [push_cast]
  repeat (refine And.intro (by clear hK; intros; first | omega | (simp_all; done) | (simp_all <;> omega)) ?_)
  refine hK _ ?_; clear hK K; refine Nav.imp ?_
  refine awp_region cx [] fun K hK => ?_
  simp [push_cast]
  repeat (refine And.intro (by clear hK; intros; first | omega | (simp_all; done) | (simp_all <;> omega)) ?_)
  refine hK _ ?_; clear hK K; refine Nav.imp ?_
  refine awp_loop (β := Nat) (fun k => ⟨27, [(1, .d (.int .i64 y)), (2, .ptr 0 0 0), (5, .d (.int .i64 k))], [(0, some ⟨24, 1, [(regRow R).map .d]⟩)], 1⟩) (fun k => k ≤ R.length ∧ ∀ v ∈ R.take k, v.y ≠ y) (fun k => R.length - k) 0 ?_ ⟨Nat.zero_le _, by simp⟩ ?_
  · refine weak_of [(0, some 0)] rfl (by simp [upT, up, upL, push_cast]) (by simp [upH, upR, upL, up, push_cast]) (by simp [namesOk, push_cast]) (by simp [olds])
  · rintro k ⟨hk, hno⟩
    refine Nav.imp ?_
    refine awp_region cx [] fun K hK => ?_
    simp [push_cast]
    repeat (refine And.intro (by clear hK; intros; first | omega | (simp_all; done) | (simp_all <;> omega)) ?_)
    refine hK _ ?_; clear hK K; refine Nav.imp ?_
    refine awp_cond (b := decide ((k : Int) < R.length)) (by simp [push_cast]) (fun hb => ?_) (fun hb => ?_) <;> (refine Nav.imp ?_)
    · have hlt : k < R.length := by simpa using hb
      obtain ⟨w, hw⟩ := getq hlt
      have e0 := wrap_i64 (n := (k : Int) + 1) (by omega) (by omega)
      have hfa := @find_at R k y w hno hw
      obtain ⟨wy, wr⟩ := w
      simp only at hfa
      refine awp_region cx [] fun K hK => ?_
      simp [push_cast, hw, Row.row]
      repeat (refine And.intro (by clear hK; intros; first | omega | (simp_all; done) | (simp_all <;> omega)) ?_)
      refine hK _ ?_; clear hK K; refine Nav.imp ?_
      refine awp_cond (b := wy == y) (by simp [push_cast]) (fun hb => ?_) (fun hb => ?_) <;> (refine Nav.imp ?_)
      · have hb : wy = y := by simpa using hb
        rw [hfa hb]
        refine awp_region cx [] fun K hK => ?_
        simp [push_cast, hw, Row.row]
        repeat (refine And.intro (by clear hK; intros; first | omega | (simp_all; done) | (simp_all <;> omega)) ?_)
        refine hK _ ?_; clear hK K; refine Nav.imp ?_
        simp [push_cast]
      · have hb : ¬ wy = y := by simpa using hb
        refine awp_region cx [] fun K hK => ?_
        simp [push_cast, e0]
        repeat (refine And.intro (by clear hK; intros; first | omega | (simp_all; done) | (simp_all <;> omega)) ?_)
        refine hK _ ?_; clear hK K; refine Nav.imp ?_
        refine ⟨k + 1, ⟨hlt, fun q hq => ?_⟩, by omega, ?_⟩
        · rw [take_get hw] at hq
          rcases List.mem_append.1 hq with hq | hq
          · exact hno q hq
          · simp at hq; subst hq; exact hb
        · refine weak_of [(0, some 0)] rfl (by simp [upT, up, upL, push_cast]) (by simp [upH, upR, upL, up, push_cast]) (by simp [namesOk, push_cast]) (by simp [olds])
    · have hge : k = R.length := by simp at hb; omega
      subst hge
      rw [List.take_length] at hno
      rw [rowOf_none hno]
      refine awp_region cx [] fun K hK => ?_
      simp [push_cast]
      repeat (refine And.intro (by clear hK; intros; first | omega | (simp_all; done) | (simp_all <;> omega)) ?_)
      refine hK _ ?_; clear hK K; refine Nav.imp ?_
      simp [push_cast]


theorem contains18_ok (R : List Row) (c : Cell) (hR : smallR R) : PC Tryz.prog 85 [.agg (regRow R), .agg c.row] (.p (.bool (conB R c))) := by
  have c1 := validR_ok R hR
  obtain ⟨x, y⟩ := c
  have hC : conB R ⟨x, y⟩ = (validR R && inR (rowOf R y) x) := rfl
  rw [hC]
  clear hC
  cases hv : validR R with
  | false =>
    rw [hv] at c1
    refine pc_of_awp cx (fn := Tryz.f85) (c := _) Tryz.func85 rfl rfl (Nat.le_of_ble_eq_true rfl) ?_
    rw [Tryz.ntmps85]; refine Nav.imp ?_
    refine awp_region cx [] fun K hK => ?_
    simp [push_cast]
    repeat (refine And.intro (by clear hK; intros; first | omega | (simp_all; done) | (simp_all <;> omega)) ?_)
    refine hK _ ?_; clear hK K; refine Nav.imp ?_
    refine awp_region_draw cx mixed [(1, .p (.bool false)), (6, .skip), (9, .skip)] fun K hK => ?_
    simp [push_cast, c1]
    repeat (refine And.intro (by clear hK; intros; first | omega | (simp_all; done) | (simp_all <;> omega)) ?_)
    refine hK _ _ (by kernel_rfl) ?_; clear hK K; refine Nav.imp ?_
    simp [push_cast]
  | true =>
    rw [hv] at c1
    have hlr : (rowOf R y).length ≤ 1000000 := by
      unfold rowOf
      split
      · rename_i w h; exact hR.2 w (List.mem_of_find?_eq_some h)
      · simp
    have c2 := row18_ok R y hR
    have c3 := inside18_ok (rowOf R y) x hlr
    generalize inR (rowOf R y) x = v at *
    generalize rowOf R y = r at *
    refine pc_of_awp cx (fn := Tryz.f85) (c := _) Tryz.func85 rfl rfl (Nat.le_of_ble_eq_true rfl) ?_
    rw [Tryz.ntmps85]; refine Nav.imp ?_
    refine awp_region cx [] fun K hK => ?_
    simp [push_cast]
    repeat (refine And.intro (by clear hK; intros; first | omega | (simp_all; done) | (simp_all <;> omega)) ?_)
    refine hK _ ?_; clear hK K; refine Nav.imp ?_
    refine awp_region_draw cx mixed [(1, .p (.bool true)), (6, .p (encRuns r)), (9, .p (.bool v))] fun K hK => ?_
    simp [push_cast, c1, c2, c3]
    repeat (refine And.intro (by clear hK; intros; first | omega | (simp_all; done) | (simp_all <;> omega)) ?_)
    refine hK _ _ (by kernel_rfl) ?_; clear hK K; refine Nav.imp ?_
    simp [push_cast]
end Go.Proofs.YtagakfaiimaifaaGreat

set_option linter.unusedVariables false
set_option linter.unusedSimpArgs false
set_option maxRecDepth 100000
namespace Go.Proofs.YtagakfaiimaifaaGreat
open Go.Abs

theorem keptU (x y : Bool) : PC Tryz.prog 159 [.int .i64 0, .bool x, .bool y] (.p (.bool (fU x y))) := by
  cases x <;> cases y
  · refine pc_of_awp cx (fn := Tryz.f159) (c := _) Tryz.func159 rfl rfl (Nat.le_of_ble_eq_true rfl) ?_
    rw [Tryz.ntmps159]; refine Nav.imp ?_
    refine awp_region cx [] fun K hK => ?_
    simp [push_cast]
    repeat (refine And.intro (by clear hK; intros; first | omega | (simp_all; done) | (simp_all <;> omega)) ?_)
    refine hK _ ?_; clear hK K; refine Nav.imp ?_
    refine awp_region cx [] fun K hK => ?_
    simp [push_cast]
    repeat (refine And.intro (by clear hK; intros; first | omega | (simp_all; done) | (simp_all <;> omega)) ?_)
    refine hK _ ?_; clear hK K; refine Nav.imp ?_
    refine awp_region cx [] fun K hK => ?_
    simp [push_cast]
    repeat (refine And.intro (by clear hK; intros; first | omega | (simp_all; done) | (simp_all <;> omega)) ?_)
    refine hK _ ?_; clear hK K; refine Nav.imp ?_
    refine awp_cond (b := true) (by simp [push_cast]) (fun hb => ?_) (fun hb => ?_) <;> (refine Nav.imp ?_)
    · refine awp_region cx [] fun K hK => ?_
      simp [push_cast]
      repeat (refine And.intro (by clear hK; intros; first | omega | (simp_all; done) | (simp_all <;> omega)) ?_)
      refine hK _ ?_; clear hK K; refine Nav.imp ?_
      simp [push_cast, fU]
    · simp at hb
  · refine pc_of_awp cx (fn := Tryz.f159) (c := _) Tryz.func159 rfl rfl (Nat.le_of_ble_eq_true rfl) ?_
    rw [Tryz.ntmps159]; refine Nav.imp ?_
    refine awp_region cx [] fun K hK => ?_
    simp [push_cast]
    repeat (refine And.intro (by clear hK; intros; first | omega | (simp_all; done) | (simp_all <;> omega)) ?_)
    refine hK _ ?_; clear hK K; refine Nav.imp ?_
    refine awp_region cx [] fun K hK => ?_
    simp [push_cast]
    repeat (refine And.intro (by clear hK; intros; first | omega | (simp_all; done) | (simp_all <;> omega)) ?_)
    refine hK _ ?_; clear hK K; refine Nav.imp ?_
    refine awp_region cx [] fun K hK => ?_
    simp [push_cast]
    repeat (refine And.intro (by clear hK; intros; first | omega | (simp_all; done) | (simp_all <;> omega)) ?_)
    refine hK _ ?_; clear hK K; refine Nav.imp ?_
    refine awp_cond (b := true) (by simp [push_cast]) (fun hb => ?_) (fun hb => ?_) <;> (refine Nav.imp ?_)
    · refine awp_region cx [] fun K hK => ?_
      simp [push_cast]
      repeat (refine And.intro (by clear hK; intros; first | omega | (simp_all; done) | (simp_all <;> omega)) ?_)
      refine hK _ ?_; clear hK K; refine Nav.imp ?_
      simp [push_cast, fU]
    · simp at hb
  · refine pc_of_awp cx (fn := Tryz.f159) (c := _) Tryz.func159 rfl rfl (Nat.le_of_ble_eq_true rfl) ?_
    rw [Tryz.ntmps159]; refine Nav.imp ?_
    refine awp_region cx [] fun K hK => ?_
    simp [push_cast]
    repeat (refine And.intro (by clear hK; intros; first | omega | (simp_all; done) | (simp_all <;> omega)) ?_)
    refine hK _ ?_; clear hK K; refine Nav.imp ?_
    refine awp_region cx [] fun K hK => ?_
    simp [push_cast]
    repeat (refine And.intro (by clear hK; intros; first | omega | (simp_all; done) | (simp_all <;> omega)) ?_)
    refine hK _ ?_; clear hK K; refine Nav.imp ?_
    refine awp_region cx [] fun K hK => ?_
    simp [push_cast]
    repeat (refine And.intro (by clear hK; intros; first | omega | (simp_all; done) | (simp_all <;> omega)) ?_)
    refine hK _ ?_; clear hK K; refine Nav.imp ?_
    refine awp_cond (b := true) (by simp [push_cast]) (fun hb => ?_) (fun hb => ?_) <;> (refine Nav.imp ?_)
    · refine awp_region cx [] fun K hK => ?_
      simp [push_cast]
      repeat (refine And.intro (by clear hK; intros; first | omega | (simp_all; done) | (simp_all <;> omega)) ?_)
      refine hK _ ?_; clear hK K; refine Nav.imp ?_
      simp [push_cast, fU]
    · simp at hb
  · refine pc_of_awp cx (fn := Tryz.f159) (c := _) Tryz.func159 rfl rfl (Nat.le_of_ble_eq_true rfl) ?_
    rw [Tryz.ntmps159]; refine Nav.imp ?_
    refine awp_region cx [] fun K hK => ?_
    simp [push_cast]
    repeat (refine And.intro (by clear hK; intros; first | omega | (simp_all; done) | (simp_all <;> omega)) ?_)
    refine hK _ ?_; clear hK K; refine Nav.imp ?_
    refine awp_region cx [] fun K hK => ?_
    simp [push_cast]
    repeat (refine And.intro (by clear hK; intros; first | omega | (simp_all; done) | (simp_all <;> omega)) ?_)
    refine hK _ ?_; clear hK K; refine Nav.imp ?_
    refine awp_region cx [] fun K hK => ?_
    simp [push_cast]
    repeat (refine And.intro (by clear hK; intros; first | omega | (simp_all; done) | (simp_all <;> omega)) ?_)
    refine hK _ ?_; clear hK K; refine Nav.imp ?_
    refine awp_cond (b := true) (by simp [push_cast]) (fun hb => ?_) (fun hb => ?_) <;> (refine Nav.imp ?_)
    · refine awp_region cx [] fun K hK => ?_
      simp [push_cast]
      repeat (refine And.intro (by clear hK; intros; first | omega | (simp_all; done) | (simp_all <;> omega)) ?_)
      refine hK _ ?_; clear hK K; refine Nav.imp ?_
      simp [push_cast, fU]
    · simp at hb
theorem keptI (x y : Bool) : PC Tryz.prog 159 [.int .i64 1, .bool x, .bool y] (.p (.bool (fI x y))) := by
  cases x <;> cases y
  · refine pc_of_awp cx (fn := Tryz.f159) (c := _) Tryz.func159 rfl rfl (Nat.le_of_ble_eq_true rfl) ?_
    rw [Tryz.ntmps159]; refine Nav.imp ?_
    refine awp_region cx [] fun K hK => ?_
    simp [push_cast]
    repeat (refine And.intro (by clear hK; intros; first | omega | (simp_all; done) | (simp_all <;> omega)) ?_)
    refine hK _ ?_; clear hK K; refine Nav.imp ?_
    refine awp_region cx [] fun K hK => ?_
    simp [push_cast]
    repeat (refine And.intro (by clear hK; intros; first | omega | (simp_all; done) | (simp_all <;> omega)) ?_)
    refine hK _ ?_; clear hK K; refine Nav.imp ?_
    refine awp_region cx [] fun K hK => ?_
    simp [push_cast]
    repeat (refine And.intro (by clear hK; intros; first | omega | (simp_all; done) | (simp_all <;> omega)) ?_)
    refine hK _ ?_; clear hK K; refine Nav.imp ?_
    refine awp_cond (b := false) (by simp [push_cast]) (fun hb => ?_) (fun hb => ?_) <;> (refine Nav.imp ?_)
    · simp at hb
    · refine awp_region cx [] fun K hK => ?_
      simp [push_cast]
      repeat (refine And.intro (by clear hK; intros; first | omega | (simp_all; done) | (simp_all <;> omega)) ?_)
      refine hK _ ?_; clear hK K; refine Nav.imp ?_
      refine awp_cond (b := true) (by simp [push_cast]) (fun hb => ?_) (fun hb => ?_) <;> (refine Nav.imp ?_)
      · refine awp_region cx [] fun K hK => ?_
        simp [push_cast]
        repeat (refine And.intro (by clear hK; intros; first | omega | (simp_all; done) | (simp_all <;> omega)) ?_)
        refine hK _ ?_; clear hK K; refine Nav.imp ?_
        simp [push_cast, fI]
      · simp at hb
  · refine pc_of_awp cx (fn := Tryz.f159) (c := _) Tryz.func159 rfl rfl (Nat.le_of_ble_eq_true rfl) ?_
    rw [Tryz.ntmps159]; refine Nav.imp ?_
    refine awp_region cx [] fun K hK => ?_
    simp [push_cast]
    repeat (refine And.intro (by clear hK; intros; first | omega | (simp_all; done) | (simp_all <;> omega)) ?_)
    refine hK _ ?_; clear hK K; refine Nav.imp ?_
    refine awp_region cx [] fun K hK => ?_
    simp [push_cast]
    repeat (refine And.intro (by clear hK; intros; first | omega | (simp_all; done) | (simp_all <;> omega)) ?_)
    refine hK _ ?_; clear hK K; refine Nav.imp ?_
    refine awp_region cx [] fun K hK => ?_
    simp [push_cast]
    repeat (refine And.intro (by clear hK; intros; first | omega | (simp_all; done) | (simp_all <;> omega)) ?_)
    refine hK _ ?_; clear hK K; refine Nav.imp ?_
    refine awp_cond (b := false) (by simp [push_cast]) (fun hb => ?_) (fun hb => ?_) <;> (refine Nav.imp ?_)
    · simp at hb
    · refine awp_region cx [] fun K hK => ?_
      simp [push_cast]
      repeat (refine And.intro (by clear hK; intros; first | omega | (simp_all; done) | (simp_all <;> omega)) ?_)
      refine hK _ ?_; clear hK K; refine Nav.imp ?_
      refine awp_cond (b := true) (by simp [push_cast]) (fun hb => ?_) (fun hb => ?_) <;> (refine Nav.imp ?_)
      · refine awp_region cx [] fun K hK => ?_
        simp [push_cast]
        repeat (refine And.intro (by clear hK; intros; first | omega | (simp_all; done) | (simp_all <;> omega)) ?_)
        refine hK _ ?_; clear hK K; refine Nav.imp ?_
        simp [push_cast, fI]
      · simp at hb
  · refine pc_of_awp cx (fn := Tryz.f159) (c := _) Tryz.func159 rfl rfl (Nat.le_of_ble_eq_true rfl) ?_
    rw [Tryz.ntmps159]; refine Nav.imp ?_
    refine awp_region cx [] fun K hK => ?_
    simp [push_cast]
    repeat (refine And.intro (by clear hK; intros; first | omega | (simp_all; done) | (simp_all <;> omega)) ?_)
    refine hK _ ?_; clear hK K; refine Nav.imp ?_
    refine awp_region cx [] fun K hK => ?_
    simp [push_cast]
    repeat (refine And.intro (by clear hK; intros; first | omega | (simp_all; done) | (simp_all <;> omega)) ?_)
    refine hK _ ?_; clear hK K; refine Nav.imp ?_
    refine awp_region cx [] fun K hK => ?_
    simp [push_cast]
    repeat (refine And.intro (by clear hK; intros; first | omega | (simp_all; done) | (simp_all <;> omega)) ?_)
    refine hK _ ?_; clear hK K; refine Nav.imp ?_
    refine awp_cond (b := false) (by simp [push_cast]) (fun hb => ?_) (fun hb => ?_) <;> (refine Nav.imp ?_)
    · simp at hb
    · refine awp_region cx [] fun K hK => ?_
      simp [push_cast]
      repeat (refine And.intro (by clear hK; intros; first | omega | (simp_all; done) | (simp_all <;> omega)) ?_)
      refine hK _ ?_; clear hK K; refine Nav.imp ?_
      refine awp_cond (b := true) (by simp [push_cast]) (fun hb => ?_) (fun hb => ?_) <;> (refine Nav.imp ?_)
      · refine awp_region cx [] fun K hK => ?_
        simp [push_cast]
        repeat (refine And.intro (by clear hK; intros; first | omega | (simp_all; done) | (simp_all <;> omega)) ?_)
        refine hK _ ?_; clear hK K; refine Nav.imp ?_
        simp [push_cast, fI]
      · simp at hb
  · refine pc_of_awp cx (fn := Tryz.f159) (c := _) Tryz.func159 rfl rfl (Nat.le_of_ble_eq_true rfl) ?_
    rw [Tryz.ntmps159]; refine Nav.imp ?_
    refine awp_region cx [] fun K hK => ?_
    simp [push_cast]
    repeat (refine And.intro (by clear hK; intros; first | omega | (simp_all; done) | (simp_all <;> omega)) ?_)
    refine hK _ ?_; clear hK K; refine Nav.imp ?_
    refine awp_region cx [] fun K hK => ?_
    simp [push_cast]
    repeat (refine And.intro (by clear hK; intros; first | omega | (simp_all; done) | (simp_all <;> omega)) ?_)
    refine hK _ ?_; clear hK K; refine Nav.imp ?_
    refine awp_region cx [] fun K hK => ?_
    simp [push_cast]
    repeat (refine And.intro (by clear hK; intros; first | omega | (simp_all; done) | (simp_all <;> omega)) ?_)
    refine hK _ ?_; clear hK K; refine Nav.imp ?_
    refine awp_cond (b := false) (by simp [push_cast]) (fun hb => ?_) (fun hb => ?_) <;> (refine Nav.imp ?_)
    · simp at hb
    · refine awp_region cx [] fun K hK => ?_
      simp [push_cast]
      repeat (refine And.intro (by clear hK; intros; first | omega | (simp_all; done) | (simp_all <;> omega)) ?_)
      refine hK _ ?_; clear hK K; refine Nav.imp ?_
      refine awp_cond (b := true) (by simp [push_cast]) (fun hb => ?_) (fun hb => ?_) <;> (refine Nav.imp ?_)
      · refine awp_region cx [] fun K hK => ?_
        simp [push_cast]
        repeat (refine And.intro (by clear hK; intros; first | omega | (simp_all; done) | (simp_all <;> omega)) ?_)
        refine hK _ ?_; clear hK K; refine Nav.imp ?_
        simp [push_cast, fI]
      · simp at hb
theorem keptD (x y : Bool) : PC Tryz.prog 159 [.int .i64 2, .bool x, .bool y] (.p (.bool (fD x y))) := by
  cases x <;> cases y
  · refine pc_of_awp cx (fn := Tryz.f159) (c := _) Tryz.func159 rfl rfl (Nat.le_of_ble_eq_true rfl) ?_
    rw [Tryz.ntmps159]; refine Nav.imp ?_
    refine awp_region cx [] fun K hK => ?_
    simp [push_cast]
    repeat (refine And.intro (by clear hK; intros; first | omega | (simp_all; done) | (simp_all <;> omega)) ?_)
    refine hK _ ?_; clear hK K; refine Nav.imp ?_
    refine awp_region cx [] fun K hK => ?_
    simp [push_cast]
    repeat (refine And.intro (by clear hK; intros; first | omega | (simp_all; done) | (simp_all <;> omega)) ?_)
    refine hK _ ?_; clear hK K; refine Nav.imp ?_
    refine awp_region cx [] fun K hK => ?_
    simp [push_cast]
    repeat (refine And.intro (by clear hK; intros; first | omega | (simp_all; done) | (simp_all <;> omega)) ?_)
    refine hK _ ?_; clear hK K; refine Nav.imp ?_
    refine awp_cond (b := false) (by simp [push_cast]) (fun hb => ?_) (fun hb => ?_) <;> (refine Nav.imp ?_)
    · simp at hb
    · refine awp_region cx [] fun K hK => ?_
      simp [push_cast]
      repeat (refine And.intro (by clear hK; intros; first | omega | (simp_all; done) | (simp_all <;> omega)) ?_)
      refine hK _ ?_; clear hK K; refine Nav.imp ?_
      refine awp_cond (b := false) (by simp [push_cast]) (fun hb => ?_) (fun hb => ?_) <;> (refine Nav.imp ?_)
      · simp at hb
      · refine awp_region cx [] fun K hK => ?_
        simp [push_cast]
        repeat (refine And.intro (by clear hK; intros; first | omega | (simp_all; done) | (simp_all <;> omega)) ?_)
        refine hK _ ?_; clear hK K; refine Nav.imp ?_
        simp [push_cast, fD]
  · refine pc_of_awp cx (fn := Tryz.f159) (c := _) Tryz.func159 rfl rfl (Nat.le_of_ble_eq_true rfl) ?_
    rw [Tryz.ntmps159]; refine Nav.imp ?_
    refine awp_region cx [] fun K hK => ?_
    simp [push_cast]
    repeat (refine And.intro (by clear hK; intros; first | omega | (simp_all; done) | (simp_all <;> omega)) ?_)
    refine hK _ ?_; clear hK K; refine Nav.imp ?_
    refine awp_region cx [] fun K hK => ?_
    simp [push_cast]
    repeat (refine And.intro (by clear hK; intros; first | omega | (simp_all; done) | (simp_all <;> omega)) ?_)
    refine hK _ ?_; clear hK K; refine Nav.imp ?_
    refine awp_region cx [] fun K hK => ?_
    simp [push_cast]
    repeat (refine And.intro (by clear hK; intros; first | omega | (simp_all; done) | (simp_all <;> omega)) ?_)
    refine hK _ ?_; clear hK K; refine Nav.imp ?_
    refine awp_cond (b := false) (by simp [push_cast]) (fun hb => ?_) (fun hb => ?_) <;> (refine Nav.imp ?_)
    · simp at hb
    · refine awp_region cx [] fun K hK => ?_
      simp [push_cast]
      repeat (refine And.intro (by clear hK; intros; first | omega | (simp_all; done) | (simp_all <;> omega)) ?_)
      refine hK _ ?_; clear hK K; refine Nav.imp ?_
      refine awp_cond (b := false) (by simp [push_cast]) (fun hb => ?_) (fun hb => ?_) <;> (refine Nav.imp ?_)
      · simp at hb
      · refine awp_region cx [] fun K hK => ?_
        simp [push_cast]
        repeat (refine And.intro (by clear hK; intros; first | omega | (simp_all; done) | (simp_all <;> omega)) ?_)
        refine hK _ ?_; clear hK K; refine Nav.imp ?_
        simp [push_cast, fD]
  · refine pc_of_awp cx (fn := Tryz.f159) (c := _) Tryz.func159 rfl rfl (Nat.le_of_ble_eq_true rfl) ?_
    rw [Tryz.ntmps159]; refine Nav.imp ?_
    refine awp_region cx [] fun K hK => ?_
    simp [push_cast]
    repeat (refine And.intro (by clear hK; intros; first | omega | (simp_all; done) | (simp_all <;> omega)) ?_)
    refine hK _ ?_; clear hK K; refine Nav.imp ?_
    refine awp_region cx [] fun K hK => ?_
    simp [push_cast]
    repeat (refine And.intro (by clear hK; intros; first | omega | (simp_all; done) | (simp_all <;> omega)) ?_)
    refine hK _ ?_; clear hK K; refine Nav.imp ?_
    refine awp_region cx [] fun K hK => ?_
    simp [push_cast]
    repeat (refine And.intro (by clear hK; intros; first | omega | (simp_all; done) | (simp_all <;> omega)) ?_)
    refine hK _ ?_; clear hK K; refine Nav.imp ?_
    refine awp_cond (b := false) (by simp [push_cast]) (fun hb => ?_) (fun hb => ?_) <;> (refine Nav.imp ?_)
    · simp at hb
    · refine awp_region cx [] fun K hK => ?_
      simp [push_cast]
      repeat (refine And.intro (by clear hK; intros; first | omega | (simp_all; done) | (simp_all <;> omega)) ?_)
      refine hK _ ?_; clear hK K; refine Nav.imp ?_
      refine awp_cond (b := false) (by simp [push_cast]) (fun hb => ?_) (fun hb => ?_) <;> (refine Nav.imp ?_)
      · simp at hb
      · refine awp_region cx [] fun K hK => ?_
        simp [push_cast]
        repeat (refine And.intro (by clear hK; intros; first | omega | (simp_all; done) | (simp_all <;> omega)) ?_)
        refine hK _ ?_; clear hK K; refine Nav.imp ?_
        simp [push_cast, fD]
  · refine pc_of_awp cx (fn := Tryz.f159) (c := _) Tryz.func159 rfl rfl (Nat.le_of_ble_eq_true rfl) ?_
    rw [Tryz.ntmps159]; refine Nav.imp ?_
    refine awp_region cx [] fun K hK => ?_
    simp [push_cast]
    repeat (refine And.intro (by clear hK; intros; first | omega | (simp_all; done) | (simp_all <;> omega)) ?_)
    refine hK _ ?_; clear hK K; refine Nav.imp ?_
    refine awp_region cx [] fun K hK => ?_
    simp [push_cast]
    repeat (refine And.intro (by clear hK; intros; first | omega | (simp_all; done) | (simp_all <;> omega)) ?_)
    refine hK _ ?_; clear hK K; refine Nav.imp ?_
    refine awp_region cx [] fun K hK => ?_
    simp [push_cast]
    repeat (refine And.intro (by clear hK; intros; first | omega | (simp_all; done) | (simp_all <;> omega)) ?_)
    refine hK _ ?_; clear hK K; refine Nav.imp ?_
    refine awp_cond (b := false) (by simp [push_cast]) (fun hb => ?_) (fun hb => ?_) <;> (refine Nav.imp ?_)
    · simp at hb
    · refine awp_region cx [] fun K hK => ?_
      simp [push_cast]
      repeat (refine And.intro (by clear hK; intros; first | omega | (simp_all; done) | (simp_all <;> omega)) ?_)
      refine hK _ ?_; clear hK K; refine Nav.imp ?_
      refine awp_cond (b := false) (by simp [push_cast]) (fun hb => ?_) (fun hb => ?_) <;> (refine Nav.imp ?_)
      · simp at hb
      · refine awp_region cx [] fun K hK => ?_
        simp [push_cast]
        repeat (refine And.intro (by clear hK; intros; first | omega | (simp_all; done) | (simp_all <;> omega)) ?_)
        refine hK _ ?_; clear hK K; refine Nav.imp ?_
        simp [push_cast, fD]

set_option maxHeartbeats 4000000 in
theorem bounds_ok (a b : List Run) (ha : a.length ≤ 1000000) (hb0 : b.length ≤ 1000000) : PC Tryz.prog 158 [encRuns a, encRuns b] (.p (.sl ((bnds a b).map iRow))) := by
  refine pc_of_awp cx (fn := Tryz.f158) (c := _) Tryz.func158 rfl rfl (Nat.le_of_ble_eq_true rfl) ?_
  rw [Tryz.ntmps158]; refine Nav.imp ?_
  refine awp_region cx [] fun K hK => ?_
  simp [push_cast]
  repeat (refine And.intro (by clear hK; intros; first | omega | (simp_all; done) | (simp_all <;> omega)) ?_)
  refine hK _ ?_; clear hK K; refine Nav.imp ?_
  refine awp_region cx [] fun K hK => ?_
  simp [push_cast]
  repeat (refine And.intro (by clear hK; intros; first | omega | (simp_all; done) | (simp_all <;> omega)) ?_)
  refine hK _ ?_; clear hK K; refine Nav.imp ?_
  refine awp_region cx [] fun K hK => ?_
  simp [push_cast]
  repeat (refine And.intro (by clear hK; intros; first | omega | (simp_all; done) | (simp_all <;> omega)) ?_)
  refine hK _ ?_; clear hK K; refine Nav.imp ?_
  refine awp_loop (β := Nat × List Int) (fun s => ⟨90, [(0, .d (encRuns a)), (1, .d (encRuns b)), (5, .hs 0 0 s.2.length), (6, .d (.int .i64 s.1))], [(0, some ⟨3, 1, dr (s.2.map iRow)⟩)], 1⟩) (fun s => s.1 ≤ a.length ∧ s.2 = ends (a.take s.1)) (fun s => a.length - s.1) (0, []) ?_ ⟨Nat.zero_le _, by simp [ends]⟩ ?_
  · refine weak_of [(0, none)] rfl (by simp [upT, up, upL, push_cast]) (by simp [upH, upR, upL, up, push_cast]) (by simp [namesOk, push_cast]) (by simp [olds])
  · rintro ⟨k, Z⟩ ⟨hk, hZ⟩
    simp only at hk hZ
    refine Nav.imp ?_
    refine awp_region cx [] fun K hK => ?_
    simp [push_cast]
    repeat (refine And.intro (by clear hK; intros; first | omega | (simp_all; done) | (simp_all <;> omega)) ?_)
    refine hK _ ?_; clear hK K; refine Nav.imp ?_
    refine awp_cond (b := decide ((k : Int) < a.length)) (by simp [push_cast]) (fun hb => ?_) (fun hb => ?_) <;> (refine Nav.imp ?_)
    · have hlt : k < a.length := by simpa using hb
      obtain ⟨r, hr⟩ := getq hlt
      have e0 := wrap_i64 (n := (k : Int) + 1) (by omega) (by omega)
      have hZl : Z.length = 2 * k := by rw [hZ, ends_len, List.length_take]; omega
      have hZ8 : (Z.length + 2) * 8 ≤ 140737488355328 := by omega
      have hnx : ends (a.take (k + 1)) = Z ++ [r.a, r.b] := by rw [ends_take hr, hZ]
      obtain ⟨ra, rb⟩ := r
      simp only at hnx
      refine awp_region_draw cx mixed [] fun K hK => ?_
      simp [push_cast, hr, hZ8, Run.row]
      repeat (refine And.intro (by clear hK; intros; first | omega | (simp_all; done) | (simp_all <;> omega)) ?_)
      refine hK _ _ (by kernel_rfl) ?_; clear hK K; refine Nav.imp ?_
      refine awp_region cx [] fun K hK => ?_
      simp [push_cast, e0]
      repeat (refine And.intro (by clear hK; intros; first | omega | (simp_all; done) | (simp_all <;> omega)) ?_)
      refine hK _ ?_; clear hK K; refine Nav.imp ?_
      refine ⟨(k + 1, Z ++ [ra, rb]), ⟨hlt, hnx.symm⟩, by simp only; omega, ?_⟩
      refine weak_of [(0, some 17)] rfl (by simp [upT, up, upL, push_cast]) (by simp [upH, upR, upL, up, push_cast]) (by simp [namesOk, push_cast]) (by simp [olds])
    · have hge : k = a.length := by simp at hb; omega
      subst hge
      rw [List.take_length] at hZ
      have hAl : Z.length = 2 * a.length := by rw [hZ, ends_len]
      refine awp_region cx [] fun K hK => ?_
      simp [push_cast]
      repeat (refine And.intro (by clear hK; intros; first | omega | (simp_all; done) | (simp_all <;> omega)) ?_)
      refine hK _ ?_; clear hK K; refine Nav.imp ?_
      refine awp_loop (β := Nat × List Int) (fun s => ⟨90, [(1, .d (encRuns b)), (5, .hs 0 0 s.2.length), (7, .d (.int .i64 s.1))], [(0, some ⟨3, 1, dr (s.2.map iRow)⟩)], 1⟩) (fun s => s.1 ≤ b.length ∧ s.2 = ends a ++ ends (b.take s.1)) (fun s => b.length - s.1) (0, Z) ?_ ⟨Nat.zero_le _, by simp [ends] at hZ ⊢; exact hZ⟩ ?_
      · refine weak_of [(0, some 0)] rfl (by simp [upT, up, upL, push_cast]) (by simp [upH, upR, upL, up, push_cast]) (by simp [namesOk, push_cast]) (by simp [olds])
      · rintro ⟨k, Y⟩ ⟨hk, hY⟩
        simp only at hk hY
        refine Nav.imp ?_
        refine awp_region cx [] fun K hK => ?_
        simp [push_cast]
        repeat (refine And.intro (by clear hK; intros; first | omega | (simp_all; done) | (simp_all <;> omega)) ?_)
        refine hK _ ?_; clear hK K; refine Nav.imp ?_
        refine awp_cond (b := decide ((k : Int) < b.length)) (by simp [push_cast]) (fun hb => ?_) (fun hb => ?_) <;> (refine Nav.imp ?_)
        · have hlt : k < b.length := by simpa using hb
          obtain ⟨r, hr⟩ := getq hlt
          have e0 := wrap_i64 (n := (k : Int) + 1) (by omega) (by omega)
          have hYl : Y.length = 2 * a.length + 2 * k := by rw [hY, List.length_append, ends_len, ends_len, List.length_take]; omega
          have hY8 : (Y.length + 2) * 8 ≤ 140737488355328 := by omega
          have hnx : ends a ++ ends (b.take (k + 1)) = Y ++ [r.a, r.b] := by rw [ends_take hr, hY]; simp
          obtain ⟨ra, rb⟩ := r
          simp only at hnx
          refine awp_region_draw cx mixed [] fun K hK => ?_
          simp [push_cast, hr, hY8, Run.row]
          repeat (refine And.intro (by clear hK; intros; first | omega | (simp_all; done) | (simp_all <;> omega)) ?_)
          refine hK _ _ (by kernel_rfl) ?_; clear hK K; refine Nav.imp ?_
          refine awp_region cx [] fun K hK => ?_
          simp [push_cast, e0]
          repeat (refine And.intro (by clear hK; intros; first | omega | (simp_all; done) | (simp_all <;> omega)) ?_)
          refine hK _ ?_; clear hK K; refine Nav.imp ?_
          refine ⟨(k + 1, Y ++ [ra, rb]), ⟨hlt, hnx.symm⟩, by simp only; omega, ?_⟩
          refine weak_of [(0, some 17)] rfl (by simp [upT, up, upL, push_cast]) (by simp [upH, upR, upL, up, push_cast]) (by simp [namesOk, push_cast]) (by simp [olds])
        · have hge : k = b.length := by simp at hb; omega
          subst hge
          rw [List.take_length] at hY
          have hB : bnds a b = ascI Y := by rw [hY]; rfl
          have hYl : Y.length ≤ 4000000 := by rw [hY, List.length_append, ends_len, ends_len]; omega
          rw [hB]
          clear hB hY hZ
          refine awp_region cx [] fun K hK => ?_
          simp [push_cast]
          repeat (refine And.intro (by clear hK; intros; first | omega | (simp_all; done) | (simp_all <;> omega)) ?_)
          refine hK _ ?_; clear hK K; refine Nav.imp ?_
          refine awp_loop (β := Nat × List Int) (fun b => ⟨90, [(5, .hs 0 0 b.2.length), (8, .d (.int .i64 b.1))], [(0, some ⟨3, 1, dr (b.2.map iRow)⟩)], 1⟩) (fun b => UpI Y b.1 b.2 ∧ 0 < b.1 ∧ b.1 ≤ 4000001) (fun b => Y.length - b.1) (1, Y) ?_ ⟨upI_start Y, by omega, by omega⟩ ?_
          · refine weak_of [(0, some 0)] rfl (by simp [upT, up, upL, push_cast]) (by simp [upH, upR, upL, up, push_cast]) (by simp [namesOk, push_cast]) (by simp [olds])
          · rintro ⟨i, Z⟩ ⟨hZ, hi, hib⟩
            simp only at hZ hi hib
            have hZl : Z.length = Y.length := hZ.1.length_eq
            refine Nav.imp ?_
            refine awp_region cx [] fun K hK => ?_
            simp [push_cast]
            repeat (refine And.intro (by clear hK; intros; first | omega | (simp_all; done) | (simp_all <;> omega)) ?_)
            refine hK _ ?_; clear hK K; refine Nav.imp ?_
            refine awp_cond (b := decide ((i : Int) < Z.length)) (by simp [push_cast]) (fun hb => ?_) (fun hb => ?_) <;> (refine Nav.imp ?_)
            · have hlt : i < Z.length := by simpa using hb
              have e0 := wrap_i64 (n := (i : Int) + 1) (by omega) (by omega)
              refine awp_region cx [] fun K hK => ?_
              simp [push_cast]
              repeat (refine And.intro (by clear hK; intros; first | omega | (simp_all; done) | (simp_all <;> omega)) ?_)
              refine hK _ ?_; clear hK K; refine Nav.imp ?_
              refine awp_loop (β := Nat × List Int) (fun b => ⟨90, [(5, .hs 0 0 b.2.length), (8, .d (.int .i64 i)), (9, .d (.int .i64 b.1))], [(0, some ⟨3, 1, dr (b.2.map iRow)⟩)], 1⟩) (fun b => InsI Y i b.2 b.1) (fun b => b.1) (i, Z) ?_ (insI_start hZ hlt) ?_
              · refine weak_of [(0, some 0)] rfl (by simp [upT, up, upL, push_cast]) (by simp [upH, upR, upL, up, push_cast]) (by simp [namesOk, push_cast]) (by simp [olds])
              · rintro ⟨k, W⟩ hW
                simp only at hW
                have hWl : W.length = Y.length := by obtain ⟨P, c, Q, T, _, _, _, h, _⟩ := hW; exact h.length_eq
                have hki : k ≤ i := by obtain ⟨P, c, Q, T, _, h1, h2, _⟩ := hW; omega
                refine Nav.imp ?_
                obtain ⟨c, hc⟩ : ∃ c, W[k]? = some c := getq (by omega)
                cases k with
                | zero =>
                  refine awp_region_draw cx mixed [] fun K hK => ?_
                  simp [push_cast, hc]
                  repeat (refine And.intro (by clear hK; intros; first | omega | (simp_all; done) | (simp_all <;> omega)) ?_)
                  refine hK _ _ (by kernel_rfl) ?_; clear hK K; refine Nav.imp ?_
                  refine awp_cond (b := false) (by simp [push_cast]) (fun hb => ?_) (fun hb => ?_) <;> (refine Nav.imp ?_)
                  · simp at hb
                  · refine awp_region cx [] fun K hK => ?_
                    simp [push_cast, e0]
                    repeat (refine And.intro (by clear hK; intros; first | omega | (simp_all; done) | (simp_all <;> omega)) ?_)
                    refine hK _ ?_; clear hK K; refine Nav.imp ?_
                    refine ⟨(i + 1, W), ⟨insI_end hW (.inl rfl), by simp only; omega, by simp only; omega⟩, by simp only; omega, ?_⟩
                    refine weak_of [(0, some 0)] rfl (by simp [upT, up, upL, push_cast]) (by simp [upH, upR, upL, up, push_cast]) (by simp [namesOk, push_cast]) (by simp [olds])
                | succ k =>
                  obtain ⟨p, hp⟩ : ∃ c, W[k]? = some c := getq (by omega)
                  have e1 := wrap_i64 (n := ((k + 1 : Nat) : Int) - 1) (by omega) (by omega)
                  have e2 : (((k + 1 : Nat) : Int) - 1) = k := by omega
                  rw [e2] at e1
                  have e3 : (((k + 1 : Nat) : Int) - 1).toNat = k := by omega
                  have e4 : (0 : Int) < (k : Int) + 1 := by omega
                  refine awp_region_draw cx mixed [] fun K hK => ?_
                  simp [push_cast, hc, hp, e1, e2, e3, e4]
                  repeat (refine And.intro (by clear hK; intros; first | omega | (simp_all; done) | (simp_all <;> omega)) ?_)
                  refine hK _ _ (by kernel_rfl) ?_; clear hK K; refine Nav.imp ?_
                  refine awp_cond (b := decide (c < p)) (by simp [push_cast, e4]) (fun hb => ?_) (fun hb => ?_) <;> (refine Nav.imp ?_)
                  · have hcp : c < p := by simpa using hb
                    have hnx := insI_next hW hc hp hcp
                    obtain ⟨Y1, hY1⟩ : ∃ Y1, Y1 = W.set (k + 1) p := ⟨_, rfl⟩
                    have hr1 : (dr (W.map iRow)).set (k + 1) [.d (.int .i64 p)] = dr (Y1.map iRow) := by rw [hY1]; simp [dr, List.map_set]
                    have hk1 : Y1[k]? = some p := by rw [hY1, List.getElem?_set_ne (by omega)]; exact hp
                    rw [← hY1] at hnx
                    have hl1 : Y1.length = W.length := by rw [hY1]; simp
                    obtain ⟨Y2, hY2⟩ : ∃ Y2, Y2 = Y1.set k c := ⟨_, rfl⟩
                    have hr2 : (dr (Y1.map iRow)).set k [.d (.int .i64 c)] = dr (Y2.map iRow) := by rw [hY2]; simp [dr, List.map_set]
                    rw [← hY2] at hnx
                    have hl2 : Y2.length = W.length := by rw [hY2]; simp [hl1]
                    clear hY1 hY2
                    refine awp_region cx [] fun K hK => ?_
                    simp [push_cast, hc]
                    repeat (refine And.intro (by clear hK; intros; first | omega | (simp_all; done) | (simp_all <;> omega)) ?_)
                    refine hK _ ?_; clear hK K; refine Nav.imp ?_
                    refine awp_region cx [] fun K hK => ?_
                    simp [push_cast, hp, hc, e1, e2, e3, hr1]
                    repeat (refine And.intro (by clear hK; intros; first | omega | (simp_all; done) | (simp_all <;> omega)) ?_)
                    refine hK _ ?_; clear hK K; refine Nav.imp ?_
                    rw [← hl1]
                    refine awp_region cx [] fun K hK => ?_
                    simp [push_cast, e1, e2, hk1, hr2]
                    repeat (refine And.intro (by clear hK; intros; first | omega | (simp_all; done) | (simp_all <;> omega)) ?_)
                    refine hK _ ?_; clear hK K; refine Nav.imp ?_
                    rw [hl1, ← hl2]
                    refine awp_region cx [] fun K hK => ?_
                    simp [push_cast, e1, e2]
                    repeat (refine And.intro (by clear hK; intros; first | omega | (simp_all; done) | (simp_all <;> omega)) ?_)
                    refine hK _ ?_; clear hK K; refine Nav.imp ?_
                    refine ⟨(k, Y2), hnx, by simp only; omega, ?_⟩
                    refine weak_of [(0, some 0)] rfl (by simp [upT, up, upL, push_cast]) (by simp [upH, upR, upL, up, push_cast]) (by simp [namesOk, push_cast]) (by simp [olds])
                  · have hcp : ¬ c < p := by simpa using hb
                    refine awp_region cx [] fun K hK => ?_
                    simp [push_cast, e0]
                    repeat (refine And.intro (by clear hK; intros; first | omega | (simp_all; done) | (simp_all <;> omega)) ?_)
                    refine hK _ ?_; clear hK K; refine Nav.imp ?_
                    refine ⟨(i + 1, W), ⟨insI_end hW (.inr ⟨c, p, hc, hp, hcp⟩), by simp only; omega, by simp only; omega⟩, by simp only; omega, ?_⟩
                    refine weak_of [(0, some 0)] rfl (by simp [upT, up, upL, push_cast]) (by simp [upH, upR, upL, up, push_cast]) (by simp [namesOk, push_cast]) (by simp [olds])
            · have hge : Y.length ≤ i := by simp at hb; omega
              have hs := upI_end hZ (by omega)
              rw [← hs]
              refine awp_region cx [] fun K hK => ?_
              simp [push_cast]
              repeat (refine And.intro (by clear hK; intros; first | omega | (simp_all; done) | (simp_all <;> omega)) ?_)
              refine hK _ ?_; clear hK K; refine Nav.imp ?_
              have ht : List.take Z.length (Z.map iRow) = Z.map iRow := List.take_of_length_le (by simp)
              simp [push_cast, ht]
end Go.Proofs.YtagakfaiimaifaaGreat

set_option linter.unusedVariables false
set_option linter.unusedSimpArgs false
set_option maxRecDepth 100000
namespace Go.Proofs.YtagakfaiimaifaaGreat
open Go.Abs

set_option maxHeartbeats 4000000 in
theorem combined_ok (op : Int) (f : Bool → Bool → Bool) (hf : f false false = false) (hkp : ∀ x y, PC Tryz.prog 159 [.int .i64 op, .bool x, .bool y] (.p (.bool (f x y)))) (a b : List Run) (ha : a.length ≤ 1000000) (hb0 : b.length ≤ 1000000) (va : rvalid a = true) (vb : rvalid b = true) :
    PC Tryz.prog 111 [.int .i64 op, encRuns a, encRuns b] (.p (encRuns (sweep f a b))) := by
  have c1 := bounds_ok a b ha hb0
  have hbl := bnds_len a b
  have hstart := fun X hX => @comb_start f hf a b X hX
  have hend := fun n X out h1 h2 h3 => @comb_end f hf a b va vb n X out h1 h2 h3
  have hgap := fun i X Y h1 h2 => @gap_of a b i X Y h1 h2
  have hnil := @sweep_nil f hf a b va vb
  generalize bnds a b = L at *
  generalize sweep f a b = res at *
  refine pc_of_awp cx (fn := Tryz.f111) (c := _) Tryz.func111 rfl rfl (Nat.le_of_ble_eq_true rfl) ?_
  rw [Tryz.ntmps111]; refine Nav.imp ?_
  refine awp_region cx [] fun K hK => ?_
  simp [push_cast]
  repeat (refine And.intro (by clear hK; intros; first | omega | (simp_all; done) | (simp_all <;> omega)) ?_)
  refine hK _ ?_; clear hK K; refine Nav.imp ?_
  refine awp_region cx [(2, .p (.sl (L.map iRow)))] fun K hK => ?_
  simp [push_cast, c1]
  repeat (refine And.intro (by clear hK; intros; first | omega | (simp_all; done) | (simp_all <;> omega)) ?_)
  refine hK _ ?_; clear hK K; refine Nav.imp ?_
  refine awp_region cx [] fun K hK => ?_
  simp [push_cast]
  repeat (refine And.intro (by clear hK; intros; first | omega | (simp_all; done) | (simp_all <;> omega)) ?_)
  refine hK _ ?_; clear hK K; refine Nav.imp ?_
  refine awp_region cx [] fun K hK => ?_
  simp [push_cast]
  repeat (refine And.intro (by clear hK; intros; first | omega | (simp_all; done) | (simp_all <;> omega)) ?_)
  refine hK _ ?_; clear hK K; refine Nav.imp ?_
  refine awp_loop (β := Nat × List Run) (fun s => ⟨89, [(0, .d (.int .i64 op)), (1, .d (encRuns a)), (2, .d (encRuns b)), (7, .d (.sl (L.map iRow))), (8, .hs 0 0 s.2.length), (9, .d (.int .i64 s.1))], [(0, some ⟨54, 2, dr (s.2.map Run.row)⟩)], 1⟩) (fun s => s.2.length ≤ s.1 ∧ (L.length = 0 → s.2 = []) ∧ (0 < L.length → s.1 < L.length) ∧ s.1 ≤ L.length ∧ ∀ X, L[s.1]? = some X → CombAt f a b X s.2) (fun s => L.length - s.1) (0, []) ?_ ⟨by simp, by simp, by simp, by simp, hstart⟩ ?_
  · refine weak_of [(0, none)] rfl (by simp [upT, up, upL, push_cast]) (by simp [upH, upR, upL, up, push_cast]) (by simp [namesOk, push_cast]) (by simp [olds])
  · rintro ⟨i, out⟩ ⟨hol, ho0, hi, hile, hat⟩
    simp only at hol ho0 hi hile hat
    refine Nav.imp ?_
    have e0 := wrap_i64 (n := (i : Int) + 1) (by omega) (by omega)
    refine awp_region cx [] fun K hK => ?_
    simp [push_cast, e0]
    repeat (refine And.intro (by clear hK; intros; first | omega | (simp_all; done) | (simp_all <;> omega)) ?_)
    refine hK _ ?_; clear hK K; refine Nav.imp ?_
    refine awp_cond (b := decide ((i : Int) + 1 < L.length)) (by simp [push_cast]) (fun hb => ?_) (fun hb => ?_) <;> (refine Nav.imp ?_)
    · have hlt : i + 1 < L.length := by simp at hb; omega
      obtain ⟨X, hX⟩ : ∃ X, L[i]? = some X := getq (by omega)
      obtain ⟨Y, hY⟩ : ∃ Y, L[i + 1]? = some Y := getq hlt
      obtain ⟨hg, hXY⟩ := hgap i X Y hX hY
      have hcm := hat X hX
      have hi1 : ((i : Int) + 1).toNat = i + 1 := by omega
      have hi2 : (0 : Int) ≤ (i : Int) + 1 := by omega
      have hlti : (i : Int) + 1 < L.length := by omega
      have hnext : ∀ out', out'.length ≤ i + 1 → CombAt f a b Y out' → (out'.length ≤ i + 1 ∧ (L.length = 0 → out' = []) ∧ (0 < L.length → i + 1 < L.length) ∧ i + 1 ≤ L.length ∧ ∀ X, L[i + 1]? = some X → CombAt f a b X out') := fun out' h1 h2 => ⟨h1, fun h => by omega, fun _ => hlt, by omega, fun Z hZ => by rw [hY] at hZ; cases hZ; exact h2⟩
      clear hat hgap hstart
      by_cases hne : X = Y
      · have hn := hnext out (by omega) (comb_skip hcm hg hXY (.inl hne))
        subst hne
        refine awp_region_draw cx mixed [(17, .skip), (23, .skip), (24, .skip)] fun K hK => ?_
        simp [push_cast, hX, hY, e0, hi1, hi2, hlti]
        repeat (refine And.intro (by clear hK; intros; first | omega | (simp_all; done) | (simp_all <;> omega)) ?_)
        refine hK _ _ (by kernel_rfl) ?_; clear hK K; refine Nav.imp ?_
        refine awp_cond (b := true) (by simp [push_cast]) (fun hb => ?_) (fun hb => ?_) <;> (refine Nav.imp ?_)
        · refine awp_region cx [] fun K hK => ?_
          simp [push_cast, e0]
          repeat (refine And.intro (by clear hK; intros; first | omega | (simp_all; done) | (simp_all <;> omega)) ?_)
          refine hK _ ?_; clear hK K; refine Nav.imp ?_
          refine ⟨(i + 1, out), hn, by simp only; omega, ?_⟩
          refine weak_of [(0, some 0)] rfl (by simp [upT, up, upL, push_cast]) (by simp [upH, upR, upL, up, push_cast]) (by simp [namesOk, push_cast]) (by simp [olds])
        · simp at hb
      · have c2 := inside18_ok a X ha
        have c3 := inside18_ok b X hb0
        have c4 := hkp (inR a X) (inR b X)
        generalize hv : f (inR a X) (inR b X) = v at c4
        generalize inR a X = pa at c2 c4
        generalize inR b X = pb at c3 c4
        refine awp_region_draw cx mixed [(17, .p (.bool pa)), (23, .p (.bool pb)), (24, .p (.bool v))] fun K hK => ?_
        simp [push_cast, hX, hY, e0, hi1, hi2, hlti, hne, c2, c3, c4]
        repeat (refine And.intro (by clear hK; intros; first | omega | (simp_all; done) | (simp_all <;> omega)) ?_)
        refine hK _ _ (by kernel_rfl) ?_; clear hK K; refine Nav.imp ?_
        refine awp_cond (b := !v) (by simp [push_cast, hne]) (fun hb => ?_) (fun hb => ?_) <;> (refine Nav.imp ?_)
        · have hv2 : v = false := by simpa using hb
          rw [hv2] at hv
          have hn := hnext out (by omega) (comb_skip hcm hg hXY (.inr hv))
          refine awp_region cx [] fun K hK => ?_
          simp [push_cast, e0]
          repeat (refine And.intro (by clear hK; intros; first | omega | (simp_all; done) | (simp_all <;> omega)) ?_)
          refine hK _ ?_; clear hK K; refine Nav.imp ?_
          refine ⟨(i + 1, out), hn, by simp only; omega, ?_⟩
          refine weak_of [(0, some 0)] rfl (by simp [upT, up, upL, push_cast]) (by simp [upH, upR, upL, up, push_cast]) (by simp [namesOk, push_cast]) (by simp [olds])
        · have hv2 : v = true := by simpa using hb
          rw [hv2] at hv
          have hlt2 : X < Y := by omega
          have hO16 : (out.length + 1) * 16 ≤ 140737488355328 := by omega
          refine awp_region cx [] fun K hK => ?_
          simp [push_cast]
          repeat (refine And.intro (by clear hK; intros; first | omega | (simp_all; done) | (simp_all <;> omega)) ?_)
          refine hK _ ?_; clear hK K; refine Nav.imp ?_
          rcases List.eq_nil_or_concat out with rfl | ⟨o, q, rfl⟩
          · have hn := hnext _ (by simp) (comb_app hcm hg hlt2 hv (by simp))
            refine awp_region_draw cx mixed [] fun K hK => ?_
            simp [push_cast, hX, hi1]
            repeat (refine And.intro (by clear hK; intros; first | omega | (simp_all; done) | (simp_all <;> omega)) ?_)
            refine hK _ _ (by kernel_rfl) ?_; clear hK K; refine Nav.imp ?_
            refine awp_cond (b := false) (by simp [push_cast]) (fun hb => ?_) (fun hb => ?_) <;> (refine Nav.imp ?_)
            · simp at hb
            · refine awp_region_draw cx mixed [] fun K hK => ?_
              simp [push_cast, hX, hY, e0, hi1, hi2, hlti]
              repeat (refine And.intro (by clear hK; intros; first | omega | (simp_all; done) | (simp_all <;> omega)) ?_)
              refine hK _ _ (by kernel_rfl) ?_; clear hK K; refine Nav.imp ?_
              refine awp_region cx [] fun K hK => ?_
              simp [push_cast, e0]
              repeat (refine And.intro (by clear hK; intros; first | omega | (simp_all; done) | (simp_all <;> omega)) ?_)
              refine hK _ ?_; clear hK K; refine Nav.imp ?_
              refine ⟨(i + 1, [⟨X, Y⟩]), hn, by simp only; omega, ?_⟩
              refine weak_of [(0, some 63)] rfl (by simp [upT, up, upL, push_cast, Run.row]) (by simp [upH, upR, upL, up, push_cast, Run.row]) (by simp [namesOk, push_cast]) (by simp [olds])
          · rw [List.concat_eq_append] at *
            have hz : (o ++ [q])[o.length]? = some q := by simp
            have hlen : (o ++ [q]).length = o.length + 1 := by simp
            obtain ⟨qa, qb⟩ := q
            have hset : (dr ((o ++ [(⟨qa, qb⟩ : Run)]).map Run.row)).set o.length [.d (.int .i64 qa), .d (.int .i64 Y)] = dr ((o ++ [(⟨qa, Y⟩ : Run)]).map Run.row) := by
              simp [dr, List.map_set, Run.row]
            have hjoin := fun h => @comb_join f a b X Y o ⟨qa, qb⟩ hcm hg hlt2 hv h
            have happ := fun h => @comb_app f a b X Y (o ++ [⟨qa, qb⟩]) hcm hg hlt2 hv h
            simp only at hjoin
            have e1 := wrap_i64 (n := ((o.length + 1 : Nat) : Int) - 1) (by omega) (by omega)
            have e2 : (((o.length + 1 : Nat) : Int) - 1) = o.length := by omega
            rw [e2] at e1
            have e3 : (0 : Int) < (o.length : Int) + 1 := by omega
            have hjl : (o ++ [(⟨qa, Y⟩ : Run)]).length = o.length + 1 := by simp
            generalize hJ : o ++ [(⟨qa, Y⟩ : Run)] = J at *
            generalize hA : o ++ [(⟨qa, qb⟩ : Run)] = A at *
            rw [hlen]
            refine awp_region_draw cx mixed [] fun K hK => ?_
            simp [push_cast, hX, hz, hi1, e1, e2, e3, Run.row]
            repeat (refine And.intro (by clear hK; intros; first | omega | (simp_all; done) | (simp_all <;> omega)) ?_)
            refine hK _ _ (by kernel_rfl) ?_; clear hK K; refine Nav.imp ?_
            refine awp_cond (b := qb == X) (by simp [push_cast, e3]) (fun hb => ?_) (fun hb => ?_) <;> (refine Nav.imp ?_)
            · have hq : qb = X := by simpa using hb
              have hn := hnext J (by omega) (hjoin hq)
              refine awp_region cx [] fun K hK => ?_
              simp [push_cast, hY, hz, e0, e1, e2, e3, hi1, hi2, hlti, Run.row, hset]
              repeat (refine And.intro (by clear hK; intros; first | omega | (simp_all; done) | (simp_all <;> omega)) ?_)
              refine hK _ ?_; clear hK K; refine Nav.imp ?_
              refine awp_region cx [] fun K hK => ?_
              simp [push_cast, e0]
              repeat (refine And.intro (by clear hK; intros; first | omega | (simp_all; done) | (simp_all <;> omega)) ?_)
              refine hK _ ?_; clear hK K; refine Nav.imp ?_
              refine ⟨(i + 1, J), hn, by simp only; omega, ?_⟩
              refine weak_of [(0, some 0)] rfl (by simp [upT, up, upL, push_cast, Run.row, hjl]) (by simp [upH, upR, upL, up, push_cast, Run.row, hjl]) (by simp [namesOk, push_cast]) (by simp [olds])
            · have hq : ¬ qb = X := by simpa using hb
              have hn := hnext (A ++ [⟨X, Y⟩]) (by simp; omega) (happ (by
                intro r hr
                rw [hlen, Nat.add_sub_cancel, hz] at hr
                cases hr; exact hq))
              rw [← hlen]
              refine awp_region_draw cx mixed [] fun K hK => ?_
              simp [push_cast, hX, hY, e0, hi1, hi2, hlti, hO16]
              repeat (refine And.intro (by clear hK; intros; first | omega | (simp_all; done) | (simp_all <;> omega)) ?_)
              refine hK _ _ (by kernel_rfl) ?_; clear hK K; refine Nav.imp ?_
              refine awp_region cx [] fun K hK => ?_
              simp [push_cast, e0]
              repeat (refine And.intro (by clear hK; intros; first | omega | (simp_all; done) | (simp_all <;> omega)) ?_)
              refine hK _ ?_; clear hK K; refine Nav.imp ?_
              refine ⟨(i + 1, A ++ [⟨X, Y⟩]), hn, by simp only; omega, ?_⟩
              refine weak_of [(0, some 63)] rfl (by simp [upT, up, upL, push_cast, Run.row]) (by simp [upH, upR, upL, up, push_cast, Run.row]) (by simp [namesOk, push_cast]) (by simp [olds])
    · have hge : L.length ≤ i + 1 := by simp at hb; omega
      have hres : out = res := by
        rcases Nat.eq_zero_or_pos L.length with h | h
        · rw [ho0 h, hnil h]
        · obtain ⟨X, hX⟩ : ∃ X, L[i]? = some X := getq (hi h)
          exact hend i X out (by have := hi h; omega) hX (hat X hX)
      subst hres
      refine awp_region cx [] fun K hK => ?_
      simp [push_cast]
      repeat (refine And.intro (by clear hK; intros; first | omega | (simp_all; done) | (simp_all <;> omega)) ?_)
      refine hK _ ?_; clear hK K; refine Nav.imp ?_
      have ht : List.take out.length (out.map Run.row) = out.map Run.row := List.take_of_length_le (by simp)
      simp [push_cast, ht]
end Go.Proofs.YtagakfaiimaifaaGreat

set_option linter.unusedVariables false
set_option linter.unusedSimpArgs false
set_option maxRecDepth 100000
namespace Go.Proofs.YtagakfaiimaifaaGreat
open Go.Abs

theorem sideAV (R : List Row) (i : Nat) (y : Int) : ∃ P : AV, ((R[i]? = none ∧ P = .nl ∧ stepI R i y = i) ∨ (∃ v, R[i]? = some v ∧ ¬ v.y = y ∧ P = .nl ∧ stepI R i y = i) ∨ (∃ v, R[i]? = some v ∧ v.y = y ∧ P = .d (encRuns v.runs) ∧ stepI R i y = i + 1)) ∧ ((P = .nl ∧ runsAt R i y = []) ∨ P = .d (encRuns (runsAt R i y))) := by
  cases h : R[i]? with
  | none => exact ⟨.nl, .inl ⟨rfl, rfl, by simp [stepI, h]⟩, .inl ⟨rfl, by simp [runsAt, h]⟩⟩
  | some v =>
    by_cases e : v.y = y
    · exact ⟨.d (encRuns v.runs), .inr (.inr ⟨v, rfl, e, rfl, by simp [stepI, h, e]⟩), .inr (by simp [runsAt, h, e])⟩
    · exact ⟨.nl, .inr (.inl ⟨v, rfl, e, rfl, by simp [stepI, h, e]⟩), .inl ⟨rfl, by simp [runsAt, h, e]⟩⟩
theorem runsAt_len {R : List Row} (h : smallR R) (i : Nat) (y : Int) : (runsAt R i y).length ≤ 1000000 := by
  unfold runsAt
  split
  · rename_i v hv
    split
    · exact h.2 v (List.mem_of_getElem? hv)
    · simp
  · simp

set_option maxHeartbeats 4000000 in
theorem operated_big (op : Int) (f : Bool → Bool → Bool) (hf : f false false = false) (hkp : ∀ x y, PC Tryz.prog 159 [.int .i64 op, .bool x, .bool y] (.p (.bool (f x y)))) (a b : List Row) (hA : bigR a) (hB : bigR b) :
    PC Tryz.prog 68 [.int .i64 op, .agg (regRow a), .agg (regRow b)] (.p (.agg (regRow (opR f a b)))) := by
  have c1 := validR_big a hA
  have c2 := validR_big b hB
  have hop : opR f a b = if validR a && validR b then opOn f a b (dedup (allY a b)) else [] := rfl
  cases ha : validR a with
  | false =>
    rw [ha] at c1
    have h0 : opR f a b = [] := by rw [hop, ha]; simp
    rw [h0]
    refine pc_of_awp cx (fn := Tryz.f68) (c := _) Tryz.func68 rfl rfl (Nat.le_of_ble_eq_true rfl) ?_
    rw [Tryz.ntmps68]; refine Nav.imp ?_
    refine awp_region cx [] fun K hK => ?_
    simp [push_cast]
    repeat (refine And.intro (by clear hK; intros; first | omega | (simp_all; done) | (simp_all <;> omega)) ?_)
    refine hK _ ?_; clear hK K; refine Nav.imp ?_
    refine awp_region cx [] fun K hK => ?_
    simp [push_cast]
    repeat (refine And.intro (by clear hK; intros; first | omega | (simp_all; done) | (simp_all <;> omega)) ?_)
    refine hK _ ?_; clear hK K; refine Nav.imp ?_
    refine awp_region cx [(1, .p (.bool false)), (5, .skip)] fun K hK => ?_
    simp [push_cast, c1]
    repeat (refine And.intro (by clear hK; intros; first | omega | (simp_all; done) | (simp_all <;> omega)) ?_)
    refine hK _ ?_; clear hK K; refine Nav.imp ?_
    refine awp_cond (b := true) (by simp [push_cast]) (fun hb => ?_) (fun hb => ?_) <;> (refine Nav.imp ?_)
    · refine awp_region cx [] fun K hK => ?_
      simp [push_cast]
      repeat (refine And.intro (by clear hK; intros; first | omega | (simp_all; done) | (simp_all <;> omega)) ?_)
      refine hK _ ?_; clear hK K; refine Nav.imp ?_
      simp [push_cast]
    · simp at hb
  | true =>
    rw [ha] at c1
    cases hb0 : validR b with
    | false =>
      rw [hb0] at c2
      have h0 : opR f a b = [] := by rw [hop, ha, hb0]; simp
      rw [h0]
      refine pc_of_awp cx (fn := Tryz.f68) (c := _) Tryz.func68 rfl rfl (Nat.le_of_ble_eq_true rfl) ?_
      rw [Tryz.ntmps68]; refine Nav.imp ?_
      refine awp_region cx [] fun K hK => ?_
      simp [push_cast]
      repeat (refine And.intro (by clear hK; intros; first | omega | (simp_all; done) | (simp_all <;> omega)) ?_)
      refine hK _ ?_; clear hK K; refine Nav.imp ?_
      refine awp_region cx [] fun K hK => ?_
      simp [push_cast]
      repeat (refine And.intro (by clear hK; intros; first | omega | (simp_all; done) | (simp_all <;> omega)) ?_)
      refine hK _ ?_; clear hK K; refine Nav.imp ?_
      refine awp_region cx [(1, .p (.bool true)), (5, .p (.bool false))] fun K hK => ?_
      simp [push_cast, c1, c2]
      repeat (refine And.intro (by clear hK; intros; first | omega | (simp_all; done) | (simp_all <;> omega)) ?_)
      refine hK _ ?_; clear hK K; refine Nav.imp ?_
      refine awp_cond (b := true) (by simp [push_cast]) (fun hb => ?_) (fun hb => ?_) <;> (refine Nav.imp ?_)
      · refine awp_region cx [] fun K hK => ?_
        simp [push_cast]
        repeat (refine And.intro (by clear hK; intros; first | omega | (simp_all; done) | (simp_all <;> omega)) ?_)
        refine hK _ ?_; clear hK K; refine Nav.imp ?_
        simp [push_cast]
      · simp at hb
    | true =>
      replace hA := small_valid ha
      replace hB := small_valid hb0
      have hal := hA.1
      have hbl := hB.1
      rw [hb0] at c2
      have hend := fun out h => @opAt_end f hf a b ha hb0 out h
      have hstart := opAt_start f a b
      clear hop
      generalize opR f a b = res at *
      refine pc_of_awp cx (fn := Tryz.f68) (c := _) Tryz.func68 rfl rfl (Nat.le_of_ble_eq_true rfl) ?_
      rw [Tryz.ntmps68]; refine Nav.imp ?_
      refine awp_region cx [] fun K hK => ?_
      simp [push_cast]
      repeat (refine And.intro (by clear hK; intros; first | omega | (simp_all; done) | (simp_all <;> omega)) ?_)
      refine hK _ ?_; clear hK K; refine Nav.imp ?_
      refine awp_region cx [] fun K hK => ?_
      simp [push_cast]
      repeat (refine And.intro (by clear hK; intros; first | omega | (simp_all; done) | (simp_all <;> omega)) ?_)
      refine hK _ ?_; clear hK K; refine Nav.imp ?_
      refine awp_region cx [(1, .p (.bool true)), (5, .p (.bool true))] fun K hK => ?_
      simp [push_cast, c1, c2]
      repeat (refine And.intro (by clear hK; intros; first | omega | (simp_all; done) | (simp_all <;> omega)) ?_)
      refine hK _ ?_; clear hK K; refine Nav.imp ?_
      refine awp_cond (b := false) (by simp [push_cast]) (fun hb => ?_) (fun hb => ?_) <;> (refine Nav.imp ?_)
      · simp at hb
      · refine awp_region cx [] fun K hK => ?_
        simp [push_cast]
        repeat (refine And.intro (by clear hK; intros; first | omega | (simp_all; done) | (simp_all <;> omega)) ?_)
        refine hK _ ?_; clear hK K; refine Nav.imp ?_
        refine awp_loop (β := Nat × Nat × List Row) (fun s => ⟨136, [(0, .d (.int .i64 op)), (4, .ptr 0 0 0), (5, .ptr 1 0 0), (6, .ptr 2 0 0), (7, .ptr 3 0 0), (8, .d (.int .i64 s.1)), (9, .d (.int .i64 s.2.1))], [(0, some ⟨24, 1, [(regRow a).map .d]⟩), (1, some ⟨24, 1, [(regRow b).map .d]⟩), (2, some ⟨24, 1, [[.nl]]⟩), (3, some ⟨24, 1, [[.hs 4 0 s.2.2.length]]⟩), (4, some ⟨52, 2, dr (s.2.2.map Row.row)⟩)], 5⟩) (fun s => OpAt f a b s.1 s.2.1 s.2.2) (fun s => a.length + b.length - (s.1 + s.2.1)) (0, 0, []) ?_ hstart ?_
        · refine weak_of [(0, some 0), (1, some 1), (2, some 2), (3, some 3), (4, none)] rfl (by simp [upT, up, upL, push_cast]) (by simp [upH, upR, upL, up, push_cast]) (by simp [namesOk, push_cast]) (by simp [olds])
        · rintro ⟨i, k, Z⟩ hat
          simp only at hat
          refine Nav.imp ?_
          have hile := hat.1
          have hkle := hat.2.1
          have hZl : Z.length ≤ 2000000 := by have := opAt_len hat; omega
          have hZ32 : (Z.length + 1) * 32 ≤ 140737488355328 := by omega
          have e1 := wrap_i64 (n := (i : Int) + 1) (by omega) (by omega)
          have e2 := wrap_i64 (n := (k : Int) + 1) (by omega) (by omega)
          by_cases hn : i < a.length ∨ k < b.length
          · obtain ⟨s1, s2, s3, s4⟩ := opAt_step ha hb0 hat hn
            obtain ⟨y, hy⟩ : ∃ y, nextY a b i k = y := ⟨_, rfl⟩
            rw [hy] at s1 s2 s3 s4
            obtain ⟨P, hPs, hPp⟩ := sideAV a i y
            obtain ⟨Q, hQs, hQp⟩ := sideAV b k y
            have hlp := runsAt_len hA i y
            have hlq := runsAt_len hB k y
            have hvp := rowOf_rv ha y
            have hvq := rowOf_rv hb0 y
            have hor : opRow f a b y = if sweep f (rowOf a y) (rowOf b y) = [] then [] else [⟨y, sweep f (rowOf a y) (rowOf b y)⟩] := rfl
            rw [s1] at hvp hor
            rw [s2] at hvq hor
            rw [hor] at s3
            clear hor s1 s2
            generalize stepI a i y = i' at *
            generalize stepI b k y = k' at *
            generalize runsAt a i y = p at *
            generalize runsAt b k y = q at *
            have g1 := combined_ok op f hf hkp p q hlp hlq hvp hvq
            generalize sweep f p q = r at *
            apply cut_
            · intro key
              cases hAi : a[i]? with
              | some v =>
                have hi1 : i < a.length := (List.getElem?_eq_some_iff.1 hAi).1
                have hav := (List.getElem?_eq_some_iff.1 hAi).2
                refine awp_region cx [] fun K hK => ?_
                simp [push_cast, hi1]
                repeat (refine And.intro (by clear hK; intros; first | omega | (simp_all; done) | (simp_all <;> omega)) ?_)
                refine hK _ ?_; clear hK K; refine Nav.imp ?_
                refine awp_cond (b := true) (by simp [push_cast, hi1]) (fun hb => ?_) (fun hb => ?_) <;> (refine Nav.imp ?_)
                · refine awp_region cx [] fun K hK => ?_
                  simp [push_cast]
                  repeat (refine And.intro (by clear hK; intros; first | omega | (simp_all; done) | (simp_all <;> omega)) ?_)
                  refine hK _ ?_; clear hK K; refine Nav.imp ?_
                  refine awp_region cx [] fun K hK => ?_
                  simp [push_cast]
                  repeat (refine And.intro (by clear hK; intros; first | omega | (simp_all; done) | (simp_all <;> omega)) ?_)
                  refine hK _ ?_; clear hK K; refine Nav.imp ?_
                  cases hBk : b[k]? with
                  | some w =>
                    have hk1 : k < b.length := (List.getElem?_eq_some_iff.1 hBk).1
                    have hbw := (List.getElem?_eq_some_iff.1 hBk).2
                    have hk2 : ¬ k = b.length := by (try clear hPs); (try clear hQs); omega
                    have hk3 : ((k : Int) == (b.length : Int)) = false := by (try clear hPs); (try clear hQs); simp; omega
                    refine awp_region_draw cx mixed [] fun K hK => ?_
                    simp [push_cast, hi1, hk1, hk2, hk3, hAi, hBk, hav, hbw, Row.row]
                    repeat (refine And.intro (by clear hK; intros; first | omega | (simp_all; done) | (simp_all <;> omega)) ?_)
                    refine hK _ _ (by kernel_rfl) ?_; clear hK K; refine Nav.imp ?_
                    refine awp_cond (b := decide (v.y ≤ w.y)) (by simp [push_cast, hi1, hk1, hk2, hk3]) (fun hb => ?_) (fun hb => ?_) <;> (refine Nav.imp ?_)
                    · have hvw : v.y ≤ w.y := by simpa using hb
                      have hyv : v.y = y := by rw [← hy]; simp [nextY, hAi, hBk, hvw]
                      refine awp_region cx [] fun K hK => ?_
                      simp [push_cast, hi1, hAi, hav, Row.row]
                      repeat (refine And.intro (by clear hK; intros; first | omega | (simp_all; done) | (simp_all <;> omega)) ?_)
                      refine hK _ ?_; clear hK K; refine Nav.imp ?_
                      refine awp_weak (s' := ⟨136, [(0, .d (.int .i64 op)), (4, .ptr 0 0 0), (5, .ptr 1 0 0), (6, .ptr 2 0 0), (7, .ptr 3 0 0), (8, .d (.int .i64 i)), (9, .d (.int .i64 k)), (10, .d (.int .i64 y)), (11, .nl), (12, .nl)], [(0, some ⟨24, 1, [(regRow a).map .d]⟩), (1, some ⟨24, 1, [(regRow b).map .d]⟩), (2, some ⟨24, 1, [[.nl]]⟩), (3, some ⟨24, 1, [[.hs 4 0 Z.length]]⟩), (4, some ⟨52, 2, dr (Z.map Row.row)⟩)], 5⟩) ?_ key.h
                      refine weak_of [(0, some 0), (1, some 1), (2, some 2), (3, some 3), (4, some 4)] rfl (by simp [upT, up, upL, push_cast, hyv]) (by simp [upH, upR, upL, up, push_cast, hyv]) (by simp [namesOk, push_cast]) (by simp [olds])
                    · have hvw : ¬ v.y ≤ w.y := by simpa using hb
                      have hyv : w.y = y := by rw [← hy]; simp [nextY, hAi, hBk, hvw]
                      refine awp_region cx [] fun K hK => ?_
                      simp [push_cast, hk1, hBk, hbw, Row.row]
                      repeat (refine And.intro (by clear hK; intros; first | omega | (simp_all; done) | (simp_all <;> omega)) ?_)
                      refine hK _ ?_; clear hK K; refine Nav.imp ?_
                      refine awp_weak (s' := ⟨136, [(0, .d (.int .i64 op)), (4, .ptr 0 0 0), (5, .ptr 1 0 0), (6, .ptr 2 0 0), (7, .ptr 3 0 0), (8, .d (.int .i64 i)), (9, .d (.int .i64 k)), (10, .d (.int .i64 y)), (11, .nl), (12, .nl)], [(0, some ⟨24, 1, [(regRow a).map .d]⟩), (1, some ⟨24, 1, [(regRow b).map .d]⟩), (2, some ⟨24, 1, [[.nl]]⟩), (3, some ⟨24, 1, [[.hs 4 0 Z.length]]⟩), (4, some ⟨52, 2, dr (Z.map Row.row)⟩)], 5⟩) ?_ key.h
                      refine weak_of [(0, some 0), (1, some 1), (2, some 2), (3, some 3), (4, some 4)] rfl (by simp [upT, up, upL, push_cast, hyv]) (by simp [upH, upR, upL, up, push_cast, hyv]) (by simp [namesOk, push_cast]) (by simp [olds])
                  | none =>
                    have hk1 : k = b.length := by have := List.getElem?_eq_none_iff.1 hBk; (try clear hPs); (try clear hQs); omega
                    have hyv : v.y = y := by rw [← hy]; simp [nextY, hAi, hBk]
                    refine awp_region_draw cx mixed [] fun K hK => ?_
                    simp [push_cast, hi1, hk1, hAi, hav, Row.row]
                    repeat (refine And.intro (by clear hK; intros; first | omega | (simp_all; done) | (simp_all <;> omega)) ?_)
                    refine hK _ _ (by kernel_rfl) ?_; clear hK K; refine Nav.imp ?_
                    refine awp_cond (b := true) (by simp [push_cast, hi1, hk1]) (fun hb => ?_) (fun hb => ?_) <;> (refine Nav.imp ?_)
                    · refine awp_region cx [] fun K hK => ?_
                      simp [push_cast, hi1, hAi, hav, Row.row]
                      repeat (refine And.intro (by clear hK; intros; first | omega | (simp_all; done) | (simp_all <;> omega)) ?_)
                      refine hK _ ?_; clear hK K; refine Nav.imp ?_
                      refine awp_weak (s' := ⟨136, [(0, .d (.int .i64 op)), (4, .ptr 0 0 0), (5, .ptr 1 0 0), (6, .ptr 2 0 0), (7, .ptr 3 0 0), (8, .d (.int .i64 i)), (9, .d (.int .i64 k)), (10, .d (.int .i64 y)), (11, .nl), (12, .nl)], [(0, some ⟨24, 1, [(regRow a).map .d]⟩), (1, some ⟨24, 1, [(regRow b).map .d]⟩), (2, some ⟨24, 1, [[.nl]]⟩), (3, some ⟨24, 1, [[.hs 4 0 Z.length]]⟩), (4, some ⟨52, 2, dr (Z.map Row.row)⟩)], 5⟩) ?_ key.h
                      refine weak_of [(0, some 0), (1, some 1), (2, some 2), (3, some 3), (4, some 4)] rfl (by simp [upT, up, upL, push_cast, hyv, hk1]) (by simp [upH, upR, upL, up, push_cast, hyv, hk1]) (by simp [namesOk, push_cast]) (by simp [olds])
                    · simp at hb
                · simp at hb
              | none =>
                have hi1 : i = a.length := by have := List.getElem?_eq_none_iff.1 hAi; (try clear hPs); (try clear hQs); omega
                have hi2 : ¬ i < a.length := by (try clear hPs); (try clear hQs); omega
                have hk1 : k < b.length := by (try clear hPs); (try clear hQs); omega
                obtain ⟨w, hBk⟩ : ∃ w, b[k]? = some w := getq hk1
                have hbw := (List.getElem?_eq_some_iff.1 hBk).2
                have hk2 : ¬ k = b.length := by (try clear hPs); (try clear hQs); omega
                have hk3 : ((k : Int) == (b.length : Int)) = false := by (try clear hPs); (try clear hQs); simp; omega
                have hyv : w.y = y := by rw [← hy]; simp [nextY, hAi, hBk]
                refine awp_region cx [] fun K hK => ?_
                simp [push_cast, hi2, hk1]
                repeat (refine And.intro (by clear hK; intros; first | omega | (simp_all; done) | (simp_all <;> omega)) ?_)
                refine hK _ ?_; clear hK K; refine Nav.imp ?_
                refine awp_cond (b := true) (by simp [push_cast, hi2, hk1]) (fun hb => ?_) (fun hb => ?_) <;> (refine Nav.imp ?_)
                · refine awp_region cx [] fun K hK => ?_
                  simp [push_cast]
                  repeat (refine And.intro (by clear hK; intros; first | omega | (simp_all; done) | (simp_all <;> omega)) ?_)
                  refine hK _ ?_; clear hK K; refine Nav.imp ?_
                  refine awp_region cx [] fun K hK => ?_
                  simp [push_cast]
                  repeat (refine And.intro (by clear hK; intros; first | omega | (simp_all; done) | (simp_all <;> omega)) ?_)
                  refine hK _ ?_; clear hK K; refine Nav.imp ?_
                  refine awp_region_draw cx mixed [] fun K hK => ?_
                  simp [push_cast, hi2, hk1, hk2, hk3]
                  repeat (refine And.intro (by clear hK; intros; first | omega | (simp_all; done) | (simp_all <;> omega)) ?_)
                  refine hK _ _ (by kernel_rfl) ?_; clear hK K; refine Nav.imp ?_
                  refine awp_cond (b := false) (by simp [push_cast, hi2, hk1, hk2, hk3]) (fun hb => ?_) (fun hb => ?_) <;> (refine Nav.imp ?_)
                  · simp at hb
                  · refine awp_region cx [] fun K hK => ?_
                    simp [push_cast, hk1, hBk, hbw, Row.row]
                    repeat (refine And.intro (by clear hK; intros; first | omega | (simp_all; done) | (simp_all <;> omega)) ?_)
                    refine hK _ ?_; clear hK K; refine Nav.imp ?_
                    refine awp_weak (s' := ⟨136, [(0, .d (.int .i64 op)), (4, .ptr 0 0 0), (5, .ptr 1 0 0), (6, .ptr 2 0 0), (7, .ptr 3 0 0), (8, .d (.int .i64 i)), (9, .d (.int .i64 k)), (10, .d (.int .i64 y)), (11, .nl), (12, .nl)], [(0, some ⟨24, 1, [(regRow a).map .d]⟩), (1, some ⟨24, 1, [(regRow b).map .d]⟩), (2, some ⟨24, 1, [[.nl]]⟩), (3, some ⟨24, 1, [[.hs 4 0 Z.length]]⟩), (4, some ⟨52, 2, dr (Z.map Row.row)⟩)], 5⟩) ?_ key.h
                    refine weak_of [(0, some 0), (1, some 1), (2, some 2), (3, some 3), (4, some 4)] rfl (by simp [upT, up, upL, push_cast, hyv]) (by simp [upH, upR, upL, up, push_cast, hyv]) (by simp [namesOk, push_cast]) (by simp [olds])
                · simp at hb
            · refine Nav.imp ?_
              apply cut_
              · intro key
                rcases hPs with ⟨hAi, hP, hi'⟩ | ⟨v, hAi, hvy, hP, hi'⟩ | ⟨v, hAi, hvy, hP, hi'⟩
                · have hi2 : ¬ i < a.length := by have := List.getElem?_eq_none_iff.1 hAi; (try clear hPs); (try clear hQs); omega
                  refine awp_region cx [] fun K hK => ?_
                  simp [push_cast, hi2]
                  repeat (refine And.intro (by clear hK; intros; first | omega | (simp_all; done) | (simp_all <;> omega)) ?_)
                  refine hK _ ?_; clear hK K; refine Nav.imp ?_
                  refine awp_cond (b := false) (by simp [push_cast, hi2]) (fun hb => ?_) (fun hb => ?_) <;> (refine Nav.imp ?_)
                  · simp at hb
                  · refine awp_weak (s' := ⟨136, [(0, .d (.int .i64 op)), (4, .ptr 0 0 0), (5, .ptr 1 0 0), (6, .ptr 2 0 0), (7, .ptr 3 0 0), (8, .d (.int .i64 i')), (9, .d (.int .i64 k)), (10, .d (.int .i64 y)), (11, P), (12, .nl)], [(0, some ⟨24, 1, [(regRow a).map .d]⟩), (1, some ⟨24, 1, [(regRow b).map .d]⟩), (2, some ⟨24, 1, [[.nl]]⟩), (3, some ⟨24, 1, [[.hs 4 0 Z.length]]⟩), (4, some ⟨52, 2, dr (Z.map Row.row)⟩)], 5⟩) ?_ key.h
                    refine weak_of [(0, some 0), (1, some 1), (2, some 2), (3, some 3), (4, some 4)] rfl (by simp [upT, up, upL, push_cast, hP, hi']) (by simp [upH, upR, upL, up, push_cast, hP, hi']) (by simp [namesOk, push_cast]) (by simp [olds])
                · have hi1 : i < a.length := (List.getElem?_eq_some_iff.1 hAi).1
                  have hav := (List.getElem?_eq_some_iff.1 hAi).2
                  refine awp_region cx [] fun K hK => ?_
                  simp [push_cast, hi1, hAi, hav, hvy, Row.row]
                  repeat (refine And.intro (by clear hK; intros; first | omega | (simp_all; done) | (simp_all <;> omega)) ?_)
                  refine hK _ ?_; clear hK K; refine Nav.imp ?_
                  refine awp_cond (b := false) (by simp [push_cast, hi1, hvy]) (fun hb => ?_) (fun hb => ?_) <;> (refine Nav.imp ?_)
                  · simp at hb
                  · refine awp_weak (s' := ⟨136, [(0, .d (.int .i64 op)), (4, .ptr 0 0 0), (5, .ptr 1 0 0), (6, .ptr 2 0 0), (7, .ptr 3 0 0), (8, .d (.int .i64 i')), (9, .d (.int .i64 k)), (10, .d (.int .i64 y)), (11, P), (12, .nl)], [(0, some ⟨24, 1, [(regRow a).map .d]⟩), (1, some ⟨24, 1, [(regRow b).map .d]⟩), (2, some ⟨24, 1, [[.nl]]⟩), (3, some ⟨24, 1, [[.hs 4 0 Z.length]]⟩), (4, some ⟨52, 2, dr (Z.map Row.row)⟩)], 5⟩) ?_ key.h
                    refine weak_of [(0, some 0), (1, some 1), (2, some 2), (3, some 3), (4, some 4)] rfl (by simp [upT, up, upL, push_cast, hP, hi']) (by simp [upH, upR, upL, up, push_cast, hP, hi']) (by simp [namesOk, push_cast]) (by simp [olds])
                · have hi1 : i < a.length := (List.getElem?_eq_some_iff.1 hAi).1
                  have hav := (List.getElem?_eq_some_iff.1 hAi).2
                  refine awp_region cx [] fun K hK => ?_
                  simp [push_cast, hi1, hAi, hav, hvy, Row.row]
                  repeat (refine And.intro (by clear hK; intros; first | omega | (simp_all; done) | (simp_all <;> omega)) ?_)
                  refine hK _ ?_; clear hK K; refine Nav.imp ?_
                  refine awp_cond (b := true) (by simp [push_cast, hi1, hvy]) (fun hb => ?_) (fun hb => ?_) <;> (refine Nav.imp ?_)
                  · refine awp_region cx [] fun K hK => ?_
                    simp [push_cast, hi1, hAi, hav, Row.row]
                    repeat (refine And.intro (by clear hK; intros; first | omega | (simp_all; done) | (simp_all <;> omega)) ?_)
                    refine hK _ ?_; clear hK K; refine Nav.imp ?_
                    refine awp_region cx [] fun K hK => ?_
                    simp [push_cast, e1]
                    repeat (refine And.intro (by clear hK; intros; first | omega | (simp_all; done) | (simp_all <;> omega)) ?_)
                    refine hK _ ?_; clear hK K; refine Nav.imp ?_
                    refine awp_weak (s' := ⟨136, [(0, .d (.int .i64 op)), (4, .ptr 0 0 0), (5, .ptr 1 0 0), (6, .ptr 2 0 0), (7, .ptr 3 0 0), (8, .d (.int .i64 i')), (9, .d (.int .i64 k)), (10, .d (.int .i64 y)), (11, P), (12, .nl)], [(0, some ⟨24, 1, [(regRow a).map .d]⟩), (1, some ⟨24, 1, [(regRow b).map .d]⟩), (2, some ⟨24, 1, [[.nl]]⟩), (3, some ⟨24, 1, [[.hs 4 0 Z.length]]⟩), (4, some ⟨52, 2, dr (Z.map Row.row)⟩)], 5⟩) ?_ key.h
                    refine weak_of [(0, some 0), (1, some 1), (2, some 2), (3, some 3), (4, some 4)] rfl (by simp [upT, up, upL, push_cast, hP, hi']) (by simp [upH, upR, upL, up, push_cast, hP, hi']) (by simp [namesOk, push_cast]) (by simp [olds])
                  · simp at hb
              · refine Nav.imp ?_
                apply cut_
                · intro key
                  rcases hQs with ⟨hBk, hQ, hk'⟩ | ⟨v, hBk, hvy, hQ, hk'⟩ | ⟨v, hBk, hvy, hQ, hk'⟩
                  · have hi2 : ¬ k < b.length := by have := List.getElem?_eq_none_iff.1 hBk; (try clear hPs); (try clear hQs); omega
                    refine awp_region cx [] fun K hK => ?_
                    simp [push_cast, hi2]
                    repeat (refine And.intro (by clear hK; intros; first | omega | (simp_all; done) | (simp_all <;> omega)) ?_)
                    refine hK _ ?_; clear hK K; refine Nav.imp ?_
                    refine awp_cond (b := false) (by simp [push_cast, hi2]) (fun hb => ?_) (fun hb => ?_) <;> (refine Nav.imp ?_)
                    · simp at hb
                    · refine awp_weak (s' := ⟨136, [(0, .d (.int .i64 op)), (4, .ptr 0 0 0), (5, .ptr 1 0 0), (6, .ptr 2 0 0), (7, .ptr 3 0 0), (8, .d (.int .i64 i')), (9, .d (.int .i64 k')), (10, .d (.int .i64 y)), (11, P), (12, Q)], [(0, some ⟨24, 1, [(regRow a).map .d]⟩), (1, some ⟨24, 1, [(regRow b).map .d]⟩), (2, some ⟨24, 1, [[.nl]]⟩), (3, some ⟨24, 1, [[.hs 4 0 Z.length]]⟩), (4, some ⟨52, 2, dr (Z.map Row.row)⟩)], 5⟩) ?_ key.h
                      rcases hPp with ⟨hP2, _⟩ | hP2
                      · refine weak_of [(0, some 0), (1, some 1), (2, some 2), (3, some 3), (4, some 4)] rfl (by simp [upT, up, upL, push_cast, hQ, hk', hP2]) (by simp [upH, upR, upL, up, push_cast, hQ, hk', hP2]) (by simp [namesOk, push_cast]) (by simp [olds])
                      · refine weak_of [(0, some 0), (1, some 1), (2, some 2), (3, some 3), (4, some 4)] rfl (by simp [upT, up, upL, push_cast, hQ, hk', hP2]) (by simp [upH, upR, upL, up, push_cast, hQ, hk', hP2]) (by simp [namesOk, push_cast]) (by simp [olds])
                  · have hi1 : k < b.length := (List.getElem?_eq_some_iff.1 hBk).1
                    have hav := (List.getElem?_eq_some_iff.1 hBk).2
                    refine awp_region cx [] fun K hK => ?_
                    simp [push_cast, hi1, hBk, hav, hvy, Row.row]
                    repeat (refine And.intro (by clear hK; intros; first | omega | (simp_all; done) | (simp_all <;> omega)) ?_)
                    refine hK _ ?_; clear hK K; refine Nav.imp ?_
                    refine awp_cond (b := false) (by simp [push_cast, hi1, hvy]) (fun hb => ?_) (fun hb => ?_) <;> (refine Nav.imp ?_)
                    · simp at hb
                    · refine awp_weak (s' := ⟨136, [(0, .d (.int .i64 op)), (4, .ptr 0 0 0), (5, .ptr 1 0 0), (6, .ptr 2 0 0), (7, .ptr 3 0 0), (8, .d (.int .i64 i')), (9, .d (.int .i64 k')), (10, .d (.int .i64 y)), (11, P), (12, Q)], [(0, some ⟨24, 1, [(regRow a).map .d]⟩), (1, some ⟨24, 1, [(regRow b).map .d]⟩), (2, some ⟨24, 1, [[.nl]]⟩), (3, some ⟨24, 1, [[.hs 4 0 Z.length]]⟩), (4, some ⟨52, 2, dr (Z.map Row.row)⟩)], 5⟩) ?_ key.h
                      rcases hPp with ⟨hP2, _⟩ | hP2
                      · refine weak_of [(0, some 0), (1, some 1), (2, some 2), (3, some 3), (4, some 4)] rfl (by simp [upT, up, upL, push_cast, hQ, hk', hP2]) (by simp [upH, upR, upL, up, push_cast, hQ, hk', hP2]) (by simp [namesOk, push_cast]) (by simp [olds])
                      · refine weak_of [(0, some 0), (1, some 1), (2, some 2), (3, some 3), (4, some 4)] rfl (by simp [upT, up, upL, push_cast, hQ, hk', hP2]) (by simp [upH, upR, upL, up, push_cast, hQ, hk', hP2]) (by simp [namesOk, push_cast]) (by simp [olds])
                  · have hi1 : k < b.length := (List.getElem?_eq_some_iff.1 hBk).1
                    have hav := (List.getElem?_eq_some_iff.1 hBk).2
                    refine awp_region cx [] fun K hK => ?_
                    simp [push_cast, hi1, hBk, hav, hvy, Row.row]
                    repeat (refine And.intro (by clear hK; intros; first | omega | (simp_all; done) | (simp_all <;> omega)) ?_)
                    refine hK _ ?_; clear hK K; refine Nav.imp ?_
                    refine awp_cond (b := true) (by simp [push_cast, hi1, hvy]) (fun hb => ?_) (fun hb => ?_) <;> (refine Nav.imp ?_)
                    · refine awp_region cx [] fun K hK => ?_
                      simp [push_cast, hi1, hBk, hav, Row.row]
                      repeat (refine And.intro (by clear hK; intros; first | omega | (simp_all; done) | (simp_all <;> omega)) ?_)
                      refine hK _ ?_; clear hK K; refine Nav.imp ?_
                      refine awp_region cx [] fun K hK => ?_
                      simp [push_cast, e2]
                      repeat (refine And.intro (by clear hK; intros; first | omega | (simp_all; done) | (simp_all <;> omega)) ?_)
                      refine hK _ ?_; clear hK K; refine Nav.imp ?_
                      refine awp_weak (s' := ⟨136, [(0, .d (.int .i64 op)), (4, .ptr 0 0 0), (5, .ptr 1 0 0), (6, .ptr 2 0 0), (7, .ptr 3 0 0), (8, .d (.int .i64 i')), (9, .d (.int .i64 k')), (10, .d (.int .i64 y)), (11, P), (12, Q)], [(0, some ⟨24, 1, [(regRow a).map .d]⟩), (1, some ⟨24, 1, [(regRow b).map .d]⟩), (2, some ⟨24, 1, [[.nl]]⟩), (3, some ⟨24, 1, [[.hs 4 0 Z.length]]⟩), (4, some ⟨52, 2, dr (Z.map Row.row)⟩)], 5⟩) ?_ key.h
                      rcases hPp with ⟨hP2, _⟩ | hP2
                      · refine weak_of [(0, some 0), (1, some 1), (2, some 2), (3, some 3), (4, some 4)] rfl (by simp [upT, up, upL, push_cast, hQ, hk', hP2]) (by simp [upH, upR, upL, up, push_cast, hQ, hk', hP2]) (by simp [namesOk, push_cast]) (by simp [olds])
                      · refine weak_of [(0, some 0), (1, some 1), (2, some 2), (3, some 3), (4, some 4)] rfl (by simp [upT, up, upL, push_cast, hQ, hk', hP2]) (by simp [upH, upR, upL, up, push_cast, hQ, hk', hP2]) (by simp [namesOk, push_cast]) (by simp [olds])
                    · simp at hb
                · refine Nav.imp ?_
                  apply cut_
                  · intro key
                    rcases hPp with ⟨hP, hp⟩ | hP <;> rcases hQp with ⟨hQ, hq⟩ | hQ
                    · rw [hp, hq] at g1
                      simp only [encRuns, List.map_nil] at g1
                      refine awp_region cx [(3, .p (encRuns r))] fun K hK => ?_
                      simp [push_cast, g1, hP, hQ]
                      repeat (refine And.intro (by clear hK; intros; first | omega | (simp_all; done) | (simp_all <;> omega)) ?_)
                      refine hK _ ?_; clear hK K; refine Nav.imp ?_
                      refine awp_weak (s' := ⟨136, [(0, .d (.int .i64 op)), (4, .ptr 0 0 0), (5, .ptr 1 0 0), (6, .ptr 2 0 0), (7, .ptr 3 0 0), (8, .d (.int .i64 i')), (9, .d (.int .i64 k')), (10, .d (.int .i64 y)), (13, .d (encRuns r))], [(0, some ⟨24, 1, [(regRow a).map .d]⟩), (1, some ⟨24, 1, [(regRow b).map .d]⟩), (2, some ⟨24, 1, [[.nl]]⟩), (3, some ⟨24, 1, [[.hs 4 0 Z.length]]⟩), (4, some ⟨52, 2, dr (Z.map Row.row)⟩)], 5⟩) ?_ key.h
                      refine weak_of [(0, some 0), (1, some 1), (2, some 2), (3, some 3), (4, some 4)] rfl (by simp [upT, up, upL, push_cast]) (by simp [upH, upR, upL, up, push_cast]) (by simp [namesOk, push_cast]) (by simp [olds])
                    · rw [hp] at g1
                      have he : encRuns [] = .sl [] := rfl
                      rw [he] at g1
                      refine awp_region cx [(3, .p (encRuns r))] fun K hK => ?_
                      simp [push_cast, g1, hP, hQ]
                      repeat (refine And.intro (by clear hK; intros; first | omega | (simp_all; done) | (simp_all <;> omega)) ?_)
                      refine hK _ ?_; clear hK K; refine Nav.imp ?_
                      refine awp_weak (s' := ⟨136, [(0, .d (.int .i64 op)), (4, .ptr 0 0 0), (5, .ptr 1 0 0), (6, .ptr 2 0 0), (7, .ptr 3 0 0), (8, .d (.int .i64 i')), (9, .d (.int .i64 k')), (10, .d (.int .i64 y)), (13, .d (encRuns r))], [(0, some ⟨24, 1, [(regRow a).map .d]⟩), (1, some ⟨24, 1, [(regRow b).map .d]⟩), (2, some ⟨24, 1, [[.nl]]⟩), (3, some ⟨24, 1, [[.hs 4 0 Z.length]]⟩), (4, some ⟨52, 2, dr (Z.map Row.row)⟩)], 5⟩) ?_ key.h
                      refine weak_of [(0, some 0), (1, some 1), (2, some 2), (3, some 3), (4, some 4)] rfl (by simp [upT, up, upL, push_cast]) (by simp [upH, upR, upL, up, push_cast]) (by simp [namesOk, push_cast]) (by simp [olds])
                    · rw [hq] at g1
                      have he : encRuns [] = .sl [] := rfl
                      rw [he] at g1
                      refine awp_region cx [(3, .p (encRuns r))] fun K hK => ?_
                      simp [push_cast, g1, hP, hQ]
                      repeat (refine And.intro (by clear hK; intros; first | omega | (simp_all; done) | (simp_all <;> omega)) ?_)
                      refine hK _ ?_; clear hK K; refine Nav.imp ?_
                      refine awp_weak (s' := ⟨136, [(0, .d (.int .i64 op)), (4, .ptr 0 0 0), (5, .ptr 1 0 0), (6, .ptr 2 0 0), (7, .ptr 3 0 0), (8, .d (.int .i64 i')), (9, .d (.int .i64 k')), (10, .d (.int .i64 y)), (13, .d (encRuns r))], [(0, some ⟨24, 1, [(regRow a).map .d]⟩), (1, some ⟨24, 1, [(regRow b).map .d]⟩), (2, some ⟨24, 1, [[.nl]]⟩), (3, some ⟨24, 1, [[.hs 4 0 Z.length]]⟩), (4, some ⟨52, 2, dr (Z.map Row.row)⟩)], 5⟩) ?_ key.h
                      refine weak_of [(0, some 0), (1, some 1), (2, some 2), (3, some 3), (4, some 4)] rfl (by simp [upT, up, upL, push_cast]) (by simp [upH, upR, upL, up, push_cast]) (by simp [namesOk, push_cast]) (by simp [olds])
                    · refine awp_region cx [(3, .p (encRuns r))] fun K hK => ?_
                      simp [push_cast, g1, hP, hQ]
                      repeat (refine And.intro (by clear hK; intros; first | omega | (simp_all; done) | (simp_all <;> omega)) ?_)
                      refine hK _ ?_; clear hK K; refine Nav.imp ?_
                      refine awp_weak (s' := ⟨136, [(0, .d (.int .i64 op)), (4, .ptr 0 0 0), (5, .ptr 1 0 0), (6, .ptr 2 0 0), (7, .ptr 3 0 0), (8, .d (.int .i64 i')), (9, .d (.int .i64 k')), (10, .d (.int .i64 y)), (13, .d (encRuns r))], [(0, some ⟨24, 1, [(regRow a).map .d]⟩), (1, some ⟨24, 1, [(regRow b).map .d]⟩), (2, some ⟨24, 1, [[.nl]]⟩), (3, some ⟨24, 1, [[.hs 4 0 Z.length]]⟩), (4, some ⟨52, 2, dr (Z.map Row.row)⟩)], 5⟩) ?_ key.h
                      refine weak_of [(0, some 0), (1, some 1), (2, some 2), (3, some 3), (4, some 4)] rfl (by simp [upT, up, upL, push_cast]) (by simp [upH, upR, upL, up, push_cast]) (by simp [namesOk, push_cast]) (by simp [olds])
                  · refine Nav.imp ?_
                    refine awp_region cx [] fun K hK => ?_
                    simp [push_cast]
                    repeat (refine And.intro (by clear hK; intros; first | omega | (simp_all; done) | (simp_all <;> omega)) ?_)
                    refine hK _ ?_; clear hK K; refine Nav.imp ?_
                    refine awp_cond (b := decide (0 < (r.length : Int))) (by simp [push_cast]) (fun hb => ?_) (fun hb => ?_) <;> (refine Nav.imp ?_)
                    · have hb : 0 < r.length := by simp at hb; omega
                      have hne : r ≠ [] := List.length_pos_iff.1 hb
                      rw [if_neg hne] at s3
                      refine awp_region cx [] fun K hK => ?_
                      simp [push_cast, hZ32]
                      repeat (refine And.intro (by clear hK; intros; first | omega | (simp_all; done) | (simp_all <;> omega)) ?_)
                      refine hK _ ?_; clear hK K; refine Nav.imp ?_
                      refine ⟨(i', k', Z ++ [⟨y, r⟩]), s3, by (try clear hPs); (try clear hQs); simp only; omega, ?_⟩
                      refine weak_of [(0, some 0), (1, some 1), (2, some 2), (3, some 3), (4, some 14)] rfl (by simp [upT, up, upL, push_cast, Row.row]) (by simp [upH, upR, upL, up, push_cast, Row.row]) (by simp [namesOk, push_cast]) (by simp [olds])
                    · have hb : r = [] := by simpa using hb
                      rw [if_pos hb, List.append_nil] at s3
                      refine ⟨(i', k', Z), s3, by (try clear hPs); (try clear hQs); simp only; omega, ?_⟩
                      refine weak_of [(0, some 0), (1, some 1), (2, some 2), (3, some 3), (4, some 4)] rfl (by simp [upT, up, upL, push_cast, Row.row]) (by simp [upH, upR, upL, up, push_cast, Row.row]) (by simp [namesOk, push_cast]) (by simp [olds])
          · have hi : i = a.length := by omega
            have hk : k = b.length := by omega
            subst hi hk
            have hz := hend Z hat
            subst hz
            refine awp_region cx [] fun K hK => ?_
            simp [push_cast]
            repeat (refine And.intro (by clear hK; intros; first | omega | (simp_all; done) | (simp_all <;> omega)) ?_)
            refine hK _ ?_; clear hK K; refine Nav.imp ?_
            refine awp_cond (b := false) (by simp [push_cast]) (fun hb => ?_) (fun hb => ?_) <;> (refine Nav.imp ?_)
            · simp at hb
            · refine awp_freeze 4 (Z.map Row.row) rfl (by simp [push_cast, Row.row]) fun K hK => ?_
              simp [push_cast, St.fz, fzT, fzH, fzO, fz, fzL, fzR, fzR_dr, fzR_app, fzR_set, fzL_map, Row.row]
              refine hK _ ?_; clear hK K; refine Nav.imp ?_
              refine awp_region cx [] fun K hK => ?_
              simp [push_cast]
              repeat (refine And.intro (by clear hK; intros; first | omega | (simp_all; done) | (simp_all <;> omega)) ?_)
              refine hK _ ?_; clear hK K; refine Nav.imp ?_
              simp [push_cast]
end Go.Proofs.YtagakfaiimaifaaGreat

set_option linter.unusedVariables false
set_option linter.unusedSimpArgs false
set_option maxRecDepth 100000
namespace Go.Proofs.YtagakfaiimaifaaGreat
open Go.Abs

/-! A valid region is small. -/
theorem fine_low {l : List Run} (h : fine l = true) : ∀ (k : Nat) (r : Run), l[k]? = some r → -4096 + (k : Int) ≤ r.a
  | 0, r, hr => by have := fine_at h hr; simp; omega
  | k + 1, r, hr => by
    have hk := (List.getElem?_eq_some_iff.1 hr).1
    obtain ⟨p, hp⟩ : ∃ p, l[k]? = some p := getq (by omega)
    have h1 := fine_low h k p hp
    have h2 := fine_gap h hr hp
    have h3 := fine_at h hp
    simp; omega
theorem rows_low {R : List Row} (h : validR R = true) : ∀ (k : Nat) (w : Row), R[k]? = some w → -4096 + (k : Int) ≤ w.y
  | 0, w, hw => by have := validR_at h hw; simp; omega
  | k + 1, w, hw => by
    have hk := (List.getElem?_eq_some_iff.1 hw).1
    obtain ⟨p, hp⟩ : ∃ p, R[k]? = some p := getq (by omega)
    have h1 := rows_low h k p hp
    have h2 := validR_gap h hw hp
    simp; omega
theorem valid_small {R : List Row} (h : validR R = true) : smallR R := by
  refine ⟨?_, fun w hw => ?_⟩
  · by_cases e : R.length ≤ 8192
    · omega
    · obtain ⟨w, hw⟩ := getq (show 8192 < R.length by omega)
      have h1 := rows_low h 8192 w hw
      have h2 := validR_at h hw
      simp at h1; omega
  · have hf := (row_fine h hw).2
    by_cases e : w.runs.length ≤ 8192
    · omega
    · obtain ⟨r, hr⟩ := getq (show 8192 < w.runs.length by omega)
      have h1 := fine_low hf 8192 r hr
      have h2 := fine_at hf hr
      simp at h1; omega

/-! Regions compared. -/



def sameB (a b : List Row) : Bool := validR a && validR b && decide (a = b)

end Go.Proofs.YtagakfaiimaifaaGreat

set_option linter.unusedVariables false
set_option linter.unusedSimpArgs false
set_option maxRecDepth 100000
namespace Go.Proofs.YtagakfaiimaifaaGreat
open Go.Abs

def withinB (a b : List Row) : Bool := validR a && validR b && decide ((opR fD a b).length = 0)

end Go.Proofs.YtagakfaiimaifaaGreat

set_option linter.unusedVariables false
set_option linter.unusedSimpArgs false
set_option maxRecDepth 100000
namespace Go.Proofs.YtagakfaiimaifaaGreat
open Go.Abs



theorem rsubtract_big (a b : List Row) (hA : bigR a) (hB : bigR b) : PC Tryz.prog 33 [.agg (regRow a), .agg (regRow b)] (.p (.agg (regRow (opR fD a b)))) := by
  have c1 := operated_big 2 fD rfl keptD a b hA hB
  generalize opR fD a b = r at *
  refine pc_of_awp cx (fn := Tryz.f33) (c := _) Tryz.func33 rfl rfl (Nat.le_of_ble_eq_true rfl) ?_
  rw [Tryz.ntmps33]; refine Nav.imp ?_
  refine awp_region cx [] fun K hK => ?_
  simp [push_cast]
  repeat (refine And.intro (by clear hK; intros; first | omega | (simp_all; done) | (simp_all <;> omega)) ?_)
  refine hK _ ?_; clear hK K; refine Nav.imp ?_
  refine awp_region cx [(2, .p (.agg (regRow r)))] fun K hK => ?_
  simp [push_cast, c1]
  repeat (refine And.intro (by clear hK; intros; first | omega | (simp_all; done) | (simp_all <;> omega)) ?_)
  refine hK _ ?_; clear hK K; refine Nav.imp ?_
  simp [push_cast]


theorem rsubtract_ok (a b : List Row) (hA : smallR a) (hB : smallR b) : PC Tryz.prog 33 [.agg (regRow a), .agg (regRow b)] (.p (.agg (regRow (opR fD a b)))) := rsubtract_big a b (big_of hA) (big_of hB)

theorem opR_small {f : Bool → Bool → Bool} (hf : f false false = false) (a b : List Row) : smallR (opR f a b) := by
  cases ha : validR a with
  | false => rw [show opR f a b = [] from by simp [opR, ha]]; exact ⟨by simp, by simp⟩
  | true =>
    cases hb : validR b with
    | false => rw [show opR f a b = [] from by simp [opR, ha, hb]]; exact ⟨by simp, by simp⟩
    | true => exact valid_small (opR_facts hf ha hb).1
end Go.Proofs.YtagakfaiimaifaaGreat
