/-
  Texts of this seat put together: X3, X6, U1, U2, U3, U4, U5, S9.
-/
import Derived.Test.YtgicofpllopjmaaDoorJ7
import Derived.Test.YtgicofpllopjmaaDoorJ5
import Derived.Test.YtgicofpllopjmaaDoorJ6
set_option linter.unusedVariables false
set_option linter.unusedSimpArgs false
set_option maxRecDepth 100000
namespace Go.Proofs.YtgicofpllopjmaaDoor
open Go.Abs

def LbAt (R : List Row) (y : Int) (i : Nat) : Prop := i ≤ R.length ∧ (∀ j w, R[j]? = some w → (j < i ↔ w.y < y))
theorem lb_exists : ∀ {R : List Row}, (R.Pairwise fun a b => a.y < b.y) → ∀ y, ∃ i, LbAt R y i
  | [], _, y => ⟨0, by simp, fun j w h => by simp at h⟩
  | w :: R, h, y => by
    have h1 := List.pairwise_cons.1 h
    by_cases e : w.y < y
    · obtain ⟨i, hi, hp⟩ := lb_exists h1.2 y
      refine ⟨i + 1, by simp; exact hi, fun j v hv => ?_⟩
      cases j with
      | zero => simp at hv; subst hv; simp [e]
      | succ j => simp at hv; have := hp j v hv; omega
    · refine ⟨0, by simp, fun j v hv => ?_⟩
      cases j with
      | zero => simp at hv; subst hv; simp; omega
      | succ j => simp at hv; have := h1.1 v (List.mem_of_getElem? hv); omega

theorem rowcmp_ok (w : Row) (y : Int) : PC Tryd.prog 45 [.agg w.row, .int .i64 y] (.p (.int .i64 (cmpI w.y y))) := by
  have c1 := compare_ok w.y y
  obtain ⟨wy, wr⟩ := w
  simp only at c1
  generalize cmpI wy y = z at *
  refine pc_of_awp cx (fn := Tryd.f45) (c := _) Tryd.func45 rfl rfl (Nat.le_of_ble_eq_true rfl) ?_
  rw [Tryd.ntmps45]; refine Nav.imp ?_
  refine awp_region cx [] fun K hK => ?_
  simp [push_cast, Row.row]
  repeat (refine And.intro (by clear hK; intros; first | omega | (simp_all; done) | (simp_all <;> omega)) ?_)
  refine hK _ ?_; clear hK K; refine Nav.imp ?_
  refine awp_region cx [(3, .p (.int .i64 z))] fun K hK => ?_
  simp [push_cast, c1, Row.row]
  repeat (refine And.intro (by clear hK; intros; first | omega | (simp_all; done) | (simp_all <;> omega)) ?_)
  refine hK _ ?_; clear hK K; refine Nav.imp ?_
  simp [push_cast]

theorem cmpI_lt {a b : Int} : (cmpI a b < 0) ↔ a < b := by unfold cmpI; split <;> (try split) <;> omega
theorem cmpI_eq {a b : Int} : (cmpI a b = 0) ↔ a = b := by unfold cmpI; split <;> (try split) <;> omega

set_option maxHeartbeats 1000000 in
theorem bsearch_ok (R : List Row) (y : Int) (i : Nat) (hl : R.length ≤ 1000000) (hi : LbAt R y i) : PC Tryd.prog 44 [encRows R, .int .i64 y, .fn (.func 45) []] (.p (.tup [.int .i64 i, .bool (match R[i]? with | some w => decide (w.y = y) | none => false)])) := by
  obtain ⟨hil, hip⟩ := hi
  refine pc_of_awp cx (fn := Tryd.f44) (c := _) Tryd.func44 rfl rfl (Nat.le_of_ble_eq_true rfl) ?_
  rw [Tryd.ntmps44]; refine Nav.imp ?_
  refine awp_region cx [] fun K hK => ?_
  simp [push_cast]
  repeat (refine And.intro (by clear hK; intros; first | omega | (simp_all; done) | (simp_all <;> omega)) ?_)
  refine hK _ ?_; clear hK K; refine Nav.imp ?_
  refine awp_region cx [] fun K hK => ?_
  simp [push_cast]
  repeat (refine And.intro (by clear hK; intros; first | omega | (simp_all; done) | (simp_all <;> omega)) ?_)
  refine hK _ ?_; clear hK K; refine Nav.imp ?_
  refine awp_region cx [] fun K hK => ?_
  simp [push_cast]
  repeat (refine And.intro (by clear hK; intros; first | omega | (simp_all; done) | (simp_all <;> omega)) ?_)
  refine hK _ ?_; clear hK K; refine Nav.imp ?_
  refine awp_loop (β := Nat × Nat) (fun b => ⟨49, [(0, .d (encRows R)), (1, .d (.int .i64 y)), (2, .d (.fn (.func 45) [])), (8, .d (.int .i64 R.length)), (9, .d (.int .i64 b.1)), (10, .d (.int .i64 b.2))], [], 0⟩) (fun b => b.1 ≤ i ∧ i ≤ b.2 ∧ b.2 ≤ R.length) (fun b => b.2 - b.1) (0, R.length) ?_ ⟨Nat.zero_le _, hil, Nat.le_refl _⟩ ?_
  · refine weak_of [] rfl (by simp [upT, up, upL, push_cast]) (by simp [upH, upR, upL, up, push_cast]) (by simp [namesOk, push_cast]) (by simp [olds])
  · rintro ⟨lo, hi⟩ ⟨h1, h2, h3⟩
    simp only at h1 h2 h3
    refine Nav.imp ?_
    refine awp_region cx [] fun K hK => ?_
    simp [push_cast]
    repeat (refine And.intro (by clear hK; intros; first | omega | (simp_all; done) | (simp_all <;> omega)) ?_)
    refine hK _ ?_; clear hK K; refine Nav.imp ?_
    refine awp_cond (b := decide (lo < hi)) (by simp [push_cast]) (fun hb => ?_) (fun hb => ?_) <;> (refine Nav.imp ?_)
    · have hlh : lo < hi := by simpa using hb
      have e1 := wrap_i64 (n := (lo : Int) + hi) (by omega) (by omega)
      have e2 : IntKind.u64.wrap ((lo : Int) + hi) = (lo : Int) + hi := by rw [IntKind.wrap_u64]; omega
      obtain ⟨h, hh⟩ : ∃ h : Nat, h = (lo + hi) / 2 := ⟨_, rfl⟩
      have e3 : ((lo : Int) + hi).fdiv (2 ^ min 1 IntKind.u64.bits) = h := by
        have : (2 : Int) ^ min 1 IntKind.u64.bits = 2 := by decide
        rw [this, Int.fdiv_eq_ediv_of_nonneg _ (by omega)]; omega
      have e4 := wrap_i64 (n := (h : Int)) (by omega) (by omega)
      have hhl : h < R.length := by omega
      obtain ⟨w, hw⟩ := getq hhl
      have hip' := hip h w hw
      have c1 := rowcmp_ok w y
      have hz : (decide (cmpI w.y y < 0)) = decide (w.y < y) := by rw [Bool.eq_iff_iff]; simp [cmpI_lt]
      have e5 := wrap_i64 (n := (h : Int) + 1) (by omega) (by omega)
      generalize cmpI w.y y = z at *
      refine awp_region cx [] fun K hK => ?_
      simp [push_cast, e1, e2, e3, e4]
      repeat (refine And.intro (by clear hK; intros; first | omega | (simp_all; done) | (simp_all <;> omega)) ?_)
      refine hK _ ?_; clear hK K; refine Nav.imp ?_
      refine awp_region cx [(6, .p (.int .i64 z))] fun K hK => ?_
      simp [push_cast, hw, c1, hz]
      repeat (refine And.intro (by clear hK; intros; first | omega | (simp_all; done) | (simp_all <;> omega)) ?_)
      refine hK _ ?_; clear hK K; refine Nav.imp ?_
      refine awp_cond (b := decide (w.y < y)) (by simp [push_cast]) (fun hb => ?_) (fun hb => ?_) <;> (refine Nav.imp ?_)
      · have hb : w.y < y := by simpa using hb
        refine awp_region cx [] fun K hK => ?_
        simp [push_cast, e5]
        repeat (refine And.intro (by clear hK; intros; first | omega | (simp_all; done) | (simp_all <;> omega)) ?_)
        refine hK _ ?_; clear hK K; refine Nav.imp ?_
        refine ⟨(h + 1, hi), ⟨by simp only; omega, h2, h3⟩, by simp only; omega, ?_⟩
        refine weak_of [] rfl (by simp [upT, up, upL, push_cast]) (by simp [upH, upR, upL, up, push_cast]) (by simp [namesOk, push_cast]) (by simp [olds])
      · have hb : ¬ w.y < y := by simpa using hb
        refine awp_region cx [] fun K hK => ?_
        simp [push_cast]
        repeat (refine And.intro (by clear hK; intros; first | omega | (simp_all; done) | (simp_all <;> omega)) ?_)
        refine hK _ ?_; clear hK K; refine Nav.imp ?_
        refine ⟨(lo, h), ⟨h1, by simp only; omega, by simp only; omega⟩, by simp only; omega, ?_⟩
        refine weak_of [] rfl (by simp [upT, up, upL, push_cast]) (by simp [upH, upR, upL, up, push_cast]) (by simp [namesOk, push_cast]) (by simp [olds])
    · have hlh : ¬ lo < hi := by simpa using hb
      have : lo = i := by omega
      subst this
      cases hw : R[lo]? with
      | none =>
        have hge : ¬ lo < R.length := fun h => by rw [List.getElem?_eq_getElem h] at hw; cases hw
        have hge' : ¬ (lo : Int) < R.length := by omega
        refine awp_region cx [(11, .skip)] fun K hK => ?_
        simp [push_cast, hw, hge, hge']
        repeat (refine And.intro (by clear hK; intros; first | omega | (simp_all; done) | (simp_all <;> omega)) ?_)
        refine hK _ ?_; clear hK K; refine Nav.imp ?_
        simp [push_cast, hw]
      | some w =>
        have hlt := (List.getElem?_eq_some_iff.1 hw).1
        have hlt' : (lo : Int) < R.length := by omega
        have c1 := rowcmp_ok w y
        have hz : (cmpI w.y y == 0) = decide (w.y = y) := by rw [Bool.eq_iff_iff]; simp [cmpI_eq]
        generalize cmpI w.y y = z at *
        refine awp_region cx [(11, .p (.int .i64 z))] fun K hK => ?_
        simp [push_cast, hw, c1, hlt', Row.row, hz]
        repeat (refine And.intro (by clear hK; intros; first | omega | (simp_all; done) | (simp_all <;> omega)) ?_)
        refine hK _ ?_; clear hK K; refine Nav.imp ?_
        simp [push_cast, hlt, hz]

theorem row_ok (R : List Row) (y : Int) (hR : smallR R) (hv : validR R = true) : PC Tryd.prog 19 [.agg (regRow R), .int .i64 y] (.p (encRuns (rowOf R y))) := by
  obtain ⟨i, hi⟩ := lb_exists (rows_pw hv) y
  have c1 := bsearch_ok R y i hR.1 hi
  have hl := hR.1
  cases hw : R[i]? with
  | none =>
    rw [hw] at c1
    simp only at c1
    have hn : rowOf R y = [] := by
      refine rowOf_none fun w hwm hy => ?_
      obtain ⟨j, hj⟩ := List.mem_iff_getElem?.1 hwm
      have h1 := (List.getElem?_eq_some_iff.1 hj).1
      have h2 : ¬ i < R.length := fun h => by rw [List.getElem?_eq_getElem h] at hw; cases hw
      have := (hi.2 j w hj).1 (by omega)
      omega
    rw [hn]
    refine pc_of_awp cx (fn := Tryd.f19) (c := _) Tryd.func19 rfl rfl (Nat.le_of_ble_eq_true rfl) ?_
    rw [Tryd.ntmps19]; refine Nav.imp ?_
    refine awp_region cx [] fun K hK => ?_
    simp [push_cast]
    repeat (refine And.intro (by clear hK; intros; first | omega | (simp_all; done) | (simp_all <;> omega)) ?_)
    refine hK _ ?_; clear hK K; refine Nav.imp ?_
    refine awp_region cx [(3, .p (.tup [.int .i64 i, .bool false]))] fun K hK => ?_
    simp [push_cast, c1]
    repeat (refine And.intro (by clear hK; intros; first | omega | (simp_all; done) | (simp_all <;> omega)) ?_)
    refine hK _ ?_; clear hK K; refine Nav.imp ?_
    refine awp_region cx [] fun K hK => ?_
    simp [push_cast]
    repeat (refine And.intro (by clear hK; intros; first | omega | (simp_all; done) | (simp_all <;> omega)) ?_)
    refine hK _ ?_; clear hK K; refine Nav.imp ?_
    refine awp_cond (b := true) (by simp [push_cast]) (fun hb => ?_) (fun hb => ?_) <;> (refine Nav.imp ?_)
    · refine awp_region cx [] fun K hK => ?_
      simp [push_cast]
      repeat (refine And.intro (by clear hK; intros; first | omega | (simp_all; done) | (simp_all <;> omega)) ?_)
      refine hK _ ?_; clear hK K; refine Nav.imp ?_
      simp [push_cast]
    · simp at hb
  | some w =>
    rw [hw] at c1
    simp only at c1
    have hwm := List.mem_of_getElem? hw
    by_cases e : w.y = y
    · rw [decide_eq_true e] at c1
      have hn : rowOf R y = w.runs := by rw [← e]; exact rowOf_mem hv hwm
      rw [hn]
      obtain ⟨wy, wr⟩ := w
      refine pc_of_awp cx (fn := Tryd.f19) (c := _) Tryd.func19 rfl rfl (Nat.le_of_ble_eq_true rfl) ?_
      rw [Tryd.ntmps19]; refine Nav.imp ?_
      refine awp_region cx [] fun K hK => ?_
      simp [push_cast]
      repeat (refine And.intro (by clear hK; intros; first | omega | (simp_all; done) | (simp_all <;> omega)) ?_)
      refine hK _ ?_; clear hK K; refine Nav.imp ?_
      refine awp_region cx [(3, .p (.tup [.int .i64 i, .bool true]))] fun K hK => ?_
      simp [push_cast, c1]
      repeat (refine And.intro (by clear hK; intros; first | omega | (simp_all; done) | (simp_all <;> omega)) ?_)
      refine hK _ ?_; clear hK K; refine Nav.imp ?_
      refine awp_region cx [] fun K hK => ?_
      simp [push_cast]
      repeat (refine And.intro (by clear hK; intros; first | omega | (simp_all; done) | (simp_all <;> omega)) ?_)
      refine hK _ ?_; clear hK K; refine Nav.imp ?_
      refine awp_cond (b := false) (by simp [push_cast]) (fun hb => ?_) (fun hb => ?_) <;> (refine Nav.imp ?_)
      · simp at hb
      · refine awp_region cx [] fun K hK => ?_
        simp [push_cast, hw, Row.row]
        repeat (refine And.intro (by clear hK; intros; first | omega | (simp_all; done) | (simp_all <;> omega)) ?_)
        refine hK _ ?_; clear hK K; refine Nav.imp ?_
        simp [push_cast]
    · rw [decide_eq_false e] at c1
      have hn : rowOf R y = [] := by
        refine rowOf_none fun v hvm hy => ?_
        obtain ⟨j, hj⟩ := List.mem_iff_getElem?.1 hvm
        have h1 := hi.2 j v hj
        have h2 := hi.2 i w hw
        rcases Nat.lt_trichotomy j i with h | h | h
        · have := h1.1 h; omega
        · subst h; rw [hw] at hj; cases hj; exact e hy
        · have := rows_lt hv j i v w h hj hw; omega
      rw [hn]
      refine pc_of_awp cx (fn := Tryd.f19) (c := _) Tryd.func19 rfl rfl (Nat.le_of_ble_eq_true rfl) ?_
      rw [Tryd.ntmps19]; refine Nav.imp ?_
      refine awp_region cx [] fun K hK => ?_
      simp [push_cast]
      repeat (refine And.intro (by clear hK; intros; first | omega | (simp_all; done) | (simp_all <;> omega)) ?_)
      refine hK _ ?_; clear hK K; refine Nav.imp ?_
      refine awp_region cx [(3, .p (.tup [.int .i64 i, .bool false]))] fun K hK => ?_
      simp [push_cast, c1]
      repeat (refine And.intro (by clear hK; intros; first | omega | (simp_all; done) | (simp_all <;> omega)) ?_)
      refine hK _ ?_; clear hK K; refine Nav.imp ?_
      refine awp_region cx [] fun K hK => ?_
      simp [push_cast]
      repeat (refine And.intro (by clear hK; intros; first | omega | (simp_all; done) | (simp_all <;> omega)) ?_)
      refine hK _ ?_; clear hK K; refine Nav.imp ?_
      refine awp_cond (b := true) (by simp [push_cast]) (fun hb => ?_) (fun hb => ?_) <;> (refine Nav.imp ?_)
      · refine awp_region cx [] fun K hK => ?_
        simp [push_cast]
        repeat (refine And.intro (by clear hK; intros; first | omega | (simp_all; done) | (simp_all <;> omega)) ?_)
        refine hK _ ?_; clear hK K; refine Nav.imp ?_
        simp [push_cast]
      · simp at hb
end Go.Proofs.YtgicofpllopjmaaDoor

namespace Go.Proofs.YtgicofpllopjmaaDoor
open Go.Abs

def hitB (x : Int) (r : Run) : Bool := decide (r.a ≤ x) && decide (x < r.b)
def conB (R : List Row) (c : Cell) : Bool := validR R && inR (rowOf R c.y) c.x
def idxR (l : List Run) (x : Int) : Int := if inR l x then ((l.takeWhile fun q => !hitB x q).length : Nat) else -1





end Go.Proofs.YtgicofpllopjmaaDoor

namespace Go.Proofs.YtgicofpllopjmaaDoor
open Go.Abs

def lenN (l : List Run) : Nat := (l.flatMap (runCells 0)).length
theorem lenN_take {l : List Run} {k : Nat} {r : Run} (h : l[k]? = some r) : lenN (l.take (k + 1)) = lenN (l.take k) + (r.b - r.a).toNat := by
  unfold lenN
  rw [flat_take _ h, List.length_append, runCells_len]
theorem rowCells_len (w : Row) : (rowCells w).length = lenN w.runs := by
  unfold rowCells lenN
  rw [List.length_flatMap, List.length_flatMap]
  simp only [runCells_len]
theorem lenN_bound {l : List Run} (h : rvalid l = true) : ∀ k, k ≤ l.length → lenN (l.take k) ≤ k * 2097152
  | 0, _ => by simp [lenN]
  | k + 1, hk => by
    obtain ⟨r, hr⟩ := getq (show k < l.length by omega)
    have h1 := lenN_bound h k (by omega)
    have h2 := fitsB_bd (rvalid_at h hr).2
    rw [lenN_take hr, Nat.succ_mul]
    omega

theorem length_ok (l : List Run) (hl : l.length ≤ 1000000) (hv : rvalid l = true) : PC Tryd.prog 69 [encRuns l] (.p (.int .i64 (lenN l))) := by
  have c1 := rvalid_ok l hl
  rw [hv] at c1
  refine pc_of_awp cx (fn := Tryd.f69) (c := _) Tryd.func69 rfl rfl (Nat.le_of_ble_eq_true rfl) ?_
  rw [Tryd.ntmps69]; refine Nav.imp ?_
  refine awp_region cx [] fun K hK => ?_
  simp [push_cast]
  repeat (refine And.intro (by clear hK; intros; first | omega | (simp_all; done) | (simp_all <;> omega)) ?_)
  refine hK _ ?_; clear hK K; refine Nav.imp ?_
  refine awp_region cx [(1, .p (.bool true))] fun K hK => ?_
  simp [push_cast, c1]
  repeat (refine And.intro (by clear hK; intros; first | omega | (simp_all; done) | (simp_all <;> omega)) ?_)
  refine hK _ ?_; clear hK K; refine Nav.imp ?_
  refine awp_cond (b := false) (by simp [push_cast]) (fun hb => ?_) (fun hb => ?_) <;> (refine Nav.imp ?_)
  · simp at hb
  · refine awp_region cx [] fun K hK => ?_
    simp [push_cast]
    repeat (refine And.intro (by clear hK; intros; first | omega | (simp_all; done) | (simp_all <;> omega)) ?_)
    refine hK _ ?_; clear hK K; refine Nav.imp ?_
    refine awp_region cx [] fun K hK => ?_
    simp [push_cast]
    repeat (refine And.intro (by clear hK; intros; first | omega | (simp_all; done) | (simp_all <;> omega)) ?_)
    refine hK _ ?_; clear hK K; refine Nav.imp ?_
    refine awp_loop (β := Nat × Nat) (fun b => ⟨24, [(3, .d (.int .i64 b.2)), (9, .d (encRuns l)), (10, .d (.int .i64 l.length)), (11, .d (.int .i64 b.1))], [], 0⟩) (fun b => b.1 ≤ l.length ∧ b.2 = lenN (l.take b.1)) (fun b => l.length - b.1) (0, 0) ?_ ⟨Nat.zero_le _, by simp [lenN]⟩ ?_
    · refine weak_of [] rfl (by simp [upT, up, upL, push_cast]) (by simp [upH, upR, upL, up, push_cast]) (by simp [namesOk, push_cast]) (by simp [olds])
    · rintro ⟨k, n0⟩ ⟨hk, hn⟩
      simp only at hk hn
      refine Nav.imp ?_
      refine awp_region cx [] fun K hK => ?_
      simp [push_cast]
      repeat (refine And.intro (by clear hK; intros; first | omega | (simp_all; done) | (simp_all <;> omega)) ?_)
      refine hK _ ?_; clear hK K; refine Nav.imp ?_
      refine awp_cond (b := decide ((k : Int) < l.length)) (by simp [push_cast]) (fun hb => ?_) (fun hb => ?_) <;> (refine Nav.imp ?_)
      · have hlt : k < l.length := by simpa using hb
        obtain ⟨r, hr⟩ := getq hlt
        have hs := lenN_take hr
        have hbd := lenN_bound hv k (by omega)
        rw [← hn] at hs hbd
        have hrf := rvalid_at hv hr
        have hf := fitsB_bd hrf.2
        obtain ⟨ra, rb⟩ := r
        simp only at hs hrf hf
        have e0 := wrap_i64 (n := (k : Int) + 1) (by omega) (by omega)
        have e1 := wrap_i64 (n := rb - ra) (by omega) (by omega)
        have e2 := wrap_i64 (n := (n0 : Int) + (rb - ra)) (by omega) (by omega)
        have e3 : (n0 : Int) + (rb - ra) = (lenN (l.take (k + 1)) : Nat) := by rw [hs]; omega
        rw [e3] at e2
        generalize hn1 : lenN (l.take (k + 1)) = n1 at *
        refine awp_region cx [] fun K hK => ?_
        simp [push_cast, hr, Run.row]
        repeat (refine And.intro (by clear hK; intros; first | omega | (simp_all; done) | (simp_all <;> omega)) ?_)
        refine hK _ ?_; clear hK K; refine Nav.imp ?_
        refine awp_region cx [] fun K hK => ?_
        simp [push_cast, e1, e2, e3, Run.row]
        repeat (refine And.intro (by clear hK; intros; first | omega | (simp_all; done) | (simp_all <;> omega)) ?_)
        refine hK _ ?_; clear hK K; refine Nav.imp ?_
        refine awp_region cx [] fun K hK => ?_
        simp [push_cast, e0]
        repeat (refine And.intro (by clear hK; intros; first | omega | (simp_all; done) | (simp_all <;> omega)) ?_)
        refine hK _ ?_; clear hK K; refine Nav.imp ?_
        refine ⟨(k + 1, n1), ⟨hlt, hn1.symm⟩, by simp only; omega, ?_⟩
        refine weak_of [] rfl (by simp [upT, up, upL, push_cast]) (by simp [upH, upR, upL, up, push_cast]) (by simp [namesOk, push_cast]) (by simp [olds])
      · have hge : k = l.length := by simp at hb; omega
        subst hge
        rw [List.take_length] at hn
        subst hn
        refine awp_region cx [] fun K hK => ?_
        simp [push_cast]
        repeat (refine And.intro (by clear hK; intros; first | omega | (simp_all; done) | (simp_all <;> omega)) ?_)
        refine hK _ ?_; clear hK K; refine Nav.imp ?_
        simp [push_cast]

def countR (R : List Row) : Nat := if validR R then (regCells R).length else 0
theorem rows_bound {R : List Row} (h : validR R = true) (hR : smallR R) : ∀ i, i ≤ R.length → (rowsTo R i).length ≤ i * 2097152000000
  | 0, _ => by simp [rowsTo]
  | i + 1, hi => by
    obtain ⟨w, hw⟩ := getq (show i < R.length by omega)
    have h1 := rows_bound h hR i (by omega)
    have h2 := lenN_bound (fine_rv (validR_at h hw).2) w.runs.length (Nat.le_refl _)
    have h3 := hR.2 w (List.mem_of_getElem? hw)
    rw [rowsTo_next hw, List.length_append, rowCells_len, Nat.succ_mul]
    rw [List.take_length] at h2
    have := Nat.mul_le_mul_right 2097152 h3
    omega
theorem rows_big {R : List Row} (h : validR R = true) (hR : smallR R) {i : Nat} (hi : i ≤ R.length) : (rowsTo R i).length ≤ 2097152000000000000 := by
  have h1 := rows_bound h hR i hi
  have h2 := hR.1
  have := Nat.mul_le_mul_right 2097152000000 (show i ≤ 1000000 by omega)
  omega

theorem count_ok (R : List Row) (hR : smallR R) : PC Tryd.prog 52 [.agg (regRow R)] (.p (.int .i64 (countR R))) := by
  have c1 := valid_ok R hR
  have hl := hR.1
  have hC : countR R = if validR R then (regCells R).length else 0 := rfl
  generalize hv : validR R = v at *
  refine pc_of_awp cx (fn := Tryd.f52) (c := _) Tryd.func52 rfl rfl (Nat.le_of_ble_eq_true rfl) ?_
  rw [Tryd.ntmps52]; refine Nav.imp ?_
  refine awp_region cx [] fun K hK => ?_
  simp [push_cast]
  repeat (refine And.intro (by clear hK; intros; first | omega | (simp_all; done) | (simp_all <;> omega)) ?_)
  refine hK _ ?_; clear hK K; refine Nav.imp ?_
  refine awp_region cx [(1, .p (.bool v))] fun K hK => ?_
  simp [push_cast, c1]
  repeat (refine And.intro (by clear hK; intros; first | omega | (simp_all; done) | (simp_all <;> omega)) ?_)
  refine hK _ ?_; clear hK K; refine Nav.imp ?_
  refine awp_cond (b := !v) (by simp [push_cast]) (fun hb => ?_) (fun hb => ?_) <;> (refine Nav.imp ?_)
  · simp at hb
    rw [hC, hb]
    refine awp_region cx [] fun K hK => ?_
    simp [push_cast]
    repeat (refine And.intro (by clear hK; intros; first | omega | (simp_all; done) | (simp_all <;> omega)) ?_)
    refine hK _ ?_; clear hK K; refine Nav.imp ?_
    simp [push_cast]
  · simp at hb
    rw [hb] at hv hC
    rw [hC, if_pos rfl]
    clear hC
    refine awp_region cx [] fun K hK => ?_
    simp [push_cast]
    repeat (refine And.intro (by clear hK; intros; first | omega | (simp_all; done) | (simp_all <;> omega)) ?_)
    refine hK _ ?_; clear hK K; refine Nav.imp ?_
    refine awp_region cx [] fun K hK => ?_
    simp [push_cast]
    repeat (refine And.intro (by clear hK; intros; first | omega | (simp_all; done) | (simp_all <;> omega)) ?_)
    refine hK _ ?_; clear hK K; refine Nav.imp ?_
    refine awp_loop (β := Nat × Nat) (fun b => ⟨23, [(3, .d (.int .i64 b.2)), (10, .d (encRows R)), (11, .d (.int .i64 R.length)), (12, .d (.int .i64 b.1))], [], 0⟩) (fun b => b.1 ≤ R.length ∧ b.2 = (rowsTo R b.1).length) (fun b => R.length - b.1) (0, 0) ?_ ⟨Nat.zero_le _, by simp [rowsTo]⟩ ?_
    · refine weak_of [] rfl (by simp [upT, up, upL, push_cast]) (by simp [upH, upR, upL, up, push_cast]) (by simp [namesOk, push_cast]) (by simp [olds])
    · rintro ⟨k, n0⟩ ⟨hk, hn⟩
      simp only at hk hn
      refine Nav.imp ?_
      refine awp_region cx [] fun K hK => ?_
      simp [push_cast]
      repeat (refine And.intro (by clear hK; intros; first | omega | (simp_all; done) | (simp_all <;> omega)) ?_)
      refine hK _ ?_; clear hK K; refine Nav.imp ?_
      refine awp_cond (b := decide ((k : Int) < R.length)) (by simp [push_cast]) (fun hb => ?_) (fun hb => ?_) <;> (refine Nav.imp ?_)
      · have hlt : k < R.length := by simpa using hb
        obtain ⟨w, hw⟩ := getq hlt
        have hs : (rowsTo R (k + 1)).length = n0 + lenN w.runs := by rw [rowsTo_next hw, List.length_append, rowCells_len, hn]
        have hbd := rows_big hv hR (i := k + 1) hlt
        have c2 := length_ok w.runs (hR.2 w (List.mem_of_getElem? hw)) (fine_rv (validR_at hv hw).2)
        have e0 := wrap_i64 (n := (k : Int) + 1) (by omega) (by omega)
        have e2 := wrap_i64 (n := (n0 : Int) + (lenN w.runs : Nat)) (by omega) (by omega)
        have e3 : (n0 : Int) + (lenN w.runs : Nat) = ((rowsTo R (k + 1)).length : Nat) := by rw [hs]; omega
        rw [e3] at e2
        generalize hn1 : (rowsTo R (k + 1)).length = n1 at *
        obtain ⟨y, ru⟩ := w
        simp only at c2 e3
        generalize lenN ru = m at *
        refine awp_region cx [] fun K hK => ?_
        simp [push_cast, hw, Row.row]
        repeat (refine And.intro (by clear hK; intros; first | omega | (simp_all; done) | (simp_all <;> omega)) ?_)
        refine hK _ ?_; clear hK K; refine Nav.imp ?_
        refine awp_region cx [(3, .p (.int .i64 m))] fun K hK => ?_
        simp [push_cast, c2, e2, e3, Row.row]
        repeat (refine And.intro (by clear hK; intros; first | omega | (simp_all; done) | (simp_all <;> omega)) ?_)
        refine hK _ ?_; clear hK K; refine Nav.imp ?_
        refine awp_region cx [] fun K hK => ?_
        simp [push_cast, e0]
        repeat (refine And.intro (by clear hK; intros; first | omega | (simp_all; done) | (simp_all <;> omega)) ?_)
        refine hK _ ?_; clear hK K; refine Nav.imp ?_
        refine ⟨(k + 1, n1), ⟨hlt, hn1.symm⟩, by simp only; omega, ?_⟩
        refine weak_of [] rfl (by simp [upT, up, upL, push_cast]) (by simp [upH, upR, upL, up, push_cast]) (by simp [namesOk, push_cast]) (by simp [olds])
      · have hge : k = R.length := by simp at hb; omega
        subst hge
        rw [rowsTo_all] at hn
        subst hn
        refine awp_region cx [] fun K hK => ?_
        simp [push_cast]
        repeat (refine And.intro (by clear hK; intros; first | omega | (simp_all; done) | (simp_all <;> omega)) ?_)
        refine hK _ ?_; clear hK K; refine Nav.imp ?_
        simp [push_cast]

theorem rcount_big (R : List Row) (hR0 : bigR R) (hR1 : validR R = true → smallR R) : PC Tryd.prog 17 [.agg (regRow R)] (.p (.int .i64 (countR R))) := by
  have c1 := validR_big R hR0
  have hC : countR R = if validR R then (regCells R).length else 0 := rfl
  generalize hv : validR R = v at *
  refine pc_of_awp cx (fn := Tryd.f17) (c := _) Tryd.func17 rfl rfl (Nat.le_of_ble_eq_true rfl) ?_
  rw [Tryd.ntmps17]; refine Nav.imp ?_
  refine awp_region cx [] fun K hK => ?_
  simp [push_cast]
  repeat (refine And.intro (by clear hK; intros; first | omega | (simp_all; done) | (simp_all <;> omega)) ?_)
  refine hK _ ?_; clear hK K; refine Nav.imp ?_
  refine awp_region cx [] fun K hK => ?_
  simp [push_cast]
  repeat (refine And.intro (by clear hK; intros; first | omega | (simp_all; done) | (simp_all <;> omega)) ?_)
  refine hK _ ?_; clear hK K; refine Nav.imp ?_
  refine awp_region cx [(1, .p (.bool v))] fun K hK => ?_
  simp [push_cast, c1]
  repeat (refine And.intro (by clear hK; intros; first | omega | (simp_all; done) | (simp_all <;> omega)) ?_)
  refine hK _ ?_; clear hK K; refine Nav.imp ?_
  refine awp_cond (b := !v) (by simp [push_cast]) (fun hb => ?_) (fun hb => ?_) <;> (refine Nav.imp ?_)
  · simp at hb
    rw [hC, hb]
    refine awp_region cx [] fun K hK => ?_
    simp [push_cast]
    repeat (refine And.intro (by clear hK; intros; first | omega | (simp_all; done) | (simp_all <;> omega)) ?_)
    refine hK _ ?_; clear hK K; refine Nav.imp ?_
    simp [push_cast]
  · simp at hb
    rw [hb] at hv hC
    rw [hC, if_pos rfl]
    clear hC
    have hR := hR1 hb
    have hl := hR.1
    refine awp_region cx [] fun K hK => ?_
    simp [push_cast]
    repeat (refine And.intro (by clear hK; intros; first | omega | (simp_all; done) | (simp_all <;> omega)) ?_)
    refine hK _ ?_; clear hK K; refine Nav.imp ?_
    refine awp_loop (β := Nat × Nat) (fun b => ⟨52, [(1, .ptr 0 0 0), (3, .d (.int .i64 b.2)), (4, .d (.int .i64 b.1))], [(0, some ⟨24, 1, [(regRow R).map .d]⟩)], 1⟩) (fun b => b.1 ≤ R.length ∧ b.2 = (rowsTo R b.1).length) (fun b => R.length - b.1) (0, 0) ?_ ⟨Nat.zero_le _, by simp [rowsTo]⟩ ?_
    · refine weak_of [(0, some 0)] rfl (by simp [upT, up, upL, push_cast]) (by simp [upH, upR, upL, up, push_cast]) (by simp [namesOk, push_cast]) (by simp [olds])
    · rintro ⟨k, n0⟩ ⟨hk, hn⟩
      simp only at hk hn
      refine Nav.imp ?_
      refine awp_region cx [] fun K hK => ?_
      simp [push_cast]
      repeat (refine And.intro (by clear hK; intros; first | omega | (simp_all; done) | (simp_all <;> omega)) ?_)
      refine hK _ ?_; clear hK K; refine Nav.imp ?_
      refine awp_cond (b := decide ((k : Int) < R.length)) (by simp [push_cast]) (fun hb => ?_) (fun hb => ?_) <;> (refine Nav.imp ?_)
      · have hlt : k < R.length := by simpa using hb
        obtain ⟨w, hw⟩ := getq hlt
        have hs : (rowsTo R (k + 1)).length = n0 + lenN w.runs := by rw [rowsTo_next hw, List.length_append, rowCells_len, hn]
        have hbd := rows_big hv hR (i := k + 1) hlt
        have hwl := hR.2 w (List.mem_of_getElem? hw)
        have hfi := (validR_at hv hw).2
        have e0 := wrap_i64 (n := (k : Int) + 1) (by omega) (by omega)
        refine awp_region cx [] fun K hK => ?_
        simp [push_cast]
        repeat (refine And.intro (by clear hK; intros; first | omega | (simp_all; done) | (simp_all <;> omega)) ?_)
        refine hK _ ?_; clear hK K; refine Nav.imp ?_
        refine awp_loop (β := Nat × Nat) (fun b => ⟨52, [(1, .ptr 0 0 0), (3, .d (.int .i64 b.2)), (4, .d (.int .i64 k)), (5, .d (.int .i64 b.1))], [(0, some ⟨24, 1, [(regRow R).map .d]⟩)], 1⟩) (fun b => b.1 ≤ w.runs.length ∧ b.2 = n0 + lenN (w.runs.take b.1)) (fun b => w.runs.length - b.1) (0, n0) ?_ ⟨Nat.zero_le _, by simp [lenN]⟩ ?_
        · refine weak_of [(0, some 0)] rfl (by simp [upT, up, upL, push_cast]) (by simp [upH, upR, upL, up, push_cast]) (by simp [namesOk, push_cast]) (by simp [olds])
        · rintro ⟨j, n1⟩ ⟨hj, hn1⟩
          simp only at hj hn1
          refine Nav.imp ?_
          refine awp_region cx [] fun K hK => ?_
          simp [push_cast, hw, Row.row]
          repeat (refine And.intro (by clear hK; intros; first | omega | (simp_all; done) | (simp_all <;> omega)) ?_)
          refine hK _ ?_; clear hK K; refine Nav.imp ?_
          refine awp_cond (b := decide ((j : Int) < w.runs.length)) (by simp [push_cast]) (fun hb => ?_) (fun hb => ?_) <;> (refine Nav.imp ?_)
          · have hjl : j < w.runs.length := by simpa using hb
            obtain ⟨r, hr⟩ := getq hjl
            have hs2 := lenN_take hr
            have hbj := lenN_bound (fine_rv hfi) j (by omega)
            have hbig := rows_big hv hR hk
            have hrf := fine_at hfi hr
            obtain ⟨ra, rb⟩ := r
            simp only at hs2 hrf
            have e1 := wrap_i64 (n := (j : Int) + 1) (by omega) (by omega)
            have e4 := wrap_i64 (n := rb - ra) (by omega) (by omega)
            have e2 := wrap_i64 (n := (n1 : Int) + (rb - ra)) (by omega) (by omega)
            have e3 : (n1 : Int) + (rb - ra) = ((n0 + lenN (w.runs.take (j + 1)) : Nat) : Int) := by rw [hs2]; omega
            generalize hn2 : n0 + lenN (w.runs.take (j + 1)) = n2 at *
            rw [e3] at e2
            refine awp_region_draw cx mixed [] fun K hK => ?_
            simp [push_cast, hw, hr, e4, e2, e3, Row.row, Run.row]
            repeat (refine And.intro (by clear hK; intros; first | omega | (simp_all; done) | (simp_all <;> omega)) ?_)
            refine hK _ _ (by kernel_rfl) ?_; clear hK K; refine Nav.imp ?_
            refine awp_region cx [] fun K hK => ?_
            simp [push_cast, e1]
            repeat (refine And.intro (by clear hK; intros; first | omega | (simp_all; done) | (simp_all <;> omega)) ?_)
            refine hK _ ?_; clear hK K; refine Nav.imp ?_
            refine ⟨(j + 1, n2), ⟨hjl, hn2.symm⟩, by simp only; omega, ?_⟩
            refine weak_of [(0, some 0)] rfl (by simp [upT, up, upL, push_cast]) (by simp [upH, upR, upL, up, push_cast]) (by simp [namesOk, push_cast]) (by simp [olds])
          · have hjn : j = w.runs.length := by simp at hb; omega
            subst hjn
            rw [List.take_length] at hn1
            rw [← hn1] at hs
            refine awp_region cx [] fun K hK => ?_
            simp [push_cast, e0]
            repeat (refine And.intro (by clear hK; intros; first | omega | (simp_all; done) | (simp_all <;> omega)) ?_)
            refine hK _ ?_; clear hK K; refine Nav.imp ?_
            refine ⟨(k + 1, n1), ⟨hlt, hs.symm⟩, by simp only; omega, ?_⟩
            refine weak_of [(0, some 0)] rfl (by simp [upT, up, upL, push_cast]) (by simp [upH, upR, upL, up, push_cast]) (by simp [namesOk, push_cast]) (by simp [olds])
      · have hge : k = R.length := by simp at hb; omega
        subst hge
        rw [rowsTo_all] at hn
        subst hn
        refine awp_region cx [] fun K hK => ?_
        simp [push_cast]
        repeat (refine And.intro (by clear hK; intros; first | omega | (simp_all; done) | (simp_all <;> omega)) ?_)
        refine hK _ ?_; clear hK K; refine Nav.imp ?_
        simp [push_cast]

theorem rcount_ok (R : List Row) (hR : smallR R) : PC Tryd.prog 17 [.agg (regRow R)] (.p (.int .i64 (countR R))) := rcount_big R (big_of hR) fun _ => hR

def smallB (R : List Row) : Bool := decide (R.length ≤ 40) && R.all (fun w => decide (w.runs.length ≤ 40)) && decide (countR R ≤ 600)
theorem small_of {R : List Row} (h1 : R.length ≤ 40) (h2 : ∀ w ∈ R, w.runs.length ≤ 40) : smallR R := ⟨by omega, fun w hw => by have := h2 w hw; omega⟩
theorem smallB_facts {R : List Row} (h : smallB R = true) : R.length ≤ 40 ∧ (∀ w ∈ R, w.runs.length ≤ 40) ∧ countR R ≤ 600 := by
  simp [smallB] at h
  exact ⟨h.1.1, h.1.2, h.2⟩
theorem small_ok (R : List Row) : PC Tryd.prog 7 [.agg (regRow R)] (.p (.bool (smallB R))) := by
  refine pc_of_awp cx (fn := Tryd.f7) (c := _) Tryd.func7 rfl rfl (Nat.le_of_ble_eq_true rfl) ?_
  rw [Tryd.ntmps7]; refine Nav.imp ?_
  refine awp_region cx [] fun K hK => ?_
  simp [push_cast]
  repeat (refine And.intro (by clear hK; intros; first | omega | (simp_all; done) | (simp_all <;> omega)) ?_)
  refine hK _ ?_; clear hK K; refine Nav.imp ?_
  refine awp_region cx [] fun K hK => ?_
  simp [push_cast]
  repeat (refine And.intro (by clear hK; intros; first | omega | (simp_all; done) | (simp_all <;> omega)) ?_)
  refine hK _ ?_; clear hK K; refine Nav.imp ?_
  refine awp_cond (b := decide (40 < (R.length : Int))) (by simp [push_cast]) (fun hb => ?_) (fun hb => ?_) <;> (refine Nav.imp ?_)
  · have hb : ¬ R.length ≤ 40 := by simp at hb; omega
    refine awp_region cx [] fun K hK => ?_
    simp [push_cast]
    repeat (refine And.intro (by clear hK; intros; first | omega | (simp_all; done) | (simp_all <;> omega)) ?_)
    refine hK _ ?_; clear hK K; refine Nav.imp ?_
    simp [push_cast, smallB, hb]
  · have h40 : R.length ≤ 40 := by simp at hb; omega
    refine awp_region cx [] fun K hK => ?_
    simp [push_cast]
    repeat (refine And.intro (by clear hK; intros; first | omega | (simp_all; done) | (simp_all <;> omega)) ?_)
    refine hK _ ?_; clear hK K; refine Nav.imp ?_
    refine awp_loop (β := Nat) (fun k => ⟨26, [(1, .ptr 0 0 0), (3, .d (.int .i64 k))], [(0, some ⟨24, 1, [(regRow R).map .d]⟩)], 1⟩) (fun k => k ≤ R.length ∧ ∀ w ∈ R.take k, w.runs.length ≤ 40) (fun k => R.length - k) 0 ?_ ⟨Nat.zero_le _, by simp⟩ ?_
    · refine weak_of [(0, some 0)] rfl (by simp [upT, up, upL, push_cast]) (by simp [upH, upR, upL, up, push_cast]) (by simp [namesOk, push_cast]) (by simp [olds])
    · rintro k ⟨hk, hall⟩
      refine Nav.imp ?_
      refine awp_region cx [] fun K hK => ?_
      simp [push_cast]
      repeat (refine And.intro (by clear hK; intros; first | omega | (simp_all; done) | (simp_all <;> omega)) ?_)
      refine hK _ ?_; clear hK K; refine Nav.imp ?_
      refine awp_cond (b := decide ((k : Int) < R.length)) (by simp [push_cast]) (fun hb => ?_) (fun hb => ?_) <;> (refine Nav.imp ?_)
      · have hlt : k < R.length := by simpa using hb
        obtain ⟨w, hw⟩ := getq hlt
        have e0 := wrap_i64 (n := (k : Int) + 1) (by omega) (by omega)
        have hwm := List.mem_of_getElem? hw
        obtain ⟨y, ru⟩ := w
        refine awp_region cx [] fun K hK => ?_
        simp [push_cast, hw, Row.row]
        repeat (refine And.intro (by clear hK; intros; first | omega | (simp_all; done) | (simp_all <;> omega)) ?_)
        refine hK _ ?_; clear hK K; refine Nav.imp ?_
        refine awp_cond (b := decide (40 < (ru.length : Int))) (by simp [push_cast]) (fun hb => ?_) (fun hb => ?_) <;> (refine Nav.imp ?_)
        · have hb : 40 < ru.length := by simp at hb; omega
          have hno : smallB R = false := by
            rw [Bool.eq_false_iff]
            intro h
            have := (smallB_facts h).2.1 _ hwm
            simp only at this
            omega
          refine awp_region cx [] fun K hK => ?_
          simp [push_cast]
          repeat (refine And.intro (by clear hK; intros; first | omega | (simp_all; done) | (simp_all <;> omega)) ?_)
          refine hK _ ?_; clear hK K; refine Nav.imp ?_
          simp [push_cast, hno]
        · have hb : ru.length ≤ 40 := by simp at hb; omega
          refine awp_region cx [] fun K hK => ?_
          simp [push_cast, e0]
          repeat (refine And.intro (by clear hK; intros; first | omega | (simp_all; done) | (simp_all <;> omega)) ?_)
          refine hK _ ?_; clear hK K; refine Nav.imp ?_
          refine ⟨k + 1, ⟨hlt, fun v hv => ?_⟩, by omega, ?_⟩
          · rw [take_get hw] at hv
            rcases List.mem_append.1 hv with hv | hv
            · exact hall v hv
            · simp at hv; subst hv; exact hb
          · refine weak_of [(0, some 0)] rfl (by simp [upT, up, upL, push_cast]) (by simp [upH, upR, upL, up, push_cast]) (by simp [namesOk, push_cast]) (by simp [olds])
      · have hge : k = R.length := by simp at hb; omega
        subst hge
        rw [List.take_length] at hall
        have c1 := rcount_ok R (small_of h40 hall)
        have hs : smallB R = decide (countR R ≤ 600) := by
          have : R.all (fun w => decide (w.runs.length ≤ 40)) = true := List.all_eq_true.2 fun w hw => by simpa using hall w hw
          simp [smallB, h40, this]
        rw [hs]
        generalize countR R = n at *
        refine awp_region cx [(1, .p (.int .i64 n))] fun K hK => ?_
        simp [push_cast, c1]
        repeat (refine And.intro (by clear hK; intros; first | omega | (simp_all; done) | (simp_all <;> omega)) ?_)
        refine hK _ ?_; clear hK K; refine Nav.imp ?_
        simp [push_cast]
        omega
end Go.Proofs.YtgicofpllopjmaaDoor

namespace Go.Proofs.YtgicofpllopjmaaDoor
open Go.Abs

def fstA (w : Row) : Int := match w.runs[0]? with | some r => r.a | none => 0
def lstB (w : Row) : Int := match w.runs[w.runs.length - 1]? with | some r => r.b | none => 0
def lowX (R : List Row) : Int := R.foldl (fun m w => min m (fstA w)) 4096
def highX (R : List Row) : Int := R.foldl (fun m w => max m (lstB w - 1)) (-4096)
def fstY (R : List Row) : Int := match R[0]? with | some w => w.y | none => 0
def lstY (R : List Row) : Int := match R[R.length - 1]? with | some w => w.y | none => 0
def some? (R : List Row) : Bool := validR R && decide (0 < R.length)
def boxLo (R : List Row) : Cell := if some? R then ⟨lowX R, fstY R⟩ else ⟨0, 0⟩
def boxHi (R : List Row) : Cell := if some? R then ⟨highX R, lstY R⟩ else ⟨0, 0⟩
abbrev boxD (R : List Row) : D := .tup [.agg (boxLo R).row, .agg (boxHi R).row, .bool (some? R)]

theorem lowX_take {R : List Row} {k : Nat} {w : Row} (h : R[k]? = some w) : lowX (R.take (k + 1)) = min (lowX (R.take k)) (fstA w) := by simp [lowX, take_get h]
theorem highX_take {R : List Row} {k : Nat} {w : Row} (h : R[k]? = some w) : highX (R.take (k + 1)) = max (highX (R.take k)) (lstB w - 1) := by simp [highX, take_get h]
theorem foldMin {α : Type} (f : α → Int) : ∀ (l : List α) (m : Int), l.foldl (fun m w => min m (f w)) m ≤ m ∧ (∀ w ∈ l, l.foldl (fun m w => min m (f w)) m ≤ f w) ∧ ∀ b, b ≤ m → (∀ w ∈ l, b ≤ f w) → b ≤ l.foldl (fun m w => min m (f w)) m
  | [], m => by simp
  | x :: l, m => by
    obtain ⟨h1, h2, h3⟩ := foldMin f l (min m (f x))
    simp only [List.foldl_cons]
    refine ⟨by omega, fun w hw => ?_, fun b hb hl => ?_⟩
    · rcases List.mem_cons.1 hw with rfl | hw
      · omega
      · exact h2 w hw
    · have := hl x (by simp)
      exact h3 b (by omega) fun w hw => hl w (by simp [hw])
theorem foldMax {α : Type} (f : α → Int) : ∀ (l : List α) (m : Int), m ≤ l.foldl (fun m w => max m (f w)) m ∧ (∀ w ∈ l, f w ≤ l.foldl (fun m w => max m (f w)) m) ∧ ∀ b, m ≤ b → (∀ w ∈ l, f w ≤ b) → l.foldl (fun m w => max m (f w)) m ≤ b
  | [], m => by simp
  | x :: l, m => by
    obtain ⟨h1, h2, h3⟩ := foldMax f l (max m (f x))
    simp only [List.foldl_cons]
    refine ⟨by omega, fun w hw => ?_, fun b hb hl => ?_⟩
    · rcases List.mem_cons.1 hw with rfl | hw
      · omega
      · exact h2 w hw
    · have := hl x (by simp)
      exact h3 b (by omega) fun w hw => hl w (by simp [hw])
theorem row_ends0 {w : Row} (h : fine w.runs = true) : (∀ r ∈ w.runs, fstA w ≤ r.a ∧ r.b ≤ lstB w) ∧ -4096 ≤ fstA w ∧ fstA w < lstB w ∧ lstB w ≤ 4096 := by
  obtain ⟨f, z, hf, hz, hf1, hz1, hl⟩ := fine_ends h
  have e1 : fstA w = f.a := by simp [fstA, hf]
  have e2 : lstB w = z.b := by simp [lstB, hz]
  rw [e1, e2]
  have key : ∀ r ∈ w.runs, f.a ≤ r.a ∧ r.b ≤ z.b := fun r hr => by
    obtain ⟨k, hk, rfl⟩ := List.mem_iff_getElem.1 hr
    have hk' := List.getElem?_eq_getElem hk
    exact ⟨(rvalid_asc (fine_rv h) k 0 _ f (Nat.zero_le _) hf hk').1, (rvalid_asc (fine_rv h) (w.runs.length - 1) k z _ (by omega) hk' hz).2⟩
  have := key f (List.mem_of_getElem? hf)
  exact ⟨key, by omega, by omega, by omega⟩
theorem rows_ends {R : List Row} (hv : validR R = true) {w : Row} (hw : w ∈ R) : fstY R ≤ w.y ∧ w.y ≤ lstY R := by
  obtain ⟨k, hk, rfl⟩ := List.mem_iff_getElem.1 hw
  have hp := List.pairwise_iff_getElem.1 (rows_pw hv)
  have e1 : fstY R = R[0].y := by simp [fstY, List.getElem?_eq_getElem (show 0 < R.length by omega)]
  have e2 : lstY R = R[R.length - 1].y := by simp [lstY, List.getElem?_eq_getElem (show R.length - 1 < R.length by omega)]
  rw [e1, e2]
  constructor
  · rcases Nat.eq_zero_or_pos k with h | h
    · subst h; exact Int.le_refl _
    · exact Int.le_of_lt (hp 0 k (by omega) hk h)
  · rcases Nat.lt_or_eq_of_le (show k ≤ R.length - 1 by omega) with h | h
    · exact Int.le_of_lt (hp k (R.length - 1) hk (by omega) h)
    · subst h; exact Int.le_refl _

theorem near_ok (d : Int) : PC Tryd.prog 35 [.int .i64 d] (.p (.bool (decide (-8192 ≤ d) && decide (d ≤ 8192)))) := by
  refine pc_of_awp cx (fn := Tryd.f35) (c := _) Tryd.func35 rfl rfl (Nat.le_of_ble_eq_true rfl) ?_
  rw [Tryd.ntmps35]; refine Nav.imp ?_
  refine awp_region cx [] fun K hK => ?_
  simp [push_cast]
  repeat (refine And.intro (by clear hK; intros; first | omega | (simp_all; done) | (simp_all <;> omega)) ?_)
  refine hK _ ?_; clear hK K; refine Nav.imp ?_
  refine awp_region cx [] fun K hK => ?_
  simp [push_cast]
  repeat (refine And.intro (by clear hK; intros; first | omega | (simp_all; done) | (simp_all <;> omega)) ?_)
  refine hK _ ?_; clear hK K; refine Nav.imp ?_
  simp [push_cast]

set_option maxHeartbeats 1000000 in
theorem box_ok (R : List Row) (hR : smallR R) : PC Tryd.prog 14 [.agg (regRow R)] (.p (boxD R)) := by
  have c1 := valid_ok R hR
  have hl := hR.1
  have hB : boxD R = .tup [.agg (boxLo R).row, .agg (boxHi R).row, .bool (some? R)] := rfl
  rw [hB]
  by_cases hsm : some? R = true
  · have hlo : boxLo R = ⟨lowX R, fstY R⟩ := by simp [boxLo, hsm]
    have hhi : boxHi R = ⟨highX R, lstY R⟩ := by simp [boxHi, hsm]
    rw [hlo, hhi, hsm]
    clear hlo hhi hB
    simp only [some?, Bool.and_eq_true, decide_eq_true_eq] at hsm
    obtain ⟨hv, hpos⟩ := hsm
    rw [hv] at c1
    obtain ⟨w0, hw0⟩ : ∃ w, R[0]? = some w := getq hpos
    obtain ⟨w1, hw1⟩ : ∃ w, R[R.length - 1]? = some w := getq (by omega)
    have hy0 : fstY R = w0.y := by simp [fstY, hw0]
    have hy1 : lstY R = w1.y := by simp [lstY, hw1]
    rw [hy0, hy1]
    clear hy0 hy1
    have e1 := wrap_i64 (n := (R.length : Int) - 1) (by omega) (by omega)
    have e2 : ((R.length : Int) - 1).toNat = R.length - 1 := by omega
    have e3 : (0 : Int) ≤ (R.length : Int) - 1 := by omega
    have e4 : ((R.length : Int) == 0) = false := by simp; rintro rfl; simp at hpos
    obtain ⟨y0, r0⟩ := w0
    obtain ⟨y1, r1⟩ := w1
    refine pc_of_awp cx (fn := Tryd.f14) (c := _) Tryd.func14 rfl rfl (Nat.le_of_ble_eq_true rfl) ?_
    rw [Tryd.ntmps14]; refine Nav.imp ?_
    refine awp_region cx [] fun K hK => ?_
    simp [push_cast]
    repeat (refine And.intro (by clear hK; intros; first | omega | (simp_all; done) | (simp_all <;> omega)) ?_)
    refine hK _ ?_; clear hK K; refine Nav.imp ?_
    refine awp_region cx [(1, .p (.bool true))] fun K hK => ?_
    simp [push_cast, c1]
    repeat (refine And.intro (by clear hK; intros; first | omega | (simp_all; done) | (simp_all <;> omega)) ?_)
    refine hK _ ?_; clear hK K; refine Nav.imp ?_
    refine awp_cond (b := false) (by simp [push_cast, e4]) (fun hb => ?_) (fun hb => ?_) <;> (refine Nav.imp ?_)
    · simp at hb
    · refine awp_region cx [] fun K hK => ?_
      simp [push_cast, hw0, Row.row]
      repeat (refine And.intro (by clear hK; intros; first | omega | (simp_all; done) | (simp_all <;> omega)) ?_)
      refine hK _ ?_; clear hK K; refine Nav.imp ?_
      refine awp_region cx [] fun K hK => ?_
      simp [push_cast, hw1, e1, e2, e3, Row.row]
      repeat (refine And.intro (by clear hK; intros; first | omega | (simp_all; done) | (simp_all <;> omega)) ?_)
      refine hK _ ?_; clear hK K; refine Nav.imp ?_
      refine awp_region cx [] fun K hK => ?_
      simp [push_cast]
      repeat (refine And.intro (by clear hK; intros; first | omega | (simp_all; done) | (simp_all <;> omega)) ?_)
      refine hK _ ?_; clear hK K; refine Nav.imp ?_
      refine awp_loop (β := Nat × Int × Int) (fun b => ⟨69, [(2, .ptr 0 0 0), (3, .ptr 1 0 0), (4, .d (.bool false)), (5, .ptr 2 0 0), (6, .ptr 3 0 0), (37, .d (encRows R)), (38, .d (.int .i64 R.length)), (39, .d (.int .i64 b.1))], [(0, some ⟨29, 2, [[.d (.int .i64 0), .d (.int .i64 0)]]⟩), (1, some ⟨29, 2, [[.d (.int .i64 0), .d (.int .i64 0)]]⟩), (2, some ⟨29, 2, [[.d (.int .i64 b.2.1), .d (.int .i64 y0)]]⟩), (3, some ⟨29, 2, [[.d (.int .i64 b.2.2), .d (.int .i64 y1)]]⟩)], 4⟩) (fun b => b.1 ≤ R.length ∧ b.2.1 = lowX (R.take b.1) ∧ b.2.2 = highX (R.take b.1)) (fun b => R.length - b.1) (0, 4096, -4096) ?_ ⟨Nat.zero_le _, by simp [lowX], by simp [highX]⟩ ?_
      · refine weak_of [(0, some 1), (1, some 2), (2, some 19), (3, some 31)] rfl (by simp [upT, up, upL, push_cast]) (by simp [upH, upR, upL, up, push_cast]) (by simp [namesOk, push_cast]) (by simp [olds])
      · rintro ⟨k, a, b⟩ ⟨hk, ha, hb'⟩
        simp only at hk ha hb'
        refine Nav.imp ?_
        refine awp_region cx [] fun K hK => ?_
        simp [push_cast]
        repeat (refine And.intro (by clear hK; intros; first | omega | (simp_all; done) | (simp_all <;> omega)) ?_)
        refine hK _ ?_; clear hK K; refine Nav.imp ?_
        refine awp_cond (b := decide ((k : Int) < R.length)) (by simp [push_cast]) (fun hb => ?_) (fun hb => ?_) <;> (refine Nav.imp ?_)
        · have hlt : k < R.length := by simpa using hb
          obtain ⟨w, hw⟩ := getq hlt
          have f1 := lowX_take hw
          have f2 := highX_take hw
          rw [← ha] at f1
          rw [← hb'] at f2
          have e0 := wrap_i64 (n := (k : Int) + 1) (by omega) (by omega)
          obtain ⟨f, z, hf, hz, q1, q2, q3⟩ := fine_ends (validR_at hv hw).2
          have g1 : fstA w = f.a := by simp [fstA, hf]
          have g2 : lstB w = z.b := by simp [lstB, hz]
          have hwl := hR.2 w (List.mem_of_getElem? hw)
          rw [g1] at f1
          rw [g2] at f2
          obtain ⟨wy, wr⟩ := w
          obtain ⟨fa, fb⟩ := f
          obtain ⟨za, zb⟩ := z
          simp only at hf hz q1 q2 q3 f1 f2 hwl
          have d1 := wrap_i64 (n := (wr.length : Int) - 1) (by omega) (by omega)
          have d2 : ((wr.length : Int) - 1).toNat = wr.length - 1 := by omega
          have d3 : (0 : Int) ≤ (wr.length : Int) - 1 := by omega
          have d4 := wrap_i64 (n := zb - 1) (by omega) (by omega)
          refine awp_region cx [] fun K hK => ?_
          simp [push_cast, hw, Row.row]
          repeat (refine And.intro (by clear hK; intros; first | omega | (simp_all; done) | (simp_all <;> omega)) ?_)
          refine hK _ ?_; clear hK K; refine Nav.imp ?_
          refine awp_region_draw cx mixed [] fun K hK => ?_
          simp [push_cast, hf, Row.row, Run.row]
          repeat (refine And.intro (by clear hK; intros; first | omega | (simp_all; done) | (simp_all <;> omega)) ?_)
          refine hK _ _ (by kernel_rfl) ?_; clear hK K; refine Nav.imp ?_
          refine awp_region_draw cx mixed [] fun K hK => ?_
          simp [push_cast, hz, d1, d2, d3, d4, Row.row, Run.row]
          repeat (refine And.intro (by clear hK; intros; first | omega | (simp_all; done) | (simp_all <;> omega)) ?_)
          refine hK _ _ (by kernel_rfl) ?_; clear hK K; refine Nav.imp ?_
          refine awp_region cx [] fun K hK => ?_
          simp [push_cast, e0]
          repeat (refine And.intro (by clear hK; intros; first | omega | (simp_all; done) | (simp_all <;> omega)) ?_)
          refine hK _ ?_; clear hK K; refine Nav.imp ?_
          refine ⟨(k + 1, min a fa, max b (zb - 1)), ⟨hlt, f1.symm, f2.symm⟩, by simp only; omega, ?_⟩
          refine weak_of [(0, some 0), (1, some 1), (2, some 2), (3, some 3)] rfl (by simp [upT, up, upL, push_cast]) (by simp [upH, upR, upL, up, push_cast]) (by simp [namesOk, push_cast]) (by simp [olds])
        · have hge : k = R.length := by simp at hb; omega
          subst hge
          rw [List.take_length] at ha hb'
          subst ha hb'
          refine awp_region_draw cx mixed [] fun K hK => ?_
          simp [push_cast]
          repeat (refine And.intro (by clear hK; intros; first | omega | (simp_all; done) | (simp_all <;> omega)) ?_)
          refine hK _ _ (by kernel_rfl) ?_; clear hK K; refine Nav.imp ?_
          simp [push_cast]
  · have hlo : boxLo R = ⟨0, 0⟩ := by simp [boxLo, hsm]
    have hhi : boxHi R = ⟨0, 0⟩ := by simp [boxHi, hsm]
    rw [hlo, hhi, Bool.eq_false_iff.2 hsm]
    generalize hv : validR R = v at *
    have hnil : v = true → R = [] := fun h => by
      rw [h] at hv
      cases R with
      | nil => rfl
      | cons a l => exact absurd (by simp [some?, hv]) hsm
    refine pc_of_awp cx (fn := Tryd.f14) (c := _) Tryd.func14 rfl rfl (Nat.le_of_ble_eq_true rfl) ?_
    rw [Tryd.ntmps14]; refine Nav.imp ?_
    refine awp_region cx [] fun K hK => ?_
    simp [push_cast]
    repeat (refine And.intro (by clear hK; intros; first | omega | (simp_all; done) | (simp_all <;> omega)) ?_)
    refine hK _ ?_; clear hK K; refine Nav.imp ?_
    cases v with
    | false =>
      refine awp_region cx [(1, .p (.bool false))] fun K hK => ?_
      simp [push_cast, c1]
      repeat (refine And.intro (by clear hK; intros; first | omega | (simp_all; done) | (simp_all <;> omega)) ?_)
      refine hK _ ?_; clear hK K; refine Nav.imp ?_
      refine awp_cond (b := true) (by simp [push_cast]) (fun hb => ?_) (fun hb => ?_) <;> (refine Nav.imp ?_)
      · refine awp_region cx [] fun K hK => ?_
        simp [push_cast]
        repeat (refine And.intro (by clear hK; intros; first | omega | (simp_all; done) | (simp_all <;> omega)) ?_)
        refine hK _ ?_; clear hK K; refine Nav.imp ?_
        simp [push_cast]
      · simp at hb
    | true =>
      have := hnil rfl
      subst this
      refine awp_region cx [(1, .p (.bool true))] fun K hK => ?_
      simp [push_cast, c1]
      repeat (refine And.intro (by clear hK; intros; first | omega | (simp_all; done) | (simp_all <;> omega)) ?_)
      refine hK _ ?_; clear hK K; refine Nav.imp ?_
      refine awp_cond (b := true) (by simp [push_cast]) (fun hb => ?_) (fun hb => ?_) <;> (refine Nav.imp ?_)
      · refine awp_region cx [] fun K hK => ?_
        simp [push_cast]
        repeat (refine And.intro (by clear hK; intros; first | omega | (simp_all; done) | (simp_all <;> omega)) ?_)
        refine hK _ ?_; clear hK K; refine Nav.imp ?_
        simp [push_cast]
      · simp at hb

end Go.Proofs.YtgicofpllopjmaaDoor

namespace Go.Proofs.YtgicofpllopjmaaDoor
open Go.Abs

def shRun (d : Int) (r : Run) : Run := ⟨r.a + d, r.b + d⟩
def shRow (dx dy : Int) (w : Row) : Row := ⟨w.y + dy, w.runs.map (shRun dx)⟩
def inB (R : List Row) (dx dy : Int) : Bool := decide (-4096 - (boxLo R).x ≤ dx) && decide (dx ≤ 4095 - (boxHi R).x) && decide (-4096 - (boxLo R).y ≤ dy) && decide (dy ≤ 4095 - (boxHi R).y)
def shR (R : List Row) (dx dy : Int) : List Row := if some? R && inB R dx dy then R.map (shRow dx dy) else []
def shE (R : List Row) (dx dy : Int) : Int := if validR R then (if R.length = 0 then 0 else if inB R dx dy then 0 else 8) else 1
abbrev shD (R : List Row) (dx dy : Int) : D := .tup [.agg (regRow (shR R dx dy)), .int .i64 (shE R dx dy)]

theorem low_le {R : List Row} : ∀ (n : Nat) (w : Row), n ≤ R.length → w ∈ R.take n → lowX (R.take n) ≤ fstA w ∧ lstB w - 1 ≤ highX (R.take n)
  | 0, w, _, h => by simp at h
  | n + 1, w, hn, h => by
    obtain ⟨v, hv⟩ := getq (show n < R.length by omega)
    rw [lowX_take hv, highX_take hv]
    rw [take_get hv] at h
    rcases List.mem_append.1 h with h | h
    · have := low_le n w (by omega) h; omega
    · simp at h; subst h; omega
theorem low_bd {R : List Row} (h : validR R = true) : ∀ (n : Nat), n ≤ R.length → -4096 ≤ lowX (R.take n) ∧ highX (R.take n) ≤ 4095
  | 0, _ => by simp [lowX, highX]
  | n + 1, hn => by
    obtain ⟨v, hv⟩ := getq (show n < R.length by omega)
    have ih := low_bd h n (by omega)
    obtain ⟨f, z, hf, hz, q1, q2, q3⟩ := fine_ends (validR_at h hv).2
    have g1 : fstA v = f.a := by simp [fstA, hf]
    have g2 : lstB v = z.b := by simp [lstB, hz]
    rw [lowX_take hv, highX_take hv, g1, g2]
    omega
theorem ends_lt {l : List Run} (h : fine l = true) {f z : Run} (hf : l[0]? = some f) (hz : l[l.length - 1]? = some z) : f.a < z.b := by
  by_cases e : l.length - 1 = 0
  · rw [e, hf] at hz; cases hz; have := fine_at h hf; omega
  · have := runs_lt h (l.length - 1) 0 z f (by omega) hz hf
    have := fine_at h hf
    have := fine_at h hz
    omega
theorem box_bd {R : List Row} (h : validR R = true) (hp : 0 < R.length) : -4096 ≤ lowX R ∧ lowX R ≤ highX R ∧ highX R ≤ 4095 ∧ -4096 ≤ fstY R ∧ fstY R ≤ lstY R ∧ lstY R ≤ 4095 := by
  have h1 := low_bd h R.length (Nat.le_refl _)
  rw [List.take_length] at h1
  obtain ⟨w0, hw0⟩ : ∃ w, R[0]? = some w := getq hp
  obtain ⟨w1, hw1⟩ : ∃ w, R[R.length - 1]? = some w := getq (by omega)
  have hy0 : fstY R = w0.y := by simp [fstY, hw0]
  have hy1 : lstY R = w1.y := by simp [lstY, hw1]
  have h2 := low_le (R := R) R.length w0 (Nat.le_refl _) (by rw [List.take_length]; exact List.mem_of_getElem? hw0)
  rw [List.take_length] at h2
  have v0 := validR_at h hw0
  have v1 := validR_at h hw1
  obtain ⟨f, z, hf, hz, q1, q2, q3⟩ := fine_ends v0.2
  have g1 : fstA w0 = f.a := by simp [fstA, hf]
  have g2 : lstB w0 = z.b := by simp [lstB, hz]
  have h3 := ends_lt v0.2 hf hz
  rw [g1, g2] at h2
  rw [hy0, hy1]
  have : w0.y ≤ w1.y := by
    by_cases e : R.length - 1 = 0
    · rw [e, hw0] at hw1; cases hw1; omega
    · have := rows_lt h (R.length - 1) 0 w1 w0 (by omega) hw1 hw0; omega
  omega

set_option maxHeartbeats 1000000 in
theorem rshift_ok (l : List Run) (d : Int) (hf : fine l = true) (hl : l.length ≤ 1000000) (hd : -8192 ≤ d ∧ d ≤ 8192) : PC Tryd.prog 37 [encRuns l, .int .i64 d] (.p (.tup [encRuns (l.map (shRun d)), .int .i64 0])) := by
  have c1 := rvalid_ok l hl
  rw [fine_rv hf] at c1
  obtain ⟨f, z, hf0, hz, q1, q2, q3⟩ := fine_ends hf
  have hm1 : 16 * (l.length : Int) ≤ 281474976710656 := by omega
  have hm2 : (l.length : Int) ≤ 9223372036854775807 := by omega
  have e1 := wrap_i64 (n := (l.length : Int) - 1) (by omega) (by omega)
  have e2 : ((l.length : Int) - 1).toNat = l.length - 1 := by omega
  have e3 : (0 : Int) ≤ (l.length : Int) - 1 := by omega
  have e4 : ((l.length : Int) == 0) = false := by simp; rintro rfl; simp at q3
  obtain ⟨fa, fb⟩ := f
  obtain ⟨za, zb⟩ := z
  simp only at q1 q2
  have d1 := wrap_i64 (n := fa + d) (by omega) (by omega)
  have d2 := wrap_i64 (n := zb + d) (by omega) (by omega)
  have n1 : ¬ d < -2097152 := by omega
  have n2 : ¬ (2097152 : Int) < d := by omega
  have n3 : ¬ fa + d < -1048576 := by omega
  have n4 : ¬ (1048576 : Int) < zb + d := by omega
  refine pc_of_awp cx (fn := Tryd.f37) (c := _) Tryd.func37 rfl rfl (Nat.le_of_ble_eq_true rfl) ?_
  rw [Tryd.ntmps37]; refine Nav.imp ?_
  refine awp_region cx [] fun K hK => ?_
  simp [push_cast]
  repeat (refine And.intro (by clear hK; intros; first | omega | (simp_all; done) | (simp_all <;> omega)) ?_)
  refine hK _ ?_; clear hK K; refine Nav.imp ?_
  refine awp_region cx [(1, .p (.bool true))] fun K hK => ?_
  simp [push_cast, c1]
  repeat (refine And.intro (by clear hK; intros; first | omega | (simp_all; done) | (simp_all <;> omega)) ?_)
  refine hK _ ?_; clear hK K; refine Nav.imp ?_
  refine awp_cond (b := false) (by simp [push_cast]) (fun hb => ?_) (fun hb => ?_) <;> (refine Nav.imp ?_)
  · simp at hb
  · refine awp_region cx [] fun K hK => ?_
    simp [push_cast]
    repeat (refine And.intro (by clear hK; intros; first | omega | (simp_all; done) | (simp_all <;> omega)) ?_)
    refine hK _ ?_; clear hK K; refine Nav.imp ?_
    refine awp_cond (b := false) (by simp [push_cast, e4]) (fun hb => ?_) (fun hb => ?_) <;> (refine Nav.imp ?_)
    · simp at hb
    · refine awp_region cx [] fun K hK => ?_
      simp [push_cast, hf0, hz, e1, e2, e3, d1, d2, n1, n2, n3, n4, Run.row]
      repeat (refine And.intro (by clear hK; intros; first | omega | (simp_all; done) | (simp_all <;> omega)) ?_)
      refine hK _ ?_; clear hK K; refine Nav.imp ?_
      refine awp_cond (b := false) (by simp [push_cast, n1, n2, n3, n4]) (fun hb => ?_) (fun hb => ?_) <;> (refine Nav.imp ?_)
      · simp at hb
      · refine awp_region cx [] fun K hK => ?_
        simp [push_cast, hm1, hm2]
        repeat (refine And.intro (by clear hK; intros; first | omega | (simp_all; done) | (simp_all <;> omega)) ?_)
        refine hK _ ?_; clear hK K; refine Nav.imp ?_
        refine awp_region cx [] fun K hK => ?_
        simp [push_cast]
        repeat (refine And.intro (by clear hK; intros; first | omega | (simp_all; done) | (simp_all <;> omega)) ?_)
        refine hK _ ?_; clear hK K; refine Nav.imp ?_
        refine awp_loop (β := Nat × List Run) (fun b => ⟨69, [(1, .d (.int .i64 d)), (6, .hs 0 0 b.2.length), (48, .d (encRuns l)), (49, .d (.int .i64 l.length)), (50, .d (.int .i64 b.1))], [(0, some ⟨37, 2, dr (b.2.map Run.row)⟩)], 1⟩) (fun b => b.1 ≤ l.length ∧ b.2.length = l.length ∧ b.2.take b.1 = (l.take b.1).map (shRun d)) (fun b => l.length - b.1) (0, List.replicate l.length ⟨0, 0⟩) ?_ ⟨Nat.zero_le _, by simp, by simp⟩ ?_
        · have hrep : List.replicate l.length [AV.d (.int .i64 0), AV.d (.int .i64 0)] = dr ((List.replicate l.length (⟨0, 0⟩ : Run)).map Run.row) := by simp [dr, Run.row]
          refine weak_of [(0, some 40)] rfl (by simp [upT, up, upL, push_cast, hrep]) (by simp [upH, upR, upL, up, push_cast, hrep]) (by simp [namesOk, push_cast]) (by simp [olds])
        · rintro ⟨k, Z⟩ ⟨hk, hZl, hZ⟩
          simp only at hk hZl hZ
          refine Nav.imp ?_
          refine awp_region cx [] fun K hK => ?_
          simp [push_cast]
          repeat (refine And.intro (by clear hK; intros; first | omega | (simp_all; done) | (simp_all <;> omega)) ?_)
          refine hK _ ?_; clear hK K; refine Nav.imp ?_
          refine awp_cond (b := decide ((k : Int) < l.length)) (by simp [push_cast]) (fun hb => ?_) (fun hb => ?_) <;> (refine Nav.imp ?_)
          · have hlt : k < l.length := by simpa using hb
            obtain ⟨r, hr⟩ := getq hlt
            have hrb := fine_at hf hr
            have e0 := wrap_i64 (n := (k : Int) + 1) (by omega) (by omega)
            obtain ⟨ra, rb⟩ := r
            simp only at hrb
            have s1 := wrap_i64 (n := ra + d) (by omega) (by omega)
            have s2 := wrap_i64 (n := rb + d) (by omega) (by omega)
            obtain ⟨y, hy⟩ : ∃ y, Z[k]? = some y := getq (by omega)
            obtain ⟨Y, hY⟩ : ∃ Y, Y = Z.set k ⟨ra + d, rb + d⟩ := ⟨_, rfl⟩
            have hset : (dr (Z.map Run.row)).set k [.d (.int .i64 (ra + d)), .d (.int .i64 (rb + d))] = dr (Y.map Run.row) := by rw [hY]; simp [dr, List.map_set]
            have hYl : Y.length = Z.length := by rw [hY]; simp
            have hYt : Y.take (k + 1) = (l.take (k + 1)).map (shRun d) := by
              rw [hY, take_get hr, List.map_append, ← hZ, take_get (x := ⟨ra + d, rb + d⟩) (by rw [List.getElem?_set_self (by omega)]), List.take_set_of_le (by omega)]
              rfl
            clear hY
            refine awp_region cx [] fun K hK => ?_
            simp [push_cast, hr, Run.row]
            repeat (refine And.intro (by clear hK; intros; first | omega | (simp_all; done) | (simp_all <;> omega)) ?_)
            refine hK _ ?_; clear hK K; refine Nav.imp ?_
            refine awp_region cx [] fun K hK => ?_
            simp [push_cast, hy, s1, s2, hset, Run.row]
            repeat (refine And.intro (by clear hK; intros; first | omega | (simp_all; done) | (simp_all <;> omega)) ?_)
            refine hK _ ?_; clear hK K; refine Nav.imp ?_
            refine awp_region cx [] fun K hK => ?_
            simp [push_cast, e0]
            repeat (refine And.intro (by clear hK; intros; first | omega | (simp_all; done) | (simp_all <;> omega)) ?_)
            refine hK _ ?_; clear hK K; refine Nav.imp ?_
            rw [← hYl]
            refine ⟨(k + 1, Y), ⟨hlt, by simp only; omega, hYt⟩, by simp only; omega, ?_⟩
            refine weak_of [(0, some 0)] rfl (by simp [upT, up, upL, push_cast]) (by simp [upH, upR, upL, up, push_cast]) (by simp [namesOk, push_cast]) (by simp [olds])
          · have hge : k = l.length := by simp at hb; omega
            subst hge
            rw [List.take_length, ← hZl, List.take_length] at hZ
            rw [← hZ]
            refine awp_region cx [] fun K hK => ?_
            simp [push_cast]
            repeat (refine And.intro (by clear hK; intros; first | omega | (simp_all; done) | (simp_all <;> omega)) ?_)
            refine hK _ ?_; clear hK K; refine Nav.imp ?_
            have ht : List.take Z.length (Z.map Run.row) = Z.map Run.row := List.take_of_length_le (by simp)
            simp [push_cast, ht]
end Go.Proofs.YtgicofpllopjmaaDoor

namespace Go.Proofs.YtgicofpllopjmaaDoor
open Go.Abs

theorem inB_box {R : List Row} (h : validR R = true) (hp : 0 < R.length) (dx dy : Int) : boxLo R = ⟨lowX R, fstY R⟩ ∧ boxHi R = ⟨highX R, lstY R⟩ ∧ some? R = true ∧ inB R dx dy = (decide (-4096 - lowX R ≤ dx) && decide (dx ≤ 4095 - highX R) && decide (-4096 - fstY R ≤ dy) && decide (dy ≤ 4095 - lstY R)) := by
  have hs : some? R = true := by simp [some?, h, hp]
  have h1 : boxLo R = ⟨lowX R, fstY R⟩ := by simp [boxLo, hs]
  have h2 : boxHi R = ⟨highX R, lstY R⟩ := by simp [boxHi, hs]
  exact ⟨h1, h2, hs, by simp [inB, h1, h2]⟩

theorem row_box {R : List Row} (h : validR R = true) {k : Nat} {w : Row} (hw : R[k]? = some w) : fstY R ≤ w.y ∧ w.y ≤ lstY R ∧ lowX R ≤ fstA w ∧ lstB w - 1 ≤ highX R := by
  have hk := (List.getElem?_eq_some_iff.1 hw).1
  obtain ⟨w0, hw0⟩ : ∃ w, R[0]? = some w := getq (by omega)
  obtain ⟨w1, hw1⟩ : ∃ w, R[R.length - 1]? = some w := getq (by omega)
  have hy0 : fstY R = w0.y := by simp [fstY, hw0]
  have hy1 : lstY R = w1.y := by simp [lstY, hw1]
  have h2 := low_le (R := R) R.length w (Nat.le_refl _) (by rw [List.take_length]; exact List.mem_of_getElem? hw)
  rw [List.take_length] at h2
  rw [hy0, hy1]
  refine ⟨?_, ?_, h2.1, h2.2⟩
  · by_cases e : k = 0
    · subst e; rw [hw0] at hw; cases hw; omega
    · have := rows_lt h k 0 w w0 (by omega) hw hw0; omega
  · by_cases e : k = R.length - 1
    · subst e; rw [hw1] at hw; cases hw; omega
    · have := rows_lt h (R.length - 1) k w1 w (by omega) hw1 hw; omega

set_option maxHeartbeats 4000000 in
theorem shift_ok (R : List Row) (dx dy : Int) (hR : smallR R) : PC Tryd.prog 16 [.agg (regRow R), .int .i64 dx, .int .i64 dy] (.p (shD R dx dy)) := by
  have hD : shD R dx dy = .tup [.agg (regRow (shR R dx dy)), .int .i64 (shE R dx dy)] := rfl
  have c1 := box_ok R hR
  have c2 := valid_ok R hR
  have hBD : boxD R = .tup [.agg (boxLo R).row, .agg (boxHi R).row, .bool (some? R)] := rfl
  rw [hBD] at c1
  rw [hD]
  have hl := hR.1
  have hsv : some? R = (validR R && decide (0 < R.length)) := rfl
  have hE : shE R dx dy = if validR R then (if R.length = 0 then 0 else if inB R dx dy then 0 else 8) else 1 := rfl
  have hS : shR R dx dy = if some? R && inB R dx dy then R.map (shRow dx dy) else [] := rfl
  cases hv : validR R with
  | false =>
    have h1 : shR R dx dy = [] := by rw [hS, hsv, hv]; simp
    have h2 : shE R dx dy = 1 := by rw [hE, hv]; simp
    rw [h1, h2]
    rw [hv] at c2
    clear hE hS h1 h2 hsv
    generalize boxLo R = lo at *
    generalize boxHi R = hi at *
    generalize some? R = so at *
    refine pc_of_awp cx (fn := Tryd.f16) (c := _) Tryd.func16 rfl rfl (Nat.le_of_ble_eq_true rfl) ?_
    rw [Tryd.ntmps16]; refine Nav.imp ?_
    refine awp_region cx [] fun K hK => ?_
    simp [push_cast]
    repeat (refine And.intro (by clear hK; intros; first | omega | (simp_all; done) | (simp_all <;> omega)) ?_)
    refine hK _ ?_; clear hK K; refine Nav.imp ?_
    refine awp_region cx [(1, .p (.tup [.agg lo.row, .agg hi.row, .bool so]))] fun K hK => ?_
    simp [push_cast, c1]
    repeat (refine And.intro (by clear hK; intros; first | omega | (simp_all; done) | (simp_all <;> omega)) ?_)
    refine hK _ ?_; clear hK K; refine Nav.imp ?_
    refine awp_region cx [(1, .p (.bool false))] fun K hK => ?_
    simp [push_cast, c2]
    repeat (refine And.intro (by clear hK; intros; first | omega | (simp_all; done) | (simp_all <;> omega)) ?_)
    refine hK _ ?_; clear hK K; refine Nav.imp ?_
    refine awp_cond (b := true) (by simp [push_cast]) (fun hb => ?_) (fun hb => ?_) <;> (refine Nav.imp ?_)
    · refine awp_region cx [] fun K hK => ?_
      simp [push_cast]
      repeat (refine And.intro (by clear hK; intros; first | omega | (simp_all; done) | (simp_all <;> omega)) ?_)
      refine hK _ ?_; clear hK K; refine Nav.imp ?_
      simp [push_cast]
    · simp at hb
  | true =>
    rw [hv] at c2
    by_cases hp : 0 < R.length
    · obtain ⟨hlo, hhi, hso, hin⟩ := inB_box hv hp dx dy
      have hbd := box_bd hv hp
      have hn0 : R.length ≠ 0 := by omega
      rw [hv, if_pos rfl, if_neg hn0] at hE
      rw [hso, Bool.true_and] at hS
      rw [hlo, hhi, hso] at c1
      have hrows := fun k w => @row_box R hv k w
      clear hlo hhi hso hsv hBD hD
      generalize lowX R = lx at *
      generalize highX R = hx at *
      generalize fstY R = ly at *
      generalize lstY R = hy at *
      have n1 := near_ok dx
      have n2 := near_ok dy
      refine pc_of_awp cx (fn := Tryd.f16) (c := _) Tryd.func16 rfl rfl (Nat.le_of_ble_eq_true rfl) ?_
      rw [Tryd.ntmps16]; refine Nav.imp ?_
      refine awp_region cx [] fun K hK => ?_
      simp [push_cast]
      repeat (refine And.intro (by clear hK; intros; first | omega | (simp_all; done) | (simp_all <;> omega)) ?_)
      refine hK _ ?_; clear hK K; refine Nav.imp ?_
      refine awp_region cx [(1, .p (.tup [.agg (Cell.row ⟨lx, ly⟩), .agg (Cell.row ⟨hx, hy⟩), .bool true]))] fun K hK => ?_
      simp [push_cast, c1]
      repeat (refine And.intro (by clear hK; intros; first | omega | (simp_all; done) | (simp_all <;> omega)) ?_)
      refine hK _ ?_; clear hK K; refine Nav.imp ?_
      refine awp_region cx [(1, .p (.bool true))] fun K hK => ?_
      simp [push_cast, c2]
      repeat (refine And.intro (by clear hK; intros; first | omega | (simp_all; done) | (simp_all <;> omega)) ?_)
      refine hK _ ?_; clear hK K; refine Nav.imp ?_
      refine awp_cond (b := false) (by simp [push_cast]) (fun hb => ?_) (fun hb => ?_) <;> (refine Nav.imp ?_)
      · simp at hb
      · refine awp_region cx [] fun K hK => ?_
        simp [push_cast]
        repeat (refine And.intro (by clear hK; intros; first | omega | (simp_all; done) | (simp_all <;> omega)) ?_)
        refine hK _ ?_; clear hK K; refine Nav.imp ?_
        refine awp_cond (b := false) (by simp [push_cast]) (fun hb => ?_) (fun hb => ?_) <;> (refine Nav.imp ?_)
        · simp at hb
        · by_cases hI : inB R dx dy = true
          · rw [hI] at hE hS hin
            simp only [if_true] at hE hS
            rw [hE, hS]
            simp at hin
            have o1 := ok_ok (lx + dx)
            have o2 := ok_ok (hx + dx)
            have o3 := ok_ok (ly + dy)
            have o4 := ok_ok (hy + dy)
            have t1 : (decide (-8192 ≤ dx) && decide (dx ≤ 8192)) = true := by simp; omega
            have t2 : (decide (-8192 ≤ dy) && decide (dy ≤ 8192)) = true := by simp; omega
            have t3 : okB (lx + dx) = true := by simp [okB]; omega
            have t4 : okB (hx + dx) = true := by simp [okB]; omega
            have t5 : okB (ly + dy) = true := by simp [okB]; omega
            have t6 : okB (hy + dy) = true := by simp [okB]; omega
            rw [t1] at n1
            rw [t2] at n2
            rw [t3] at o1
            rw [t4] at o2
            rw [t5] at o3
            rw [t6] at o4
            have w1 := wrap_i64 (n := lx + dx) (by omega) (by omega)
            have w2 := wrap_i64 (n := hx + dx) (by omega) (by omega)
            have w3 := wrap_i64 (n := ly + dy) (by omega) (by omega)
            have w4 := wrap_i64 (n := hy + dy) (by omega) (by omega)
            have hdx : -8192 ≤ dx ∧ dx ≤ 8192 := by omega
            have hdy : -8192 ≤ dy ∧ dy ≤ 8192 := by omega
            refine awp_region cx [(1, .p (.bool true)), (5, .p (.bool true)), (13, .p (.bool true)), (21, .p (.bool true)), (29, .p (.bool true)), (37, .p (.bool true))] fun K hK => ?_
            simp [push_cast, n1, n2, o1, o2, o3, o4, w1, w2, w3, w4]
            repeat (refine And.intro (by clear hK; intros; first | omega | (simp_all; done) | (simp_all <;> omega)) ?_)
            refine hK _ ?_; clear hK K; refine Nav.imp ?_
            refine awp_cond (b := false) (by simp [push_cast]) (fun hb => ?_) (fun hb => ?_) <;> (refine Nav.imp ?_)
            · simp at hb
            · refine awp_region cx [] fun K hK => ?_
              simp [push_cast]
              repeat (refine And.intro (by clear hK; intros; first | omega | (simp_all; done) | (simp_all <;> omega)) ?_)
              refine hK _ ?_; clear hK K; refine Nav.imp ?_
              refine awp_region cx [] fun K hK => ?_
              simp [push_cast]
              repeat (refine And.intro (by clear hK; intros; first | omega | (simp_all; done) | (simp_all <;> omega)) ?_)
              refine hK _ ?_; clear hK K; refine Nav.imp ?_
              refine awp_loop (β := Nat × List Row) (fun b => ⟨100, [(1, .d (.int .i64 dx)), (2, .d (.int .i64 dy)), (6, .ptr 0 0 0), (11, .ptr 1 0 0), (74, .d (encRows R)), (75, .d (.int .i64 R.length)), (76, .d (.int .i64 b.1))], [(0, some ⟨24, 1, [[.nl]]⟩), (1, some ⟨24, 1, [[.hs 2 0 b.2.length]]⟩), (2, some ⟨40, 2, dr (b.2.map Row.row)⟩)], 3⟩) (fun b => b.1 ≤ R.length ∧ b.2 = (R.take b.1).map (shRow dx dy)) (fun b => R.length - b.1) (0, []) ?_ ⟨Nat.zero_le _, by simp⟩ ?_
              · refine weak_of [(0, some 1), (1, some 62), (2, none)] rfl (by simp [upT, up, upL, push_cast]) (by simp [upH, upR, upL, up, push_cast]) (by simp [namesOk, push_cast]) (by simp [olds])
              · rintro ⟨k, Z⟩ ⟨hk, hZ⟩
                simp only at hk hZ
                refine Nav.imp ?_
                refine awp_region cx [] fun K hK => ?_
                simp [push_cast]
                repeat (refine And.intro (by clear hK; intros; first | omega | (simp_all; done) | (simp_all <;> omega)) ?_)
                refine hK _ ?_; clear hK K; refine Nav.imp ?_
                refine awp_cond (b := decide ((k : Int) < R.length)) (by simp [push_cast]) (fun hb => ?_) (fun hb => ?_) <;> (refine Nav.imp ?_)
                · have hlt : k < R.length := by simpa using hb
                  obtain ⟨w, hw⟩ := getq hlt
                  have hb := hrows k w hw
                  have hwv := validR_at hv hw
                  have c3 := rshift_ok w.runs dx hwv.2 (hR.2 w (List.mem_of_getElem? hw)) hdx
                  have e0 := wrap_i64 (n := (k : Int) + 1) (by omega) (by omega)
                  have e1 := wrap_i64 (n := w.y + dy) (by omega) (by omega)
                  have hnx : (R.take (k + 1)).map (shRow dx dy) = Z ++ [shRow dx dy w] := by rw [take_get hw, List.map_append, hZ]; rfl
                  have hsr : shRow dx dy w = ⟨w.y + dy, w.runs.map (shRun dx)⟩ := rfl
                  rw [hsr] at hnx
                  have hZl : Z.length ≤ 1000000 := by rw [hZ]; simp; omega
                  have hZ32 : (Z.length + 1) * 32 ≤ 140737488355328 := by omega
                  obtain ⟨y, ru⟩ := w
                  simp only at c3 e1 hnx
                  generalize ru.map (shRun dx) = sr at *
                  refine awp_region cx [] fun K hK => ?_
                  simp [push_cast, hw, Row.row]
                  repeat (refine And.intro (by clear hK; intros; first | omega | (simp_all; done) | (simp_all <;> omega)) ?_)
                  refine hK _ ?_; clear hK K; refine Nav.imp ?_
                  refine awp_region cx [(3, .p (.tup [encRuns sr, .int .i64 0]))] fun K hK => ?_
                  simp [push_cast, c3, Row.row]
                  repeat (refine And.intro (by clear hK; intros; first | omega | (simp_all; done) | (simp_all <;> omega)) ?_)
                  refine hK _ ?_; clear hK K; refine Nav.imp ?_
                  refine awp_region cx [] fun K hK => ?_
                  simp [push_cast, e1, hZ32, Row.row]
                  repeat (refine And.intro (by clear hK; intros; first | omega | (simp_all; done) | (simp_all <;> omega)) ?_)
                  refine hK _ ?_; clear hK K; refine Nav.imp ?_
                  refine awp_region cx [] fun K hK => ?_
                  simp [push_cast, e0]
                  repeat (refine And.intro (by clear hK; intros; first | omega | (simp_all; done) | (simp_all <;> omega)) ?_)
                  refine hK _ ?_; clear hK K; refine Nav.imp ?_
                  refine ⟨(k + 1, Z ++ [⟨y + dy, sr⟩]), ⟨hlt, hnx.symm⟩, by simp only; omega, ?_⟩
                  refine weak_of [(0, some 0), (1, some 1), (2, some 26)] rfl (by simp [upT, up, upL, push_cast, Row.row]) (by simp [upH, upR, upL, up, push_cast, Row.row]) (by simp [namesOk, push_cast]) (by simp [olds])
                · have hge : k = R.length := by simp at hb; omega
                  subst hge
                  rw [List.take_length] at hZ
                  rw [← hZ]
                  clear hZ
                  refine awp_freeze 2 (Z.map Row.row) rfl (by simp [push_cast, Row.row]) fun K hK => ?_
                  simp [push_cast, St.fz, fzT, fzH, fzO, fz, fzL, fzR, fzR_dr, fzR_app, fzR_set, fzL_map, Row.row]
                  refine hK _ ?_; clear hK K; refine Nav.imp ?_
                  refine awp_region cx [] fun K hK => ?_
                  simp [push_cast]
                  repeat (refine And.intro (by clear hK; intros; first | omega | (simp_all; done) | (simp_all <;> omega)) ?_)
                  refine hK _ ?_; clear hK K; refine Nav.imp ?_
                  simp [push_cast]
          · have hI : inB R dx dy = false := by simpa using hI
            rw [hI] at hE hS hin
            simp only [Bool.false_eq_true, if_false] at hE hS
            rw [hE, hS]
            have hin' : ¬ (-4096 - lx ≤ dx ∧ dx ≤ 4095 - hx ∧ -4096 - ly ≤ dy ∧ dy ≤ 4095 - hy) := by
              rintro ⟨a, b, c, d⟩
              simp [a, b, c, d] at hin
            clear hin
            by_cases t1 : -8192 ≤ dx ∧ dx ≤ 8192
            · have t1' : (decide (-8192 ≤ dx) && decide (dx ≤ 8192)) = true := by simp; omega
              rw [t1'] at n1
              by_cases t2 : -8192 ≤ dy ∧ dy ≤ 8192
              · have t2' : (decide (-8192 ≤ dy) && decide (dy ≤ 8192)) = true := by simp; omega
                rw [t2'] at n2
                have o1 := ok_ok (lx + dx)
                have o2 := ok_ok (hx + dx)
                have o3 := ok_ok (ly + dy)
                have o4 := ok_ok (hy + dy)
                have w1 := wrap_i64 (n := lx + dx) (by omega) (by omega)
                have w2 := wrap_i64 (n := hx + dx) (by omega) (by omega)
                have w3 := wrap_i64 (n := ly + dy) (by omega) (by omega)
                have w4 := wrap_i64 (n := hy + dy) (by omega) (by omega)
                have k1 : okB (lx + dx) = true ↔ (-4096 ≤ lx + dx ∧ lx + dx < 4096) := by simp [okB]
                have k2 : okB (hx + dx) = true ↔ (-4096 ≤ hx + dx ∧ hx + dx < 4096) := by simp [okB]
                have k3 : okB (ly + dy) = true ↔ (-4096 ≤ ly + dy ∧ ly + dy < 4096) := by simp [okB]
                have k4 : okB (hy + dy) = true ↔ (-4096 ≤ hy + dy ∧ hy + dy < 4096) := by simp [okB]
                generalize okB (lx + dx) = p1 at *
                generalize okB (hx + dx) = p2 at *
                generalize okB (ly + dy) = p3 at *
                generalize okB (hy + dy) = p4 at *
                cases p1 with
                | false =>
                  refine awp_region cx [(1, .p (.bool true)), (5, .p (.bool true)), (13, .p (.bool false)), (21, .skip), (29, .skip), (37, .skip)] fun K hK => ?_
                  simp [push_cast, n1, n2, o1, w1]
                  repeat (refine And.intro (by clear hK; intros; first | omega | (simp_all; done) | (simp_all <;> omega)) ?_)
                  refine hK _ ?_; clear hK K; refine Nav.imp ?_
                  refine awp_cond (b := true) (by simp [push_cast]) (fun hb => ?_) (fun hb => ?_) <;> (refine Nav.imp ?_)
                  · refine awp_region cx [] fun K hK => ?_
                    simp [push_cast]
                    repeat (refine And.intro (by clear hK; intros; first | omega | (simp_all; done) | (simp_all <;> omega)) ?_)
                    refine hK _ ?_; clear hK K; refine Nav.imp ?_
                    simp [push_cast]
                  · simp at hb
                | true =>
                  cases p2 with
                  | false =>
                    refine awp_region cx [(1, .p (.bool true)), (5, .p (.bool true)), (13, .p (.bool true)), (21, .p (.bool false)), (29, .skip), (37, .skip)] fun K hK => ?_
                    simp [push_cast, n1, n2, o1, o2, w1, w2]
                    repeat (refine And.intro (by clear hK; intros; first | omega | (simp_all; done) | (simp_all <;> omega)) ?_)
                    refine hK _ ?_; clear hK K; refine Nav.imp ?_
                    refine awp_cond (b := true) (by simp [push_cast]) (fun hb => ?_) (fun hb => ?_) <;> (refine Nav.imp ?_)
                    · refine awp_region cx [] fun K hK => ?_
                      simp [push_cast]
                      repeat (refine And.intro (by clear hK; intros; first | omega | (simp_all; done) | (simp_all <;> omega)) ?_)
                      refine hK _ ?_; clear hK K; refine Nav.imp ?_
                      simp [push_cast]
                    · simp at hb
                  | true =>
                    cases p3 with
                    | false =>
                      refine awp_region cx [(1, .p (.bool true)), (5, .p (.bool true)), (13, .p (.bool true)), (21, .p (.bool true)), (29, .p (.bool false)), (37, .skip)] fun K hK => ?_
                      simp [push_cast, n1, n2, o1, o2, o3, w1, w2, w3]
                      repeat (refine And.intro (by clear hK; intros; first | omega | (simp_all; done) | (simp_all <;> omega)) ?_)
                      refine hK _ ?_; clear hK K; refine Nav.imp ?_
                      refine awp_cond (b := true) (by simp [push_cast]) (fun hb => ?_) (fun hb => ?_) <;> (refine Nav.imp ?_)
                      · refine awp_region cx [] fun K hK => ?_
                        simp [push_cast]
                        repeat (refine And.intro (by clear hK; intros; first | omega | (simp_all; done) | (simp_all <;> omega)) ?_)
                        refine hK _ ?_; clear hK K; refine Nav.imp ?_
                        simp [push_cast]
                      · simp at hb
                    | true =>
                      cases p4 with
                      | false =>
                        refine awp_region cx [(1, .p (.bool true)), (5, .p (.bool true)), (13, .p (.bool true)), (21, .p (.bool true)), (29, .p (.bool true)), (37, .p (.bool false))] fun K hK => ?_
                        simp [push_cast, n1, n2, o1, o2, o3, o4, w1, w2, w3, w4]
                        repeat (refine And.intro (by clear hK; intros; first | omega | (simp_all; done) | (simp_all <;> omega)) ?_)
                        refine hK _ ?_; clear hK K; refine Nav.imp ?_
                        refine awp_cond (b := true) (by simp [push_cast]) (fun hb => ?_) (fun hb => ?_) <;> (refine Nav.imp ?_)
                        · refine awp_region cx [] fun K hK => ?_
                          simp [push_cast]
                          repeat (refine And.intro (by clear hK; intros; first | omega | (simp_all; done) | (simp_all <;> omega)) ?_)
                          refine hK _ ?_; clear hK K; refine Nav.imp ?_
                          simp [push_cast]
                        · simp at hb
                      | true =>
                        have := k1.1 rfl
                        have := k2.1 rfl
                        have := k3.1 rfl
                        have := k4.1 rfl
                        omega
              · have t2' : (decide (-8192 ≤ dy) && decide (dy ≤ 8192)) = false := by
                  rw [Bool.eq_false_iff]; intro h; simp at h; omega
                rw [t2'] at n2
                refine awp_region cx [(1, .p (.bool true)), (5, .p (.bool false)), (13, .skip), (21, .skip), (29, .skip), (37, .skip)] fun K hK => ?_
                simp [push_cast, n1, n2]
                repeat (refine And.intro (by clear hK; intros; first | omega | (simp_all; done) | (simp_all <;> omega)) ?_)
                refine hK _ ?_; clear hK K; refine Nav.imp ?_
                refine awp_cond (b := true) (by simp [push_cast]) (fun hb => ?_) (fun hb => ?_) <;> (refine Nav.imp ?_)
                · refine awp_region cx [] fun K hK => ?_
                  simp [push_cast]
                  repeat (refine And.intro (by clear hK; intros; first | omega | (simp_all; done) | (simp_all <;> omega)) ?_)
                  refine hK _ ?_; clear hK K; refine Nav.imp ?_
                  simp [push_cast]
                · simp at hb
            · have t1' : (decide (-8192 ≤ dx) && decide (dx ≤ 8192)) = false := by
                rw [Bool.eq_false_iff]; intro h; simp at h; omega
              rw [t1'] at n1
              refine awp_region cx [(1, .p (.bool false)), (5, .skip), (13, .skip), (21, .skip), (29, .skip), (37, .skip)] fun K hK => ?_
              simp [push_cast, n1]
              repeat (refine And.intro (by clear hK; intros; first | omega | (simp_all; done) | (simp_all <;> omega)) ?_)
              refine hK _ ?_; clear hK K; refine Nav.imp ?_
              refine awp_cond (b := true) (by simp [push_cast]) (fun hb => ?_) (fun hb => ?_) <;> (refine Nav.imp ?_)
              · refine awp_region cx [] fun K hK => ?_
                simp [push_cast]
                repeat (refine And.intro (by clear hK; intros; first | omega | (simp_all; done) | (simp_all <;> omega)) ?_)
                refine hK _ ?_; clear hK K; refine Nav.imp ?_
                simp [push_cast]
              · simp at hb
    · have hnil : R = [] := List.eq_nil_of_length_eq_zero (by omega)
      have hso : some? R = false := by rw [hsv]; simp [hnil]
      have h1 : shR R dx dy = [] := by rw [hS, hso]; simp
      have h2 : shE R dx dy = 0 := by rw [hE, hv, hnil]; simp
      rw [h1, h2]
      rw [hso] at c1
      clear hE hS h1 h2 hsv hso hBD hD
      generalize boxLo R = lo at *
      generalize boxHi R = hi at *
      refine pc_of_awp cx (fn := Tryd.f16) (c := _) Tryd.func16 rfl rfl (Nat.le_of_ble_eq_true rfl) ?_
      rw [Tryd.ntmps16]; refine Nav.imp ?_
      refine awp_region cx [] fun K hK => ?_
      simp [push_cast]
      repeat (refine And.intro (by clear hK; intros; first | omega | (simp_all; done) | (simp_all <;> omega)) ?_)
      refine hK _ ?_; clear hK K; refine Nav.imp ?_
      refine awp_region cx [(1, .p (.tup [.agg lo.row, .agg hi.row, .bool false]))] fun K hK => ?_
      simp [push_cast, c1]
      repeat (refine And.intro (by clear hK; intros; first | omega | (simp_all; done) | (simp_all <;> omega)) ?_)
      refine hK _ ?_; clear hK K; refine Nav.imp ?_
      refine awp_region cx [(1, .p (.bool true))] fun K hK => ?_
      simp [push_cast, c2]
      repeat (refine And.intro (by clear hK; intros; first | omega | (simp_all; done) | (simp_all <;> omega)) ?_)
      refine hK _ ?_; clear hK K; refine Nav.imp ?_
      refine awp_cond (b := false) (by simp [push_cast]) (fun hb => ?_) (fun hb => ?_) <;> (refine Nav.imp ?_)
      · simp at hb
      · refine awp_region cx [] fun K hK => ?_
        simp [push_cast]
        repeat (refine And.intro (by clear hK; intros; first | omega | (simp_all; done) | (simp_all <;> omega)) ?_)
        refine hK _ ?_; clear hK K; refine Nav.imp ?_
        refine awp_cond (b := true) (by simp [push_cast]) (fun hb => ?_) (fun hb => ?_) <;> (refine Nav.imp ?_)
        · refine awp_region cx [] fun K hK => ?_
          simp [push_cast]
          repeat (refine And.intro (by clear hK; intros; first | omega | (simp_all; done) | (simp_all <;> omega)) ?_)
          refine hK _ ?_; clear hK K; refine Nav.imp ?_
          simp [push_cast]
        · simp at hb
end Go.Proofs.YtgicofpllopjmaaDoor

namespace Go.Proofs.YtgicofpllopjmaaDoor
open Go.Abs

end Go.Proofs.YtgicofpllopjmaaDoor

namespace Go.Proofs.YtgicofpllopjmaaDoor
open Go.Abs Go.Shelf

theorem bytes_und : Tryd.prog.underlying 48 = some (.slice 5) := Tryd.underlying48
theorem u8_und : Tryd.prog.underlying 5 = some (.int .u8) := Tryd.underlying5
theorem rowOf_len2 {R : List Row} (hR : smallR R) (y : Int) : (rowOf R y).length ≤ 1000000 := by
  unfold rowOf
  split
  · rename_i w h; exact hR.2 w (List.mem_of_find?_eq_some h)
  · simp
def pch (R : List Row) (ax y : Int) (k : Nat) : UInt8 := if inR (rowOf R y) (ax + k) then 35 else 46
def plin (R : List Row) (ax y : Int) (w : Nat) : List UInt8 := (List.range w).map (pch R ax y)
def pics (R : List Row) (ax top : Int) (w m : Nat) : List UInt8 := (List.range m).flatMap fun j : Nat => plin R ax (top - (j : Int)) w ++ [10]
theorem plin_len (R : List Row) (ax y : Int) (w : Nat) : (plin R ax y w).length = w := by simp [plin]
theorem pics_next (R : List Row) (ax top : Int) (w m : Nat) : pics R ax top w (m + 1) = pics R ax top w m ++ (plin R ax (top - (m : Int)) w ++ [10]) := by
  unfold pics
  rw [List.range_succ, List.flatMap_append]
  simp
theorem pics_len (R : List Row) (ax top : Int) (w : Nat) : ∀ m, (pics R ax top w m).length = m * (w + 1)
  | 0 => by simp [pics]
  | m + 1 => by
    rw [pics_next, List.length_append, pics_len R ax top w m, List.length_append, plin_len, Nat.succ_mul]
    rfl
def widR (R : List Row) : Nat := (highX R - lowX R + 1).toNat
def higR (R : List Row) : Nat := (lstY R - fstY R + 1).toNat
def picS (R : List Row) : List UInt8 := if some? R = true ∧ (widR R + 1) * higR R ≤ 65536 then pics R (lowX R) (lstY R) (widR R) (higR R) else []
theorem pic_facts {R : List Row} (h : some? R = true) : boxLo R = ⟨lowX R, fstY R⟩ ∧ boxHi R = ⟨highX R, lstY R⟩ ∧ validR R = true ∧ 0 < R.length ∧ -4096 ≤ lowX R ∧ highX R = lowX R + widR R - 1 ∧ 1 ≤ widR R ∧ highX R ≤ 4095 ∧ -4096 ≤ fstY R ∧ lstY R = fstY R + higR R - 1 ∧ 1 ≤ higR R ∧ lstY R ≤ 4095 := by
  have hs : validR R = true ∧ 0 < R.length := by simpa [some?] using h
  obtain ⟨h1, h2, h3, h4, h5, h6⟩ := box_bd hs.1 hs.2
  refine ⟨by simp [boxLo, h], by simp [boxHi, h], hs.1, hs.2, h1, ?_, ?_, h3, h4, ?_, ?_, h6⟩ <;> simp only [widR, higR] <;> omega
end Go.Proofs.YtgicofpllopjmaaDoor
