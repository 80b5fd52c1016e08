/-
  Texts of this seat put together: A4, R2, R3, R4, R5, Q1, Q2, G1.
-/
import Derived.Test.YtagakfaiimaifaaI4
set_option linter.unusedVariables false
set_option linter.unusedSimpArgs false
set_option maxRecDepth 100000
namespace Go.Proofs.Ytagakfaiimaifaa
open Go.Abs

abbrev gRow (g : List Cell) : List D := [encCells g]
abbrev encGs (G : List (List Cell)) : D := .sl (G.map gRow)
noncomputable def grpRef (l : List Cell) (adj : Cell → Cell → Bool) (i : Nat) : List (List Cell) := (hdS l adj i).map fun h => cls l adj h l
def doneAt (l : List Cell) (adj : Cell → Cell → Bool) (i : Nat) (B : List Bool) : Prop := B.length = l.length ∧ ∀ (j : Nat) (x : Cell), l[j]? = some x → (B[j]? = some true ↔ ∃ h ∈ hdS l adj i, Conn l adj h x)
def midAt (l : List Cell) (adj : Cell → Cell → Bool) (i : Nat) (c : Cell) (k : Nat) (B : List Bool) : Prop := B.length = l.length ∧ ∀ (j : Nat) (x : Cell), l[j]? = some x → (B[j]? = some true ↔ (∃ h ∈ hdS l adj i, Conn l adj h x) ∨ (j < k ∧ Conn l adj c x))
end Go.Proofs.Ytagakfaiimaifaa

set_option linter.unusedVariables false
set_option linter.unusedSimpArgs false
set_option maxRecDepth 100000
namespace Go.Proofs.Ytagakfaiimaifaa
open Go.Abs

set_option maxRecDepth 100000 in
theorem fine_big (l : List Run) (hl : l.length ≤ 9223372036854775807) : PC Try.prog 44 [encRuns l] (.p (.bool (fine l))) := by
  refine pc_of_awp cx (fn := Try.f44) (c := _) Try.func44 rfl rfl (Nat.le_of_ble_eq_true rfl) ?_
  rw [Try.ntmps44]; refine Nav.imp ?_
  refine awp_region cx [] fun K hK => ?_
  simp [push_cast]
  repeat (refine And.intro (by clear hK; intros; first | omega | (simp_all; done) | (simp_all <;> omega)) ?_)
  refine hK _ ?_; clear hK K; refine Nav.imp ?_
  refine awp_region cx [] fun K hK => ?_
  simp [push_cast]
  repeat (refine And.intro (by clear hK; intros; first | omega | (simp_all; done) | (simp_all <;> omega)) ?_)
  refine hK _ ?_; clear hK K; refine Nav.imp ?_
  refine awp_loop (β := Nat) (fun k => ⟨58, [(0, .d (encRuns l)), (3, .d (.int .i64 k))], [], 1⟩) (fun k => k ≤ l.length ∧ (List.range k).all (fnAt l) = true) (fun k => l.length - k) 0 ?_ ⟨Nat.zero_le _, rfl⟩ ?_
  · refine weak_of [] rfl (by simp [upT, up, upL, push_cast]) (by simp [upH, upR, upL, up, push_cast]) (by simp [namesOk, push_cast]) (by simp [olds])
  · intro k ⟨hk, hall⟩
    refine Nav.imp ?_
    refine awp_region cx [] fun K hK => ?_
    simp [push_cast]
    repeat (refine And.intro (by clear hK; intros; first | omega | (simp_all; done) | (simp_all <;> omega)) ?_)
    refine hK _ ?_; clear hK K; refine Nav.imp ?_
    refine awp_cond (b := decide ((k : Int) < l.length)) (by simp [push_cast]) (fun hb => ?_) (fun hb => ?_) <;> (refine Nav.imp ?_)
    · have hlt : k < l.length := by simpa using hb
      obtain ⟨r, hr⟩ := getq hlt
      obtain ⟨p, hp⟩ : ∃ p, l[k - 1]? = some p := getq (by omega)
      have e0 := wrap_i64 (n := (k : Int) + 1) (by omega) (by omega)
      have hat := fnAt_some hr hp
      obtain ⟨ra, rb⟩ := r
      by_cases hk0 : k = 0
      · subst hk0
        refine awp_region_draw cx mixed [] fun K hK => ?_
        simp [push_cast, hr, Run.row]
        repeat (refine And.intro (by clear hK; intros; first | omega | (simp_all; done) | (simp_all <;> omega)) ?_)
        refine hK _ _ (by kernel_rfl) ?_; clear hK K; refine Nav.imp ?_
        refine awp_cond (by simp [push_cast] <;> exact rfl) (fun hb => ?_) (fun hb => ?_) <;> (refine Nav.imp ?_)
        · simp at hb
          refine awp_region cx [] fun K hK => ?_
          simp [push_cast]
          repeat (refine And.intro (by clear hK; intros; first | omega | (simp_all; done) | (simp_all <;> omega)) ?_)
          refine hK _ ?_; clear hK K; refine Nav.imp ?_
          simp [push_cast]
          simp only [fine, Bool.and_eq_false_iff]
          refine .inl (all_range_false hlt ?_)
          rw [hat]; simp; omega
        · simp at hb
          refine awp_region cx [] fun K hK => ?_
          simp [push_cast, e0]
          repeat (refine And.intro (by clear hK; intros; first | omega | (simp_all; done) | (simp_all <;> omega)) ?_)
          refine hK _ ?_; clear hK K; refine Nav.imp ?_
          refine ⟨1, ⟨hlt, by rw [all_range_succ, hall, hat]; simp; omega⟩, by omega, ?_⟩
          refine weak_of [] rfl (by simp [upT, up, upL, push_cast]) (by simp [upH, upR, upL, up, push_cast]) (by simp [namesOk, push_cast]) (by simp [olds])
      · have e1 := wrap_i64 (n := (k : Int) - 1) (by omega) (by omega)
        have e2 : ((k : Int) - 1).toNat = k - 1 := by omega
        have hk1 : (0 : Int) < k := by omega
        have hk2 : (0 : Int) ≤ k - 1 := by omega
        have hk3 : 0 < k := by omega
        obtain ⟨pa, pb⟩ := p
        refine awp_region_draw cx mixed [] fun K hK => ?_
        simp [push_cast, hr, hp, Run.row, e1, e2, hk1, hk2, hk3]
        repeat (refine And.intro (by clear hK; intros; first | omega | (simp_all; done) | (simp_all <;> omega)) ?_)
        refine hK _ _ (by kernel_rfl) ?_; clear hK K; refine Nav.imp ?_
        refine awp_cond (by simp [push_cast] <;> exact rfl) (fun hb => ?_) (fun hb => ?_) <;> (refine Nav.imp ?_)
        · simp [hk3] at hb
          refine awp_region cx [] fun K hK => ?_
          simp [push_cast]
          repeat (refine And.intro (by clear hK; intros; first | omega | (simp_all; done) | (simp_all <;> omega)) ?_)
          refine hK _ ?_; clear hK K; refine Nav.imp ?_
          simp [push_cast]
          simp only [fine, Bool.and_eq_false_iff]
          refine .inl (all_range_false hlt ?_)
          rw [hat]; simp [hk0]; omega
        · simp [hk3] at hb
          refine awp_region cx [] fun K hK => ?_
          simp [push_cast, e0]
          repeat (refine And.intro (by clear hK; intros; first | omega | (simp_all; done) | (simp_all <;> omega)) ?_)
          refine hK _ ?_; clear hK K; refine Nav.imp ?_
          refine ⟨k + 1, ⟨hlt, by rw [all_range_succ, hall, hat]; simp [hk0]; omega⟩, by omega, ?_⟩
          refine weak_of [] rfl (by simp [upT, up, upL, push_cast]) (by simp [upH, upR, upL, up, push_cast]) (by simp [namesOk, push_cast]) (by simp [olds])
    · have hge : k = l.length := by simp at hb; omega
      subst hge
      refine awp_region cx [] fun K hK => ?_
      simp [push_cast]
      repeat (refine And.intro (by clear hK; intros; first | omega | (simp_all; done) | (simp_all <;> omega)) ?_)
      refine hK _ ?_; clear hK K; refine Nav.imp ?_
      simp [push_cast, fine, hall]

def smallR (R : List Row) : Prop := R.length ≤ 1000000 ∧ ∀ w ∈ R, w.runs.length ≤ 1000000
/-- Whatever a machine may hand over. -/
def bigR (R : List Row) : Prop := R.length ≤ 9223372036854775807 ∧ ∀ w ∈ R, w.runs.length ≤ 9223372036854775807
theorem big_of {R : List Row} (h : smallR R) : bigR R := ⟨by have := h.1; omega, fun w hw => by have := h.2 w hw; omega⟩

theorem validR_big (R : List Row) (hR : bigR R) : PC Try.prog 21 [.agg (regRow R)] (.p (.bool (validR R))) := by
  have hl := hR.1
  refine pc_of_awp cx (fn := Try.f21) (c := _) Try.func21 rfl rfl (Nat.le_of_ble_eq_true rfl) ?_
  rw [Try.ntmps21]; refine Nav.imp ?_
  refine awp_region cx [] fun K hK => ?_
  simp [push_cast]
  repeat (refine And.intro (by clear hK; intros; first | omega | (simp_all; done) | (simp_all <;> omega)) ?_)
  refine hK _ ?_; clear hK K; refine Nav.imp ?_
  refine awp_region cx [] fun K hK => ?_
  simp [push_cast]
  repeat (refine And.intro (by clear hK; intros; first | omega | (simp_all; done) | (simp_all <;> omega)) ?_)
  refine hK _ ?_; clear hK K; refine Nav.imp ?_
  refine awp_loop (β := Nat) (fun k => ⟨49, [(1, .ptr 0 0 0), (3, .d (.int .i64 k))], [(0, some ⟨24, 1, [(regRow R).map .d]⟩)], 1⟩) (fun k => k ≤ R.length ∧ (List.range k).all (rowAt R) = true) (fun k => R.length - k) 0 ?_ ⟨Nat.zero_le _, rfl⟩ ?_
  · refine weak_of [(0, some 0)] rfl (by simp [upT, up, upL, push_cast]) (by simp [upH, upR, upL, up, push_cast]) (by simp [namesOk, push_cast]) (by simp [olds])
  · intro k ⟨hk, hall⟩
    refine Nav.imp ?_
    refine awp_region cx [] fun K hK => ?_
    simp [push_cast]
    repeat (refine And.intro (by clear hK; intros; first | omega | (simp_all; done) | (simp_all <;> omega)) ?_)
    refine hK _ ?_; clear hK K; refine Nav.imp ?_
    refine awp_cond (b := decide ((k : Int) < R.length)) (by simp [push_cast]) (fun hb => ?_) (fun hb => ?_) <;> (refine Nav.imp ?_)
    · have hlt : k < R.length := by simpa using hb
      obtain ⟨r, hr⟩ := getq hlt
      obtain ⟨p, hp⟩ : ∃ p, R[k - 1]? = some p := getq (by omega)
      have e0 := wrap_i64 (n := (k : Int) + 1) (by omega) (by omega)
      have hat := rowAt_some hr hp
      have c1 := fine_big r.runs (hR.2 r (List.mem_of_getElem? hr))
      obtain ⟨y, ru⟩ := r
      simp only at c1 hat
      generalize hv : fine ru = v at c1
      rw [hv] at hat
      refine awp_region cx [] fun K hK => ?_
      simp [push_cast, hr, Row.row]
      repeat (refine And.intro (by clear hK; intros; first | omega | (simp_all; done) | (simp_all <;> omega)) ?_)
      refine hK _ ?_; clear hK K; refine Nav.imp ?_
      by_cases h1 : okB y = true
      · simp [okB] at h1
        have h1a : ¬ y < -4096 := by omega
        have h1b : ¬ (4096 ≤ y) := by omega
        have h1c : okB y = true := by simp [okB]; omega
        by_cases hk0 : k = 0
        · subst hk0
          refine awp_region cx [(28, .p (.bool v))] fun K hK => ?_
          simp [push_cast, h1a, h1b, hr, Row.row, c1]
          repeat (refine And.intro (by clear hK; intros; first | omega | (simp_all; done) | (simp_all <;> omega)) ?_)
          refine hK _ ?_; clear hK K; refine Nav.imp ?_
          refine awp_cond (b := !v) (by simp [push_cast]) (fun hb => ?_) (fun hb => ?_) <;> (refine Nav.imp ?_)
          · simp at hb
            refine awp_region cx [] fun K hK => ?_
            simp [push_cast]
            repeat (refine And.intro (by clear hK; intros; first | omega | (simp_all; done) | (simp_all <;> omega)) ?_)
            refine hK _ ?_; clear hK K; refine Nav.imp ?_
            simp [push_cast]
            exact all_range_false hlt (by rw [hat, hb]; simp)
          · simp at hb
            refine awp_region cx [] fun K hK => ?_
            simp [push_cast, e0]
            repeat (refine And.intro (by clear hK; intros; first | omega | (simp_all; done) | (simp_all <;> omega)) ?_)
            refine hK _ ?_; clear hK K; refine Nav.imp ?_
            refine ⟨1, ⟨hlt, by rw [all_range_succ, hall, hat]; simp [h1c, hb]⟩, by omega, ?_⟩
            refine weak_of [(0, some 0)] rfl (by simp [upT, up, upL, push_cast]) (by simp [upH, upR, upL, up, push_cast]) (by simp [namesOk, push_cast]) (by simp [olds])
        · have e1 := wrap_i64 (n := (k : Int) - 1) (by omega) (by omega)
          have e2 : ((k : Int) - 1).toNat = k - 1 := by omega
          have hk1 : (0 : Int) < k := by omega
          have hk2 : (0 : Int) ≤ k - 1 := by omega
          have hk3 : 0 < k := by omega
          obtain ⟨py, pr⟩ := p
          by_cases h2 : py < y
          · have h2' : ¬ (y ≤ py) := by omega
            refine awp_region cx [(28, .p (.bool v))] fun K hK => ?_
            simp [push_cast, h1a, h1b, hr, hp, Row.row, c1, hk1, hk3, e1, e2, hk2, h2']
            repeat (refine And.intro (by clear hK; intros; first | omega | (simp_all; done) | (simp_all <;> omega)) ?_)
            refine hK _ ?_; clear hK K; refine Nav.imp ?_
            refine awp_cond (b := !v) (by simp [push_cast]) (fun hb => ?_) (fun hb => ?_) <;> (refine Nav.imp ?_)
            · simp at hb
              refine awp_region cx [] fun K hK => ?_
              simp [push_cast]
              repeat (refine And.intro (by clear hK; intros; first | omega | (simp_all; done) | (simp_all <;> omega)) ?_)
              refine hK _ ?_; clear hK K; refine Nav.imp ?_
              simp [push_cast]
              exact all_range_false hlt (by rw [hat, hb]; simp)
            · simp at hb
              refine awp_region cx [] fun K hK => ?_
              simp [push_cast, e0]
              repeat (refine And.intro (by clear hK; intros; first | omega | (simp_all; done) | (simp_all <;> omega)) ?_)
              refine hK _ ?_; clear hK K; refine Nav.imp ?_
              refine ⟨k + 1, ⟨hlt, by rw [all_range_succ, hall, hat]; simp [h1c, hb, h2]⟩, by omega, ?_⟩
              refine weak_of [(0, some 0)] rfl (by simp [upT, up, upL, push_cast]) (by simp [upH, upR, upL, up, push_cast]) (by simp [namesOk, push_cast]) (by simp [olds])
          · have h2' : y ≤ py := by omega
            refine awp_region cx [(28, .skip)] fun K hK => ?_
            simp [push_cast, h1a, h1b, hr, hp, Row.row, c1, hk1, hk3, e1, e2, hk2, h2']
            repeat (refine And.intro (by clear hK; intros; first | omega | (simp_all; done) | (simp_all <;> omega)) ?_)
            refine hK _ ?_; clear hK K; refine Nav.imp ?_
            refine awp_cond (b := true) (by simp [push_cast]) (fun hb => ?_) (fun hb => ?_) <;> (refine Nav.imp ?_)
            · refine awp_region cx [] fun K hK => ?_
              simp [push_cast]
              repeat (refine And.intro (by clear hK; intros; first | omega | (simp_all; done) | (simp_all <;> omega)) ?_)
              refine hK _ ?_; clear hK K; refine Nav.imp ?_
              simp [push_cast]
              exact all_range_false hlt (by rw [hat]; simp [h2, hk0])
            · simp at hb
      · have hF : rowAt R k = false := by rw [hat]; simp [h1]
        by_cases h1a : y < -4096
        · by_cases hk0 : k = 0
          · subst hk0
            refine awp_region cx [(28, .skip)] fun K hK => ?_
            simp [push_cast, h1a, hr, Row.row]
            repeat (refine And.intro (by clear hK; intros; first | omega | (simp_all; done) | (simp_all <;> omega)) ?_)
            refine hK _ ?_; clear hK K; refine Nav.imp ?_
            refine awp_cond (b := true) (by simp [push_cast]) (fun hb => ?_) (fun hb => ?_) <;> (refine Nav.imp ?_)
            · refine awp_region cx [] fun K hK => ?_
              simp [push_cast]
              repeat (refine And.intro (by clear hK; intros; first | omega | (simp_all; done) | (simp_all <;> omega)) ?_)
              refine hK _ ?_; clear hK K; refine Nav.imp ?_
              simp [push_cast]
              exact all_range_false hlt hF
            · simp at hb
          · have e1 := wrap_i64 (n := (k : Int) - 1) (by omega) (by omega)
            have e2 : ((k : Int) - 1).toNat = k - 1 := by omega
            obtain ⟨py, pr⟩ := p
            refine awp_region cx [(28, .skip)] fun K hK => ?_
            simp [push_cast, h1a, hr, hp, e1, e2, Row.row]
            repeat (refine And.intro (by clear hK; intros; first | omega | (simp_all; done) | (simp_all <;> omega)) ?_)
            refine hK _ ?_; clear hK K; refine Nav.imp ?_
            refine awp_cond (b := true) (by simp [push_cast]) (fun hb => ?_) (fun hb => ?_) <;> (refine Nav.imp ?_)
            · refine awp_region cx [] fun K hK => ?_
              simp [push_cast]
              repeat (refine And.intro (by clear hK; intros; first | omega | (simp_all; done) | (simp_all <;> omega)) ?_)
              refine hK _ ?_; clear hK K; refine Nav.imp ?_
              simp [push_cast]
              exact all_range_false hlt hF
            · simp at hb
        · have h1b : 4096 ≤ y := by simp [okB] at h1; omega
          by_cases hk0 : k = 0
          · subst hk0
            refine awp_region cx [(28, .skip)] fun K hK => ?_
            simp [push_cast, h1a, h1b, hr, Row.row]
            repeat (refine And.intro (by clear hK; intros; first | omega | (simp_all; done) | (simp_all <;> omega)) ?_)
            refine hK _ ?_; clear hK K; refine Nav.imp ?_
            refine awp_cond (b := true) (by simp [push_cast]) (fun hb => ?_) (fun hb => ?_) <;> (refine Nav.imp ?_)
            · refine awp_region cx [] fun K hK => ?_
              simp [push_cast]
              repeat (refine And.intro (by clear hK; intros; first | omega | (simp_all; done) | (simp_all <;> omega)) ?_)
              refine hK _ ?_; clear hK K; refine Nav.imp ?_
              simp [push_cast]
              exact all_range_false hlt hF
            · simp at hb
          · have e1 := wrap_i64 (n := (k : Int) - 1) (by omega) (by omega)
            have e2 : ((k : Int) - 1).toNat = k - 1 := by omega
            obtain ⟨py, pr⟩ := p
            refine awp_region cx [(28, .skip)] fun K hK => ?_
            simp [push_cast, h1a, h1b, hr, hp, e1, e2, Row.row]
            repeat (refine And.intro (by clear hK; intros; first | omega | (simp_all; done) | (simp_all <;> omega)) ?_)
            refine hK _ ?_; clear hK K; refine Nav.imp ?_
            refine awp_cond (b := true) (by simp [push_cast]) (fun hb => ?_) (fun hb => ?_) <;> (refine Nav.imp ?_)
            · refine awp_region cx [] fun K hK => ?_
              simp [push_cast]
              repeat (refine And.intro (by clear hK; intros; first | omega | (simp_all; done) | (simp_all <;> omega)) ?_)
              refine hK _ ?_; clear hK K; refine Nav.imp ?_
              simp [push_cast]
              exact all_range_false hlt hF
            · simp at hb
    · have hge : k = R.length := by simp at hb; omega
      subst hge
      refine awp_region cx [] fun K hK => ?_
      simp [push_cast]
      repeat (refine And.intro (by clear hK; intros; first | omega | (simp_all; done) | (simp_all <;> omega)) ?_)
      refine hK _ ?_; clear hK K; refine Nav.imp ?_
      simp [push_cast, validR, hall]

theorem rows_at (R : List Row) {k : Nat} {r p : Row} {f z : Run} (hr : R[k]? = some r) (hp : R[k - 1]? = some p) (hf : r.runs[0]? = some f) (hz : r.runs[r.runs.length - 1]? = some z) :
    rowAt R k = (okB r.y && (k == 0 || decide (p.y < r.y)) && rvalid r.runs && okB f.a && okB (z.b - 1)) := by
  rw [rowAt_some hr hp, fine_iff hf hz]
  simp only [Bool.and_assoc]
theorem rows_nil (R : List Row) {k : Nat} {r : Row} (hr : R[k]? = some r) (h : r.runs = []) : rowAt R k = false := by
  have := (List.getElem?_eq_some_iff.1 hr).1
  obtain ⟨p, hp⟩ : ∃ p, R[k - 1]? = some p := getq (by omega)
  rw [rowAt_some hr hp, h]; simp [fine]

set_option maxHeartbeats 1000000 in
theorem valid_big (R : List Row) (hR : bigR R) : PC Try.prog 41 [.agg (regRow R)] (.p (.bool (validR R))) := by
  have hl := hR.1
  refine pc_of_awp cx (fn := Try.f41) (c := _) Try.func41 rfl rfl (Nat.le_of_ble_eq_true rfl) ?_
  rw [Try.ntmps41]; refine Nav.imp ?_
  refine awp_region cx [] fun K hK => ?_
  simp [push_cast]
  repeat (refine And.intro (by clear hK; intros; first | omega | (simp_all; done) | (simp_all <;> omega)) ?_)
  refine hK _ ?_; clear hK K; refine Nav.imp ?_
  refine awp_region cx [] fun K hK => ?_
  simp [push_cast]
  repeat (refine And.intro (by clear hK; intros; first | omega | (simp_all; done) | (simp_all <;> omega)) ?_)
  refine hK _ ?_; clear hK K; refine Nav.imp ?_
  refine awp_loop (β := Nat) (fun k => ⟨67, [(1, .ptr 0 0 0), (6, .d (encRows R)), (7, .d (.int .i64 R.length)), (8, .d (.int .i64 k))], [(0, some ⟨24, 1, [(regRow R).map .d]⟩)], 1⟩) (fun k => k ≤ R.length ∧ (List.range k).all (rowAt R) = true) (fun k => R.length - k) 0 ?_ ⟨Nat.zero_le _, rfl⟩ ?_
  · refine weak_of [(0, some 0)] rfl (by simp [upT, up, upL, push_cast]) (by simp [upH, upR, upL, up, push_cast]) (by simp [namesOk, push_cast]) (by simp [olds])
  · intro k ⟨hk, hall⟩
    refine Nav.imp ?_
    refine awp_region cx [] fun K hK => ?_
    simp [push_cast]
    repeat (refine And.intro (by clear hK; intros; first | omega | (simp_all; done) | (simp_all <;> omega)) ?_)
    refine hK _ ?_; clear hK K; refine Nav.imp ?_
    refine awp_cond (b := decide ((k : Int) < R.length)) (by simp [push_cast]) (fun hb => ?_) (fun hb => ?_) <;> (refine Nav.imp ?_)
    · have hlt : k < R.length := by simpa using hb
      obtain ⟨r, hr⟩ := getq hlt
      obtain ⟨p, hp⟩ : ∃ p, R[k - 1]? = some p := getq (by omega)
      have e0 := wrap_i64 (n := (k : Int) + 1) (by omega) (by omega)
      have e1 := wrap_i64 (n := (k : Int) - 1) (by omega) (by omega)
      have hrl := hR.2 r (List.mem_of_getElem? hr)
      have c1 := ok_ok r.y
      have c2 := rvalid_big r.runs hrl
      have hnil := rows_nil R hr
      have hcons := fun f z => @rows_at R k r p f z hr hp
      obtain ⟨y, ru⟩ := r
      obtain ⟨py, pr⟩ := p
      simp only at c1 c2 hnil hcons hrl
      have hno : rowAt R k = false → validR R = false := fun h => all_range_false hlt h
      have hy : okB y = false → rowAt R k = false := fun h => by rw [rowAt_some hr hp]; simp [h]
      have hpy : k ≠ 0 → y ≤ py → rowAt R k = false := fun h0 h => by rw [rowAt_some hr hp]; simp [h0, show ¬ py < y by omega]
      have hrv : rvalid ru = false → rowAt R k = false := fun h => by
        cases hru : ru with
        | nil => exact hnil hru
        | cons a b =>
          obtain ⟨f, hf⟩ : ∃ f, ru[0]? = some f := getq (by rw [hru]; simp)
          obtain ⟨z, hz⟩ : ∃ f, ru[ru.length - 1]? = some f := getq (by rw [hru]; simp)
          rw [hcons f z hf hz, h]; simp
      generalize okB y = oy at *
      generalize hrvd : rvalid ru = rv at c2 hrv hcons
      refine awp_region cx [] fun K hK => ?_
      simp [push_cast, hr, Row.row]
      repeat (refine And.intro (by clear hK; intros; first | omega | (simp_all; done) | (simp_all <;> omega)) ?_)
      refine hK _ ?_; clear hK K; refine Nav.imp ?_
      cases oy with
      | false =>
        by_cases hk0 : k = 0
        · subst hk0
          refine awp_region_draw cx mixed [(2, .p (.bool false)), (29, .skip)] fun K hK => ?_
          simp [push_cast, c1, hr, Row.row]
          repeat (refine And.intro (by clear hK; intros; first | omega | (simp_all; done) | (simp_all <;> omega)) ?_)
          refine hK _ _ (by kernel_rfl) ?_; clear hK K; refine Nav.imp ?_
          refine awp_cond (b := true) (by simp [push_cast]) (fun hb => ?_) (fun hb => ?_) <;> (refine Nav.imp ?_)
          · refine awp_region cx [] fun K hK => ?_
            simp [push_cast]
            repeat (refine And.intro (by clear hK; intros; first | omega | (simp_all; done) | (simp_all <;> omega)) ?_)
            refine hK _ ?_; clear hK K; refine Nav.imp ?_
            simp [push_cast]
            exact hno (hy rfl)
          · simp at hb
        · have e2 : ((k : Int) - 1).toNat = k - 1 := by omega
          refine awp_region_draw cx mixed [(2, .p (.bool false)), (29, .skip)] fun K hK => ?_
          simp [push_cast, c1, hp, e1, e2, Row.row]
          repeat (refine And.intro (by clear hK; intros; first | omega | (simp_all; done) | (simp_all <;> omega)) ?_)
          refine hK _ _ (by kernel_rfl) ?_; clear hK K; refine Nav.imp ?_
          refine awp_cond (b := true) (by simp [push_cast]) (fun hb => ?_) (fun hb => ?_) <;> (refine Nav.imp ?_)
          · refine awp_region cx [] fun K hK => ?_
            simp [push_cast]
            repeat (refine And.intro (by clear hK; intros; first | omega | (simp_all; done) | (simp_all <;> omega)) ?_)
            refine hK _ ?_; clear hK K; refine Nav.imp ?_
            simp [push_cast]
            exact hno (hy rfl)
          · simp at hb
      | true =>
        cases hru : ru with
        | nil =>
          subst hru
          by_cases hk0 : k = 0
          · subst hk0
            refine awp_region_draw cx mixed [(2, .p (.bool true)), (29, .skip)] fun K hK => ?_
            simp [push_cast, c1, hr, Row.row]
            repeat (refine And.intro (by clear hK; intros; first | omega | (simp_all; done) | (simp_all <;> omega)) ?_)
            refine hK _ _ (by kernel_rfl) ?_; clear hK K; refine Nav.imp ?_
            refine awp_cond (b := true) (by simp [push_cast]) (fun hb => ?_) (fun hb => ?_) <;> (refine Nav.imp ?_)
            · refine awp_region cx [] fun K hK => ?_
              simp [push_cast]
              repeat (refine And.intro (by clear hK; intros; first | omega | (simp_all; done) | (simp_all <;> omega)) ?_)
              refine hK _ ?_; clear hK K; refine Nav.imp ?_
              simp [push_cast]
              exact hno (hnil rfl)
            · simp at hb
          · have e2 : ((k : Int) - 1).toNat = k - 1 := by omega
            have hk1 : (0 : Int) < k := by omega
            have hk2 : (0 : Int) ≤ k - 1 := by omega
            have hk3 : 0 < k := by omega
            by_cases h2 : y ≤ py
            · refine awp_region_draw cx mixed [(2, .p (.bool true)), (29, .skip)] fun K hK => ?_
              simp [push_cast, c1, hp, e1, e2, hk1, hk2, hk3, h2, Row.row]
              repeat (refine And.intro (by clear hK; intros; first | omega | (simp_all; done) | (simp_all <;> omega)) ?_)
              refine hK _ _ (by kernel_rfl) ?_; clear hK K; refine Nav.imp ?_
              refine awp_cond (b := true) (by simp [push_cast]) (fun hb => ?_) (fun hb => ?_) <;> (refine Nav.imp ?_)
              · refine awp_region cx [] fun K hK => ?_
                simp [push_cast]
                repeat (refine And.intro (by clear hK; intros; first | omega | (simp_all; done) | (simp_all <;> omega)) ?_)
                refine hK _ ?_; clear hK K; refine Nav.imp ?_
                simp [push_cast]
                exact hno (hnil rfl)
              · simp at hb
            · refine awp_region_draw cx mixed [(2, .p (.bool true)), (29, .skip)] fun K hK => ?_
              simp [push_cast, c1, hp, e1, e2, hk1, hk2, hk3, h2, Row.row]
              repeat (refine And.intro (by clear hK; intros; first | omega | (simp_all; done) | (simp_all <;> omega)) ?_)
              refine hK _ _ (by kernel_rfl) ?_; clear hK K; refine Nav.imp ?_
              refine awp_cond (b := true) (by simp [push_cast]) (fun hb => ?_) (fun hb => ?_) <;> (refine Nav.imp ?_)
              · refine awp_region cx [] fun K hK => ?_
                simp [push_cast]
                repeat (refine And.intro (by clear hK; intros; first | omega | (simp_all; done) | (simp_all <;> omega)) ?_)
                refine hK _ ?_; clear hK K; refine Nav.imp ?_
                simp [push_cast]
                exact hno (hnil rfl)
              · simp at hb
        | cons x0 xr =>
          have hne : ru ≠ [] := by rw [hru]; simp
          rw [← hru]
          have hnb : ((ru.length : Int) == 0) = false := by simp [hne]
          obtain ⟨f, hf⟩ : ∃ f, ru[0]? = some f := getq (by rw [hru]; simp)
          obtain ⟨z, hz⟩ : ∃ f, ru[ru.length - 1]? = some f := getq (by rw [hru]; simp)
          have hcons' := hcons f z hf hz
          have hzb : rv = true → fitsB z = true := fun h => (rvalid_at (by rw [hrvd, h]) hz).2
          have hrp : 1 ≤ ru.length := by rw [hru]; simp
          clear hru hcons
          cases rv with
          | false =>
            by_cases hk0 : k = 0
            · subst hk0
              refine awp_region_draw cx mixed [(2, .p (.bool true)), (29, .p (.bool false))] fun K hK => ?_
              simp [push_cast, c1, c2, hr, hnb, Row.row]
              repeat (refine And.intro (by clear hK; intros; first | omega | (simp_all; done) | (simp_all <;> omega)) ?_)
              refine hK _ _ (by kernel_rfl) ?_; clear hK K; refine Nav.imp ?_
              refine awp_cond (b := true) (by simp [push_cast]) (fun hb => ?_) (fun hb => ?_) <;> (refine Nav.imp ?_)
              · refine awp_region cx [] fun K hK => ?_
                simp [push_cast]
                repeat (refine And.intro (by clear hK; intros; first | omega | (simp_all; done) | (simp_all <;> omega)) ?_)
                refine hK _ ?_; clear hK K; refine Nav.imp ?_
                simp [push_cast]
                exact hno (hrv rfl)
              · simp at hb
            · have e2 : ((k : Int) - 1).toNat = k - 1 := by omega
              have hk1 : (0 : Int) < k := by omega
              have hk2 : (0 : Int) ≤ k - 1 := by omega
              have hk3 : 0 < k := by omega
              by_cases h2 : y ≤ py
              · refine awp_region_draw cx mixed [(2, .p (.bool true)), (29, .skip)] fun K hK => ?_
                simp [push_cast, c1, hp, e1, e2, hk1, hk2, hk3, h2, Row.row]
                repeat (refine And.intro (by clear hK; intros; first | omega | (simp_all; done) | (simp_all <;> omega)) ?_)
                refine hK _ _ (by kernel_rfl) ?_; clear hK K; refine Nav.imp ?_
                refine awp_cond (b := true) (by simp [push_cast]) (fun hb => ?_) (fun hb => ?_) <;> (refine Nav.imp ?_)
                · refine awp_region cx [] fun K hK => ?_
                  simp [push_cast]
                  repeat (refine And.intro (by clear hK; intros; first | omega | (simp_all; done) | (simp_all <;> omega)) ?_)
                  refine hK _ ?_; clear hK K; refine Nav.imp ?_
                  simp [push_cast]
                  exact hno (hrv rfl)
                · simp at hb
              · refine awp_region_draw cx mixed [(2, .p (.bool true)), (29, .p (.bool false))] fun K hK => ?_
                simp [push_cast, c1, c2, hp, e1, e2, hk1, hk2, hk3, h2, hnb, Row.row]
                repeat (refine And.intro (by clear hK; intros; first | omega | (simp_all; done) | (simp_all <;> omega)) ?_)
                refine hK _ _ (by kernel_rfl) ?_; clear hK K; refine Nav.imp ?_
                refine awp_cond (b := true) (by simp [push_cast]) (fun hb => ?_) (fun hb => ?_) <;> (refine Nav.imp ?_)
                · refine awp_region cx [] fun K hK => ?_
                  simp [push_cast]
                  repeat (refine And.intro (by clear hK; intros; first | omega | (simp_all; done) | (simp_all <;> omega)) ?_)
                  refine hK _ ?_; clear hK K; refine Nav.imp ?_
                  simp [push_cast]
                  exact hno (hrv rfl)
                · simp at hb
          | true =>
            by_cases hq : k ≠ 0 ∧ y ≤ py
            · obtain ⟨hk0, h2⟩ := hq
              have e2 : ((k : Int) - 1).toNat = k - 1 := by omega
              have hk1 : (0 : Int) < k := by omega
              have hk2 : (0 : Int) ≤ k - 1 := by omega
              have hk3 : 0 < k := by omega
              refine awp_region_draw cx mixed [(2, .p (.bool true)), (29, .skip)] fun K hK => ?_
              simp [push_cast, c1, hp, e1, e2, hk1, hk2, hk3, h2, Row.row]
              repeat (refine And.intro (by clear hK; intros; first | omega | (simp_all; done) | (simp_all <;> omega)) ?_)
              refine hK _ _ (by kernel_rfl) ?_; clear hK K; refine Nav.imp ?_
              refine awp_cond (b := true) (by simp [push_cast]) (fun hb => ?_) (fun hb => ?_) <;> (refine Nav.imp ?_)
              · refine awp_region cx [] fun K hK => ?_
                simp [push_cast]
                repeat (refine And.intro (by clear hK; intros; first | omega | (simp_all; done) | (simp_all <;> omega)) ?_)
                refine hK _ ?_; clear hK K; refine Nav.imp ?_
                simp [push_cast]
                exact hno (hpy hk0 h2)
              · simp at hb
            · have hat : rowAt R k = (okB f.a && okB (z.b - 1)) := by
                rw [hcons']
                by_cases h : k = 0
                · simp [h]
                · have : py < y := by
                    apply Int.not_le.1
                    exact fun h2 => hq ⟨h, h2⟩
                  simp [h, this]
              apply cut_
              · intro key
                by_cases hk0 : k ≠ 0
                · have e2 : ((k : Int) - 1).toNat = k - 1 := by omega
                  have hk1 : (0 : Int) < k := by omega
                  have hk2 : (0 : Int) ≤ k - 1 := by omega
                  have hk3 : 0 < k := by omega
                  have h2 : ¬ y ≤ py := fun h => hq ⟨hk0, h⟩
                  refine awp_region_draw cx mixed [(2, .p (.bool true)), (29, .p (.bool true))] fun K hK => ?_
                  simp [push_cast, c1, c2, hp, e1, e2, hk1, hk2, hk3, h2, hnb, Row.row]
                  repeat (refine And.intro (by clear hK; intros; first | omega | (simp_all; done) | (simp_all <;> omega)) ?_)
                  refine hK _ _ (by kernel_rfl) ?_; clear hK K; refine Nav.imp ?_
                  refine awp_cond (b := false) (by simp [push_cast]) (fun hb => ?_) (fun hb => ?_) <;> (refine Nav.imp ?_)
                  · simp at hb
                  · refine awp_weak (s' := ⟨67, [(1, .ptr 0 0 0), (4, .ptr 1 0 0), (6, .d (encRows R)), (7, .d (.int .i64 R.length)), (8, .d (.int .i64 k))], [(0, some ⟨24, 1, [(regRow R).map .d]⟩), (1, some ⟨42, 2, [(Row.row ⟨y, ru⟩).map .d]⟩)], 2⟩) ?_ key.h
                    refine weak_of [(0, some 0), (1, some 5)] rfl (by simp [upT, up, upL, push_cast, Row.row]) (by simp [upH, upR, upL, up, push_cast, Row.row]) (by simp [namesOk, push_cast]) (by simp [olds])
                · have hk0 := Classical.not_not.1 hk0
                  subst hk0
                  refine awp_region_draw cx mixed [(2, .p (.bool true)), (29, .p (.bool true))] fun K hK => ?_
                  simp [push_cast, c1, c2, hr, hnb, Row.row]
                  repeat (refine And.intro (by clear hK; intros; first | omega | (simp_all; done) | (simp_all <;> omega)) ?_)
                  refine hK _ _ (by kernel_rfl) ?_; clear hK K; refine Nav.imp ?_
                  refine awp_cond (b := false) (by simp [push_cast]) (fun hb => ?_) (fun hb => ?_) <;> (refine Nav.imp ?_)
                  · simp at hb
                  · refine awp_weak (s' := ⟨67, [(1, .ptr 0 0 0), (4, .ptr 1 0 0), (6, .d (encRows R)), (7, .d (.int .i64 R.length)), (8, .d (.int .i64 (0 : Nat)))], [(0, some ⟨24, 1, [(regRow R).map .d]⟩), (1, some ⟨42, 2, [(Row.row ⟨y, ru⟩).map .d]⟩)], 2⟩) ?_ key.h
                    refine weak_of [(0, some 0), (1, some 5)] rfl (by simp [upT, up, upL, push_cast, Row.row]) (by simp [upH, upR, upL, up, push_cast, Row.row]) (by simp [namesOk, push_cast]) (by simp [olds])
              · refine Nav.imp ?_
                have d1 := ok_ok f.a
                have d2 := ok_ok (z.b - 1)
                have hzf := fitsB_bd (hzb rfl)
                have e3 := wrap_i64 (n := (ru.length : Int) - 1) (by omega) (by omega)
                have e4 : ((ru.length : Int) - 1).toNat = ru.length - 1 := by omega
                have e5 : (0 : Int) ≤ (ru.length : Int) - 1 := by omega
                have e6 := wrap_i64 (n := z.b - 1) (by omega) (by omega)
                obtain ⟨fa, fb⟩ := f
                obtain ⟨za, zb⟩ := z
                simp only at d1 d2 hat e6
                generalize okB fa = p1 at *
                generalize okB (zb - 1) = p2 at *
                cases p1 with
                | false =>
                  refine awp_region cx [(5, .p (.bool false)), (18, .skip)] fun K hK => ?_
                  simp [push_cast, hf, hz, Row.row, Run.row, d1, e3, e4, e5, e6]
                  repeat (refine And.intro (by clear hK; intros; first | omega | (simp_all; done) | (simp_all <;> omega)) ?_)
                  refine hK _ ?_; clear hK K; refine Nav.imp ?_
                  refine awp_cond (b := true) (by simp [push_cast]) (fun hb => ?_) (fun hb => ?_) <;> (refine Nav.imp ?_)
                  · refine awp_region cx [] fun K hK => ?_
                    simp [push_cast]
                    repeat (refine And.intro (by clear hK; intros; first | omega | (simp_all; done) | (simp_all <;> omega)) ?_)
                    refine hK _ ?_; clear hK K; refine Nav.imp ?_
                    simp [push_cast]
                    exact hno (by rw [hat]; rfl)
                  · simp at hb
                | true =>
                  refine awp_region cx [(5, .p (.bool true)), (18, .p (.bool p2))] fun K hK => ?_
                  simp [push_cast, hf, hz, Row.row, Run.row, d1, d2, e3, e4, e5, e6]
                  repeat (refine And.intro (by clear hK; intros; first | omega | (simp_all; done) | (simp_all <;> omega)) ?_)
                  refine hK _ ?_; clear hK K; refine Nav.imp ?_
                  refine awp_cond (b := !p2) (by simp [push_cast]) (fun hb => ?_) (fun hb => ?_) <;> (refine Nav.imp ?_)
                  · simp at hb
                    refine awp_region cx [] fun K hK => ?_
                    simp [push_cast]
                    repeat (refine And.intro (by clear hK; intros; first | omega | (simp_all; done) | (simp_all <;> omega)) ?_)
                    refine hK _ ?_; clear hK K; refine Nav.imp ?_
                    simp [push_cast]
                    exact hno (by rw [hat, hb]; rfl)
                  · simp at hb
                    refine awp_region cx [] fun K hK => ?_
                    simp [push_cast, e0]
                    repeat (refine And.intro (by clear hK; intros; first | omega | (simp_all; done) | (simp_all <;> omega)) ?_)
                    refine hK _ ?_; clear hK K; refine Nav.imp ?_
                    refine ⟨k + 1, ⟨hlt, by rw [all_range_succ, hall, hat, hb]; rfl⟩, by omega, ?_⟩
                    refine weak_of [(0, some 0)] rfl (by simp [upT, up, upL, push_cast]) (by simp [upH, upR, upL, up, push_cast]) (by simp [namesOk, push_cast]) (by simp [olds])
    · have hge : k = R.length := by simp at hb; omega
      subst hge
      refine awp_region cx [] fun K hK => ?_
      simp [push_cast]
      repeat (refine And.intro (by clear hK; intros; first | omega | (simp_all; done) | (simp_all <;> omega)) ?_)
      refine hK _ ?_; clear hK K; refine Nav.imp ?_
      simp [push_cast, validR, hall]
theorem validR_ok (R : List Row) (hR : smallR R) : PC Try.prog 21 [.agg (regRow R)] (.p (.bool (validR R))) := validR_big R (big_of hR)
theorem valid_ok (R : List Row) (hR : smallR R) : PC Try.prog 41 [.agg (regRow R)] (.p (.bool (validR R))) := valid_big R (big_of hR)
end Go.Proofs.Ytagakfaiimaifaa

set_option linter.unusedVariables false
set_option linter.unusedSimpArgs false
set_option maxRecDepth 100000
namespace Go.Proofs.Ytagakfaiimaifaa
open Go.Abs

/-! Tracks: equality; the tracks of package thin. -/



end Go.Proofs.Ytagakfaiimaifaa

set_option linter.unusedVariables false
set_option linter.unusedSimpArgs false
set_option maxRecDepth 100000
namespace Go.Proofs.Ytagakfaiimaifaa
open Go.Abs

/-! The cells of a region. -/
def runCells (y : Int) (r : Run) : List Cell := (List.range (r.b - r.a).toNat).map fun k : Nat => ⟨r.a + k, y⟩
def rowCells (w : Row) : List Cell := w.runs.flatMap (runCells w.y)
def regCells (R : List Row) : List Cell := R.flatMap rowCells
def cellsOf (R : List Row) : List Cell := if validR R then regCells R else []

theorem flat_take {α β : Type} (f : α → List β) {l : List α} {i : Nat} {x : α} (h : l[i]? = some x) : (l.take (i + 1)).flatMap f = (l.take i).flatMap f ++ f x := by
  rw [take_get h]; simp
theorem flat_split {α β : Type} (f : α → List β) {l : List α} {i : Nat} {x : α} (h : l[i]? = some x) : l.flatMap f = (l.take i).flatMap f ++ f x ++ (l.drop (i + 1)).flatMap f := by
  conv => lhs; rw [← List.take_append_drop (i + 1) l, List.flatMap_append, flat_take f h]
theorem runCells_take (y : Int) (r : Run) {j : Nat} (hj : j < (r.b - r.a).toNat) : (runCells y r).take (j + 1) = (runCells y r).take j ++ [⟨r.a + j, y⟩] :=
  take_get (by simp [runCells, hj])
theorem runCells_len (y : Int) (r : Run) : (runCells y r).length = (r.b - r.a).toNat := by simp [runCells]

def rowsTo (R : List Row) (i : Nat) : List Cell := (R.take i).flatMap rowCells
def runsTo (w : Row) (k : Nat) : List Cell := (w.runs.take k).flatMap (runCells w.y)
theorem rowsTo_zero (R : List Row) : rowsTo R 0 = [] := by simp [rowsTo]
theorem runsTo_zero (w : Row) : runsTo w 0 = [] := by simp [runsTo]
theorem rowsTo_all (R : List Row) : rowsTo R R.length = regCells R := by simp [rowsTo, regCells]
theorem runsTo_all (w : Row) : runsTo w w.runs.length = rowCells w := by simp [runsTo, rowCells]
theorem rowsTo_next {R : List Row} {i : Nat} {w : Row} (h : R[i]? = some w) : rowsTo R (i + 1) = rowsTo R i ++ rowCells w := flat_take rowCells h
theorem runsTo_next {w : Row} {k : Nat} {r : Run} (h : w.runs[k]? = some r) : runsTo w (k + 1) = runsTo w k ++ runCells w.y r := flat_take (runCells w.y) h
theorem cells_big {R : List Row} {i k : Nat} {w : Row} {r : Run} (hw : R[i]? = some w) (hr : w.runs[k]? = some r) : (rowsTo R i).length + (runsTo w k).length + (r.b - r.a).toNat ≤ (regCells R).length := by
  have h1 := flat_split rowCells hw
  have h2 := flat_split (runCells w.y) hr
  unfold regCells
  rw [h1, show rowCells w = _ from h2]
  simp only [List.length_append, rowsTo, runsTo, runCells_len]
  omega

theorem fine_at {l : List Run} (h : fine l = true) {k : Nat} {r : Run} (hr : l[k]? = some r) : -4096 ≤ r.a ∧ r.a < r.b ∧ r.b ≤ 4096 := by
  simp only [fine, Bool.and_eq_true] at h
  have hk := (List.getElem?_eq_some_iff.1 hr).1
  obtain ⟨p, hp⟩ : ∃ p, l[k - 1]? = some p := getq (by omega)
  have := all_range_at h.1 hk
  rw [fnAt_some hr hp] at this
  simp at this
  omega
theorem fine_ends {l : List Run} (h : fine l = true) : ∃ f z, l[0]? = some f ∧ l[l.length - 1]? = some z ∧ (-4096 ≤ f.a ∧ f.a < f.b ∧ f.b ≤ 4096) ∧ (-4096 ≤ z.a ∧ z.a < z.b ∧ z.b ≤ 4096) ∧ 0 < l.length := by
  have hp : 0 < l.length := by
    cases l with
    | nil => simp [fine] at h
    | cons a l => simp
  obtain ⟨f, hf⟩ : ∃ f, l[0]? = some f := getq hp
  obtain ⟨z, hz⟩ : ∃ f, l[l.length - 1]? = some f := getq (by omega)
  have h1 := fine_at h hf
  have h2 := fine_at h hz
  exact ⟨f, z, hf, hz, by omega, by omega, hp⟩

theorem fine_gap {l : List Run} (h : fine l = true) {k : Nat} {r p : Run} (hr : l[k + 1]? = some r) (hp : l[k]? = some p) : p.b < r.a := by
  simp only [fine, Bool.and_eq_true] at h
  have hk := (List.getElem?_eq_some_iff.1 hr).1
  have := all_range_at h.1 hk
  rw [fnAt_some hr (by simpa using hp)] at this
  simp at this
  omega
theorem validR_at {R : List Row} (h : validR R = true) {i : Nat} {w : Row} (hw : R[i]? = some w) : (-4096 ≤ w.y ∧ w.y < 4096) ∧ fine w.runs = true := by
  have hk := (List.getElem?_eq_some_iff.1 hw).1
  obtain ⟨p, hp⟩ : ∃ p, R[i - 1]? = some p := getq (by omega)
  have := all_range_at h hk
  rw [rowAt_some hw hp] at this
  simp [okB] at this
  exact ⟨this.1.1, this.2⟩
theorem validR_gap {R : List Row} (h : validR R = true) {i : Nat} {w p : Row} (hw : R[i + 1]? = some w) (hp : R[i]? = some p) : p.y < w.y := by
  have hk := (List.getElem?_eq_some_iff.1 hw).1
  have := all_range_at h hk
  rw [rowAt_some hw (by simpa using hp)] at this
  simp at this
  omega

set_option maxHeartbeats 4000000 in
theorem rcells_ok (R : List Row) (hR : smallR R) (hn : validR R = true → (regCells R).length ≤ 1000000) : PC Try.prog 35 [.agg (regRow R)] (.p (encCells (cellsOf R))) := by
  have c1 := validR_ok R hR
  have hl := hR.1
  have hC : cellsOf R = if validR R then regCells R else [] := rfl
  generalize hv : validR R = v at *
  refine pc_of_awp cx (fn := Try.f35) (c := _) Try.func35 rfl rfl (Nat.le_of_ble_eq_true rfl) ?_
  rw [Try.ntmps35]; refine Nav.imp ?_
  refine awp_region cx [] fun K hK => ?_
  simp [push_cast]
  repeat (refine And.intro (by clear hK; intros; first | omega | (simp_all; done) | (simp_all <;> omega)) ?_)
  refine hK _ ?_; clear hK K; refine Nav.imp ?_
  refine awp_region cx [] fun K hK => ?_
  simp [push_cast]
  repeat (refine And.intro (by clear hK; intros; first | omega | (simp_all; done) | (simp_all <;> omega)) ?_)
  refine hK _ ?_; clear hK K; refine Nav.imp ?_
  refine awp_region cx [(1, .p (.bool v))] fun K hK => ?_
  simp [push_cast, c1]
  repeat (refine And.intro (by clear hK; intros; first | omega | (simp_all; done) | (simp_all <;> omega)) ?_)
  refine hK _ ?_; clear hK K; refine Nav.imp ?_
  refine awp_cond (b := !v) (by simp [push_cast]) (fun hb => ?_) (fun hb => ?_) <;> (refine Nav.imp ?_)
  · simp at hb
    rw [hC, hb]
    refine awp_region cx [] fun K hK => ?_
    simp [push_cast]
    repeat (refine And.intro (by clear hK; intros; first | omega | (simp_all; done) | (simp_all <;> omega)) ?_)
    refine hK _ ?_; clear hK K; refine Nav.imp ?_
    simp [push_cast]
  · simp at hb
    rw [hb] at hC hv
    have hn := hn hb
    rw [hC, if_pos rfl]
    clear hC
    refine awp_region cx [] fun K hK => ?_
    simp [push_cast]
    repeat (refine And.intro (by clear hK; intros; first | omega | (simp_all; done) | (simp_all <;> omega)) ?_)
    refine hK _ ?_; clear hK K; refine Nav.imp ?_
    refine awp_loop (β := Nat) (fun i => ⟨65, [(1, .ptr 0 0 0), (3, .hs 1 0 (rowsTo R i).length), (4, .d (.int .i64 i))], [(0, some ⟨24, 1, [(regRow R).map .d]⟩), (1, some ⟨33, 2, dr ((rowsTo R i).map Cell.row)⟩)], 2⟩) (fun i => i ≤ R.length) (fun i => R.length - i) 0 ?_ (Nat.zero_le _) ?_
    · refine weak_of [(0, some 0), (1, none)] rfl (by simp [upT, up, upL, push_cast, rowsTo_zero]) (by simp [upH, upR, upL, up, push_cast, rowsTo_zero]) (by simp [namesOk, push_cast]) (by simp [olds])
    · intro i hi
      refine Nav.imp ?_
      refine awp_region cx [] fun K hK => ?_
      simp [push_cast]
      repeat (refine And.intro (by clear hK; intros; first | omega | (simp_all; done) | (simp_all <;> omega)) ?_)
      refine hK _ ?_; clear hK K; refine Nav.imp ?_
      refine awp_cond (b := decide ((i : Int) < R.length)) (by simp [push_cast]) (fun hb => ?_) (fun hb => ?_) <;> (refine Nav.imp ?_)
      · have hlt : i < R.length := by simpa using hb
        obtain ⟨w, hw⟩ := getq hlt
        have e0 := wrap_i64 (n := (i : Int) + 1) (by omega) (by omega)
        have hwl := hR.2 w (List.mem_of_getElem? hw)
        have hft := rowsTo_next hw
        have hfine := (validR_at hv hw).2
        have hsum : ∀ k r, w.runs[k]? = some r → (rowsTo R i).length + (runsTo w k).length + (r.b - r.a).toNat ≤ 1000000 := fun k r hr => Nat.le_trans (cells_big hw hr) hn
        generalize rowsTo R i = X at *
        refine awp_region cx [] fun K hK => ?_
        simp [push_cast]
        repeat (refine And.intro (by clear hK; intros; first | omega | (simp_all; done) | (simp_all <;> omega)) ?_)
        refine hK _ ?_; clear hK K; refine Nav.imp ?_
        refine awp_loop (β := Nat) (fun k => ⟨65, [(1, .ptr 0 0 0), (3, .hs 1 0 (X ++ runsTo w k).length), (4, .d (.int .i64 i)), (5, .d (.int .i64 k))], [(0, some ⟨24, 1, [(regRow R).map .d]⟩), (1, some ⟨33, 2, dr ((X ++ runsTo w k).map Cell.row)⟩)], 2⟩) (fun k => k ≤ w.runs.length) (fun k => w.runs.length - k) 0 ?_ (Nat.zero_le _) ?_
        · refine weak_of [(0, some 0), (1, some 1)] rfl (by simp [upT, up, upL, push_cast, runsTo_zero]) (by simp [upH, upR, upL, up, push_cast, runsTo_zero]) (by simp [namesOk, push_cast]) (by simp [olds])
        · intro k hk
          refine Nav.imp ?_
          refine awp_region cx [] fun K hK => ?_
          simp [push_cast, hw, Row.row]
          repeat (refine And.intro (by clear hK; intros; first | omega | (simp_all; done) | (simp_all <;> omega)) ?_)
          refine hK _ ?_; clear hK K; refine Nav.imp ?_
          refine awp_cond (b := decide ((k : Int) < w.runs.length)) (by simp [push_cast]) (fun hb => ?_) (fun hb => ?_) <;> (refine Nav.imp ?_)
          · have hlk : k < w.runs.length := by simpa using hb
            obtain ⟨r, hr⟩ := getq hlk
            have e1 := wrap_i64 (n := (k : Int) + 1) (by omega) (by omega)
            have hft2 := runsTo_next hr
            have hbig := hsum k r hr
            have hrb := fine_at hfine hr
            have hrl := runCells_len w.y r
            generalize runsTo w k = Y at *
            obtain ⟨ra, rb⟩ := r
            simp only at hbig hrl hrb
            refine awp_region cx [] fun K hK => ?_
            simp [push_cast, hw, hr, Row.row, Run.row]
            repeat (refine And.intro (by clear hK; intros; first | omega | (simp_all; done) | (simp_all <;> omega)) ?_)
            refine hK _ ?_; clear hK K; refine Nav.imp ?_
            refine awp_loop (β := Nat × List Cell) (fun b => ⟨65, [(1, .ptr 0 0 0), (3, .hs 1 0 b.2.length), (4, .d (.int .i64 i)), (5, .d (.int .i64 k)), (6, .d (.int .i64 (ra + b.1)))], [(0, some ⟨24, 1, [(regRow R).map .d]⟩), (1, some ⟨33, 2, dr (b.2.map Cell.row)⟩)], 2⟩) (fun b => b.1 ≤ (rb - ra).toNat ∧ b.2 = X ++ (Y ++ (runCells w.y ⟨ra, rb⟩).take b.1)) (fun b => (rb - ra).toNat - b.1) (0, X ++ Y) ?_ ⟨Nat.zero_le _, by simp⟩ ?_
            · refine weak_of [(0, some 0), (1, some 1)] rfl (by simp [upT, up, upL, push_cast]) (by simp [upH, upR, upL, up, push_cast]) (by simp [namesOk, push_cast]) (by simp [olds])
            · rintro ⟨j, W⟩ ⟨hj, hW⟩
              simp only at hj hW
              refine Nav.imp ?_
              by_cases hjl : j < (rb - ra).toNat
              · have hcd : ra + (j : Int) < rb := by omega
                have e2 := wrap_i64 (n := ra + (j : Int) + 1) (by omega) (by omega)
                have htk := runCells_take w.y ⟨ra, rb⟩ hjl
                have hZl : ((runCells w.y ⟨ra, rb⟩).take j).length = j := by rw [List.length_take, hrl]; omega
                have hWl : W.length = X.length + (Y.length + j) := by rw [hW, List.length_append, List.length_append, hZl]
                have hap : (W.length + 1) * 16 ≤ 140737488355328 := by omega
                refine awp_region cx [] fun K hK => ?_
                simp [push_cast, hw, hr, Row.row, Run.row]
                repeat (refine And.intro (by clear hK; intros; first | omega | (simp_all; done) | (simp_all <;> omega)) ?_)
                refine hK _ ?_; clear hK K; refine Nav.imp ?_
                refine awp_cond (b := true) (by simp [push_cast, hcd]) (fun hb => ?_) (fun hb => ?_) <;> (refine Nav.imp ?_)
                · refine awp_region cx [] fun K hK => ?_
                  simp [push_cast, hw, hr, Row.row, Run.row, hap]
                  repeat (refine And.intro (by clear hK; intros; first | omega | (simp_all; done) | (simp_all <;> omega)) ?_)
                  refine hK _ ?_; clear hK K; refine Nav.imp ?_
                  refine awp_region cx [] fun K hK => ?_
                  simp [push_cast, e2]
                  repeat (refine And.intro (by clear hK; intros; first | omega | (simp_all; done) | (simp_all <;> omega)) ?_)
                  refine hK _ ?_; clear hK K; refine Nav.imp ?_
                  refine ⟨(j + 1, W ++ [⟨ra + j, w.y⟩]), ⟨hjl, by rw [hW, htk]; simp⟩, by simp only; omega, ?_⟩
                  refine weak_of [(0, some 0), (1, some 24)] rfl (by simp [upT, up, upL, push_cast, Int.add_assoc]) (by simp [upH, upR, upL, up, push_cast, Int.add_assoc]) (by simp [namesOk, push_cast]) (by simp [olds])
                · simp at hb
              · have hje : j = (rb - ra).toNat := by omega
                have hcd : ¬ ra + (j : Int) < rb := by omega
                have hfull : (runCells w.y ⟨ra, rb⟩).take j = runCells w.y ⟨ra, rb⟩ := List.take_of_length_le (by rw [hrl]; omega)
                rw [hfull, ← hft2] at hW
                refine awp_region cx [] fun K hK => ?_
                simp [push_cast, hw, hr, Row.row, Run.row]
                repeat (refine And.intro (by clear hK; intros; first | omega | (simp_all; done) | (simp_all <;> omega)) ?_)
                refine hK _ ?_; clear hK K; refine Nav.imp ?_
                refine awp_cond (b := false) (by simp [push_cast, hcd]) (fun hb => ?_) (fun hb => ?_) <;> (refine Nav.imp ?_)
                · simp at hb
                · refine awp_region cx [] fun K hK => ?_
                  simp [push_cast, e1]
                  repeat (refine And.intro (by clear hK; intros; first | omega | (simp_all; done) | (simp_all <;> omega)) ?_)
                  refine hK _ ?_; clear hK K; refine Nav.imp ?_
                  refine ⟨k + 1, hlk, by omega, ?_⟩
                  rw [← hW]
                  refine weak_of [(0, some 0), (1, some 1)] rfl (by simp [upT, up, upL, push_cast]) (by simp [upH, upR, upL, up, push_cast]) (by simp [namesOk, push_cast]) (by simp [olds])
          · have hkn : k = w.runs.length := by simp at hb; omega
            subst hkn
            rw [runsTo_all]
            refine awp_region cx [] fun K hK => ?_
            simp [push_cast, e0]
            repeat (refine And.intro (by clear hK; intros; first | omega | (simp_all; done) | (simp_all <;> omega)) ?_)
            refine hK _ ?_; clear hK K; refine Nav.imp ?_
            refine ⟨i + 1, hlt, by omega, ?_⟩
            rw [hft]
            refine weak_of [(0, some 0), (1, some 1)] rfl (by simp [upT, up, upL, push_cast]) (by simp [upH, upR, upL, up, push_cast]) (by simp [namesOk, push_cast]) (by simp [olds])
      · have hin : i = R.length := by simp at hb; omega
        subst hin
        rw [rowsTo_all]
        generalize regCells R = X at *
        refine awp_region cx [] fun K hK => ?_
        simp [push_cast]
        repeat (refine And.intro (by clear hK; intros; first | omega | (simp_all; done) | (simp_all <;> omega)) ?_)
        refine hK _ ?_; clear hK K; refine Nav.imp ?_
        have ht : List.take X.length (X.map Cell.row) = X.map Cell.row := List.take_of_length_le (by simp)
        simp [push_cast, ht]
end Go.Proofs.Ytagakfaiimaifaa

set_option linter.unusedVariables false
set_option linter.unusedSimpArgs false
set_option maxRecDepth 100000
namespace Go.Proofs.Ytagakfaiimaifaa
open Go.Abs

/-! The horizontal tracks of a region, and the other cells. -/
def trkOf (y : Int) (r : Run) : List Track := if r.b = r.a + 1 then [] else [⟨2, false, runCells y r⟩]
def sngOf (y : Int) (r : Run) : List Cell := if r.b = r.a + 1 then [⟨r.a, y⟩] else []
def rowTrk (w : Row) : List Track := w.runs.flatMap (trkOf w.y)
def rowSng (w : Row) : List Cell := w.runs.flatMap (sngOf w.y)
def regTrk (R : List Row) : List Track := R.flatMap rowTrk
def regSng (R : List Row) : List Cell := R.flatMap rowSng

theorem row_runs {R : List Row} (h : validR R = true) {w : Row} (hw : w ∈ R) {r : Run} (hr : r ∈ w.runs) : -4096 ≤ r.a ∧ r.a < r.b ∧ r.b ≤ 4096 := by
  obtain ⟨i, hi⟩ := List.mem_iff_getElem?.1 hw
  obtain ⟨k, hk⟩ := List.mem_iff_getElem?.1 hr
  exact fine_at (validR_at h hi).2 hk
end Go.Proofs.Ytagakfaiimaifaa

set_option linter.unusedVariables false
set_option linter.unusedSimpArgs false
set_option maxRecDepth 100000
namespace Go.Proofs.Ytagakfaiimaifaa
open Go.Abs

/-! Where the cells of a valid region lie. -/
theorem mem_runCells {y : Int} {r : Run} {c : Cell} : c ∈ runCells y r ↔ c.y = y ∧ r.a ≤ c.x ∧ c.x < r.b := by
  simp only [runCells, List.mem_map, List.mem_range]
  constructor
  · rintro ⟨k, hk, rfl⟩
    exact ⟨rfl, by simp only; omega, by simp only; omega⟩
  · rintro ⟨h1, h2, h3⟩
    refine ⟨(c.x - r.a).toNat, by omega, ?_⟩
    cases c
    simp only [Cell.mk.injEq] at *
    exact ⟨by omega, h1.symm⟩
theorem mem_regCells {R : List Row} {c : Cell} : c ∈ regCells R ↔ ∃ w ∈ R, c.y = w.y ∧ ∃ r ∈ w.runs, r.a ≤ c.x ∧ c.x < r.b := by
  simp only [regCells, rowCells, List.mem_flatMap, mem_runCells]
  constructor
  · rintro ⟨w, hw, r, hr, h1, h2, h3⟩
    exact ⟨w, hw, h1, r, hr, h2, h3⟩
  · rintro ⟨w, hw, h1, r, hr, h2, h3⟩
    exact ⟨w, hw, r, hr, h1, h2, h3⟩

theorem rows_lt {R : List Row} (h : validR R = true) : ∀ (j i : Nat) (w p : Row), i < j → R[j]? = some w → R[i]? = some p → p.y < w.y
  | 0, i, w, p, hij, _, _ => by omega
  | j + 1, i, w, p, hij, hw, hp => by
    by_cases e : i = j
    · subst e; exact validR_gap h hw hp
    · have hj := (List.getElem?_eq_some_iff.1 hw).1
      obtain ⟨q, hq⟩ : ∃ q, R[j]? = some q := getq (by omega)
      have h1 := rows_lt h j i q p (by omega) hq hp
      have h2 := validR_gap h hw hq
      omega
theorem rows_eq {R : List Row} (h : validR R = true) {w p : Row} (hw : w ∈ R) (hp : p ∈ R) (he : w.y = p.y) : w = p := by
  obtain ⟨j, hj⟩ := List.mem_iff_getElem?.1 hw
  obtain ⟨i, hi⟩ := List.mem_iff_getElem?.1 hp
  rcases Nat.lt_trichotomy i j with hlt | e | hlt
  · have := rows_lt h j i w p hlt hj hi; omega
  · subst e; rw [hj] at hi; exact Option.some.inj hi
  · have := rows_lt h i j p w hlt hi hj; omega
theorem runs_lt {l : List Run} (h : fine l = true) : ∀ (j i : Nat) (r p : Run), i < j → l[j]? = some r → l[i]? = some p → p.b < r.a
  | 0, i, r, p, hij, _, _ => by omega
  | j + 1, i, r, p, hij, hr, hp => by
    by_cases e : i = j
    · subst e; exact fine_gap h hr hp
    · have hj := (List.getElem?_eq_some_iff.1 hr).1
      obtain ⟨q, hq⟩ : ∃ q, l[j]? = some q := getq (by omega)
      have h1 := runs_lt h j i q p (by omega) hq hp
      have h2 := fine_gap h hr hq
      have h3 := fine_at h hq
      omega
theorem row_fine {R : List Row} (h : validR R = true) {w : Row} (hw : w ∈ R) : (-4096 ≤ w.y ∧ w.y < 4096) ∧ fine w.runs = true := by
  obtain ⟨i, hi⟩ := List.mem_iff_getElem?.1 hw
  exact validR_at h hi
theorem cells_on {R : List Row} (h : validR R = true) {c : Cell} (hc : c ∈ regCells R) : onG c = true := by
  obtain ⟨w, hw, hy, r, hr, h1, h2⟩ := mem_regCells.1 hc
  have h3 := row_fine h hw
  have h4 := row_runs h hw hr
  simp [onG]; omega

/-! Tracks through neighbors, as the reference draws them. -/
def rgt (c : Cell) : Cell := ⟨c.x + 1, c.y⟩
def upc (c : Cell) : Cell := ⟨c.x, c.y + 1⟩
def hN (l : List Cell) : Nat → Cell → List Cell
  | 0, _ => []
  | n + 1, c => if c ∈ l then c :: hN l n (rgt c) else []
def hch (l : List Cell) (c : Cell) : List Cell := hN l (4096 - c.x).toNat c
def vN (l : List Cell) : Nat → Cell → List Cell
  | 0, _ => []
  | n + 1, c => if c ∈ l then c :: vN l n (upc c) else []
def vch (l : List Cell) (c : Cell) : List Cell := vN l (4096 - c.y).toNat c
def hst (l : List Cell) (c : Cell) : Bool := !decide ((⟨c.x - 1, c.y⟩ : Cell) ∈ l)
def vst (l : List Cell) (c : Cell) : Bool := !decide ((⟨c.x, c.y - 1⟩ : Cell) ∈ l)
def trk (l : List Cell) : Track := ⟨2, false, l⟩

def isLong (l : List Cell) : Bool := decide (1 < l.length)
/-- What the reference makes of a cell: a track, or a cell that is left over. -/
def fT (l : List Cell) (c : Cell) : List Track := if hst l c then (if isLong (hch l c) then [trk (hch l c)] else []) else []
def fS (l : List Cell) (c : Cell) : List Cell := if hst l c then (if isLong (hch l c) then [] else [c]) else []

end Go.Proofs.Ytagakfaiimaifaa

set_option linter.unusedVariables false
set_option linter.unusedSimpArgs false
set_option maxRecDepth 100000
namespace Go.Proofs.Ytagakfaiimaifaa
open Go.Abs

/-! The orders of cells. -/
def ltY (a b : Cell) : Prop := a.y < b.y ∨ a.y = b.y ∧ a.x < b.x
def ltX (a b : Cell) : Prop := a.x < b.x ∨ a.x = b.x ∧ a.y < b.y
def leX (a b : Cell) : Bool := decide (a.x < b.x) || (decide (a.x = b.x) && decide (a.y ≤ b.y))
def sortX (l : List Cell) : List Cell := l.mergeSort leX

theorem rows_pw {R : List Row} (h : validR R = true) : R.Pairwise fun a b => a.y < b.y := by
  rw [List.pairwise_iff_getElem]
  intro i j hi hj hij
  exact rows_lt h j i R[j] R[i] hij (List.getElem?_eq_getElem hj) (List.getElem?_eq_getElem hi)
theorem runs_pw {l : List Run} (h : fine l = true) : l.Pairwise fun p r => p.b < r.a := by
  rw [List.pairwise_iff_getElem]
  intro i j hi hj hij
  exact runs_lt h j i l[j] l[i] hij (List.getElem?_eq_getElem hj) (List.getElem?_eq_getElem hi)
theorem cells_pw {R : List Row} (h : validR R = true) : (regCells R).Pairwise ltY := by
  unfold regCells
  rw [List.pairwise_flatMap]
  refine ⟨fun w hw => ?_, ?_⟩
  · unfold rowCells
    rw [List.pairwise_flatMap]
    refine ⟨fun r hr => ?_, ?_⟩
    · unfold runCells
      rw [List.pairwise_map]
      exact List.Pairwise.imp (fun {a b} hab => .inr ⟨rfl, by simp only; omega⟩) List.pairwise_lt_range
    · refine List.Pairwise.imp_of_mem (fun {p r} hp hr hpr => ?_) (runs_pw (row_fine h hw).2)
      intro a ha b hb
      have h1 := mem_runCells.1 ha
      have h2 := mem_runCells.1 hb
      exact .inr ⟨by omega, by omega⟩
  · refine List.Pairwise.imp_of_mem (fun {w v} hw hv hwv => ?_) (rows_pw h)
    intro a ha b hb
    simp only [rowCells, List.mem_flatMap] at ha hb
    obtain ⟨r, hr, ha⟩ := ha
    obtain ⟨p, hp, hb⟩ := hb
    have h1 := mem_runCells.1 ha
    have h2 := mem_runCells.1 hb
    exact .inl (by omega)

theorem nodup_of_ltY {l : List Cell} (h : l.Pairwise ltY) : l.Nodup :=
  h.imp fun {a b} hab e => by subst e; simp [ltY] at hab
/-! Consecutive cells of a list ordered by columns. -/
/-! What the program makes of its single cells, and what the reference does. -/
def vT (s : List Cell) (c : Cell) : List Track := if vst s c then [trk (vch s c)] else []
def upAll (s : List Cell) : List Track := s.flatMap (vT s)

end Go.Proofs.Ytagakfaiimaifaa

set_option linter.unusedVariables false
set_option linter.unusedSimpArgs false
set_option maxRecDepth 100000
namespace Go.Proofs.Ytagakfaiimaifaa
open Go.Abs

/-! The region of cells: what is built of them, one after the other. -/
def addRun (l : List Run) (x : Int) : List Run := match l.getLast? with
  | none => [⟨x, x + 1⟩]
  | some r => if r.b < x then l ++ [⟨x, x + 1⟩] else l.dropLast ++ [⟨r.a, max r.b (x + 1)⟩]
def addC (R : List Row) (c : Cell) : List Row := match R.getLast? with
  | none => [⟨c.y, [⟨c.x, c.x + 1⟩]⟩]
  | some w => if w.y = c.y then R.dropLast ++ [⟨w.y, addRun w.runs c.x⟩] else R ++ [⟨c.y, [⟨c.x, c.x + 1⟩]⟩]
def build (l : List Cell) : List Row := l.foldl addC []

theorem addRun_nil (x : Int) : addRun [] x = [⟨x, x + 1⟩] := rfl
theorem addRun_end (l : List Run) (r : Run) (x : Int) : addRun (l ++ [r]) x = if r.b < x then l ++ [r] ++ [⟨x, x + 1⟩] else l ++ [⟨r.a, max r.b (x + 1)⟩] := by simp [addRun]
theorem addC_nil (c : Cell) : addC [] c = [⟨c.y, [⟨c.x, c.x + 1⟩]⟩] := rfl
theorem addC_end (R : List Row) (w : Row) (c : Cell) : addC (R ++ [w]) c = if w.y = c.y then R ++ [⟨w.y, addRun w.runs c.x⟩] else R ++ [w] ++ [⟨c.y, [⟨c.x, c.x + 1⟩]⟩] := by simp [addC]
theorem addC_len (R : List Row) (c : Cell) : (addC R c).length ≤ R.length + 1 := by
  rcases List.eq_nil_or_concat R with rfl | ⟨R', w, rfl⟩
  · simp [addC_nil]
  · rw [List.concat_eq_append, addC_end]; split <;> simp
theorem build_take {l : List Cell} {k : Nat} {c : Cell} (h : l[k]? = some c) : build (l.take (k + 1)) = addC (build (l.take k)) c := by
  simp [build, take_get h]

/-- A run, drawn cell by cell. -/
theorem build_run (P : List Row) (L : List Run) (y a : Int) : ∀ (n j : Nat), ((List.range n).map fun k : Nat => (⟨a + (j + 1) + k, y⟩ : Cell)).foldl addC (P ++ [⟨y, L ++ [⟨a, a + j + 1⟩]⟩]) = P ++ [⟨y, L ++ [⟨a, a + j + 1 + n⟩]⟩]
  | 0, j => by simp
  | n + 1, j => by
    rw [List.range_succ_eq_map, List.map_cons, List.foldl_cons, addC_end, addRun_end]
    simp only [if_true, Int.natCast_zero, Int.add_zero]
    have h1 : ¬ a + (j : Int) + 1 < a + ((j : Int) + 1) := by omega
    have h2 : max (a + (j : Int) + 1) (a + ((j : Int) + 1) + 1) = a + ((j + 1 : Nat) : Int) + 1 := by omega
    rw [if_neg h1, h2]
    have := build_run P L y a n (j + 1)
    rw [List.map_map]
    have e : ((fun k : Nat => (⟨a + ((j : Int) + 1) + k, y⟩ : Cell)) ∘ Nat.succ) = fun k : Nat => (⟨a + (((j + 1 : Nat) : Int) + 1) + k, y⟩ : Cell) := by
      funext k; simp; omega
    rw [e, this]
    congr 4
    simp; omega
theorem run_cells {y : Int} {r : Run} (h : r.a < r.b) : ∃ n : Nat, r.b = r.a + 1 + n ∧ runCells y r = ⟨r.a, y⟩ :: (List.range n).map fun k : Nat => (⟨r.a + ((0 : Nat) + 1) + k, y⟩ : Cell) := by
  refine ⟨(r.b - r.a - 1).toNat, by omega, ?_⟩
  unfold runCells
  rw [show (r.b - r.a).toNat = (r.b - r.a - 1).toNat + 1 from by omega, List.range_succ_eq_map, List.map_cons, List.map_map]
  congr 1
  · simp
  · apply List.map_congr_left; intro k _; simp; omega
/-- .. in a row that has begun. -/
theorem build_next (P : List Row) (L : List Run) (y : Int) (r : Run) (h : r.a < r.b) (hL : L ≠ []) (hgap : ∀ p, L.getLast? = some p → p.b < r.a) : (runCells y r).foldl addC (P ++ [⟨y, L⟩]) = P ++ [⟨y, L ++ [r]⟩] := by
  obtain ⟨n, hn, hc⟩ := run_cells (y := y) h
  obtain ⟨L', p, rfl⟩ : ∃ L' p, L = L' ++ [p] := by
    rcases List.eq_nil_or_concat L with e | ⟨L', p, e⟩
    · exact absurd e hL
    · exact ⟨L', p, by rw [e, List.concat_eq_append]⟩
  have := hgap p (by simp)
  rw [hc, List.foldl_cons, addC_end, addRun_end]
  simp only [if_true]
  rw [if_pos this]
  have h2 := build_run P (L' ++ [p]) y r.a n 0
  simp only [Int.natCast_zero, Int.add_zero, Int.zero_add] at h2 ⊢
  rw [h2, ← hn]
theorem build_first (P : List Row) (y : Int) (r : Run) (h : r.a < r.b) (hP : ∀ w, P.getLast? = some w → w.y ≠ y) : (runCells y r).foldl addC P = P ++ [⟨y, [r]⟩] := by
  obtain ⟨n, hn, hc⟩ := run_cells (y := y) h
  rw [hc, List.foldl_cons]
  have h1 : addC P ⟨r.a, y⟩ = P ++ [⟨y, [] ++ [⟨r.a, r.a + (0 : Nat) + 1⟩]⟩] := by
    rcases List.eq_nil_or_concat P with rfl | ⟨P', w, rfl⟩
    · simp [addC_nil]
    · rw [List.concat_eq_append] at hP ⊢
      have := hP w (by simp)
      rw [addC_end, if_neg this]; simp
  have h2 := build_run P [] y r.a n 0
  rw [h1]
  simp only [Int.natCast_zero, Int.add_zero, Int.zero_add, List.nil_append] at h2 ⊢
  rw [h2, ← hn]
theorem build_runs (P : List Row) (y : Int) : ∀ (l L : List Run), L ≠ [] → fine (L ++ l) = true → (l.flatMap (runCells y)).foldl addC (P ++ [⟨y, L⟩]) = P ++ [⟨y, L ++ l⟩]
  | [], L, _, _ => by simp
  | r :: l, L, hL, hf => by
    rw [List.flatMap_cons, List.foldl_append]
    have hr : (L ++ r :: l)[L.length]? = some r := by simp
    have h1 := fine_at hf hr
    rw [build_next P L y r h1.2.1 hL]
    · have := build_runs P y l (L ++ [r]) (by simp) (by simpa using hf)
      rw [this]; simp
    · intro p hp
      rw [List.getLast?_eq_getElem?] at hp
      have hlp : 0 < L.length := List.length_pos_iff.2 hL
      refine fine_gap hf (k := L.length - 1) (by rw [show L.length - 1 + 1 = L.length from by omega]; exact hr) ?_
      rw [List.getElem?_append_left (by omega)]; exact hp
theorem build_row (P : List Row) (w : Row) (hw : fine w.runs = true) (hP : ∀ v, P.getLast? = some v → v.y ≠ w.y) : (rowCells w).foldl addC P = P ++ [w] := by
  obtain ⟨y, l⟩ := w
  cases l with
  | nil => simp [fine] at hw
  | cons r l =>
    have h1 := fine_at hw (k := 0) (r := r) (by simp)
    simp only [rowCells, List.flatMap_cons, List.foldl_append]
    rw [build_first P y r h1.2.1 hP, build_runs P y l [r] (by simp) hw]
    simp
theorem build_rows {R : List Row} (h : validR R = true) : ∀ (n : Nat), n ≤ R.length → ((R.take n).flatMap rowCells).foldl addC [] = R.take n
  | 0, _ => by simp
  | n + 1, hn => by
    obtain ⟨w, hw⟩ : ∃ w, R[n]? = some w := getq (by omega)
    rw [take_get hw, List.flatMap_append, List.foldl_append, build_rows h n (by omega)]
    simp only [List.flatMap_cons, List.flatMap_nil, List.append_nil]
    refine build_row _ w (validR_at h hw).2 fun v hv => ?_
    rw [List.getLast?_eq_getElem?, List.length_take, Nat.min_eq_left (by omega)] at hv
    by_cases e : n = 0
    · subst e; simp at hv
    · rw [List.getElem?_take, if_pos (by omega)] at hv
      have := validR_gap h (i := n - 1) (by rw [show n - 1 + 1 = n from by omega]; exact hw) hv
      omega
/-- The region of the cells of a valid region is that region. -/
theorem build_cells {R : List Row} (h : validR R = true) : build (regCells R) = R := by
  have := build_rows h R.length (Nat.le_refl _)
  rwa [List.take_length] at this

/-! The order of cells by rows. -/
def leY (a b : Cell) : Bool := decide (a.y < b.y) || (decide (a.y = b.y) && decide (a.x ≤ b.x))
def sortY (l : List Cell) : List Cell := l.mergeSort leY
theorem sortY_perm (l : List Cell) : (sortY l).Perm l := List.mergeSort_perm l leY
theorem sortY_le (l : List Cell) : (sortY l).Pairwise fun a b => leY a b = true :=
  List.pairwise_mergeSort (fun a b c h1 h2 => by simp [leY] at *; omega) (fun a b => by simp [leY]; omega) l
theorem leY_anti {a b : Cell} (h1 : leY a b = true) (h2 : leY b a = true) : a = b := by
  cases a; cases b; simp [leY] at *; omega
theorem sortedY_uniq : ∀ {l l' : List Cell}, l.Perm l' → (l.Pairwise fun a b => leY a b = true) → (l'.Pairwise fun a b => leY a b = true) → l = l'
  | [], l', h, _, _ => by have := h.length_eq; simp at this; exact (List.length_eq_zero_iff.1 this.symm).symm
  | a :: l, [], h, _, _ => by have := h.length_eq; simp at this
  | a :: l, b :: l', h, h2, h3 => by
    have hab : a = b := by
      have ha : a ∈ b :: l' := h.subset (by simp)
      have hb : b ∈ a :: l := h.symm.subset (by simp)
      rcases List.mem_cons.1 ha with e | ha
      · exact e
      · rcases List.mem_cons.1 hb with e | hb
        · exact e.symm
        · exact leY_anti ((List.pairwise_cons.1 h2).1 b hb) ((List.pairwise_cons.1 h3).1 a ha)
    subst hab
    rw [sortedY_uniq h.cons_inv (List.pairwise_cons.1 h2).2 (List.pairwise_cons.1 h3).2]
theorem leY_of_lt {a b : Cell} (h : ltY a b) : leY a b = true := by simp [leY, ltY] at *; omega
/-- Any list of the cells of a valid region, each once, is sorted into them. -/
theorem sortY_cells {R : List Row} (h : validR R = true) {l : List Cell} (hp : l.Perm (regCells R)) : sortY l = regCells R :=
  sortedY_uniq ((sortY_perm l).trans hp) (sortY_le l) ((cells_pw h).imp fun h => leY_of_lt h)
end Go.Proofs.Ytagakfaiimaifaa
