/-
  Texts of this seat put together: X8.
-/
import Derived.Test.YtknelhiejjdioaaJ4
import Derived.Test.YtknelhiejjdioaaJ5
set_option linter.unusedVariables false
set_option linter.unusedSimpArgs false
namespace Go.Proofs.Ytknelhiejjdioaa
open Go.Abs

/-! A valid region is small. -/
theorem fine_low {l : List Run} (h : fine l = true) : ∀ (k : Nat) (r : Run), l[k]? = some r → -4096 + (k : Int) ≤ r.a
  | 0, r, hr => by have := fine_at h hr; simp; omega
  | k + 1, r, hr => by
    have hk := (List.getElem?_eq_some_iff.1 hr).1
    obtain ⟨p, hp⟩ : ∃ p, l[k]? = some p := getq (by omega)
    have h1 := fine_low h k p hp
    have h2 := fine_gap h hr hp
    have h3 := fine_at h hp
    simp; omega
theorem rows_low {R : List Row} (h : validR R = true) : ∀ (k : Nat) (w : Row), R[k]? = some w → -4096 + (k : Int) ≤ w.y
  | 0, w, hw => by have := validR_at h hw; simp; omega
  | k + 1, w, hw => by
    have hk := (List.getElem?_eq_some_iff.1 hw).1
    obtain ⟨p, hp⟩ : ∃ p, R[k]? = some p := getq (by omega)
    have h1 := rows_low h k p hp
    have h2 := validR_gap h hw hp
    simp; omega
theorem valid_small {R : List Row} (h : validR R = true) : smallR R := by
  refine ⟨?_, fun w hw => ?_⟩
  · by_cases e : R.length ≤ 8192
    · omega
    · obtain ⟨w, hw⟩ := getq (show 8192 < R.length by omega)
      have h1 := rows_low h 8192 w hw
      have h2 := validR_at h hw
      simp at h1; omega
  · have hf := (row_fine h hw).2
    by_cases e : w.runs.length ≤ 8192
    · omega
    · obtain ⟨r, hr⟩ := getq (show 8192 < w.runs.length by omega)
      have h1 := fine_low hf 8192 r hr
      have h2 := fine_at hf hr
      simp at h1; omega

/-! Regions compared. -/
theorem equalR_ok (a b : List Run) (ha : a.length ≤ 1000000) : PC Try.prog 46 [encRuns a, encRuns b] (.p (.bool (decide (a = b)))) := by
  refine pc_of_awp cx (fn := Try.f46) (c := _) Try.func46 rfl rfl (Nat.le_of_ble_eq_true rfl) ?_
  rw [Try.ntmps46]; refine Nav.imp ?_
  refine awp_region cx [] fun K hK => ?_
  simp [push_cast]
  repeat (refine And.intro (by clear hK; intros; first | omega | (simp_all; done) | (simp_all <;> omega)) ?_)
  refine hK _ ?_; clear hK K; refine Nav.imp ?_
  refine awp_region cx [] fun K hK => ?_
  simp [push_cast]
  repeat (refine And.intro (by clear hK; intros; first | omega | (simp_all; done) | (simp_all <;> omega)) ?_)
  refine hK _ ?_; clear hK K; refine Nav.imp ?_
  refine awp_cond (by simp [push_cast] <;> exact rfl) (fun hb => ?_) (fun hb => ?_) <;> (refine Nav.imp ?_)
  · simp at hb
    have hne : a ≠ b := by intro e; subst e; simp at hb
    refine awp_region cx [] fun K hK => ?_
    simp [push_cast]
    repeat (refine And.intro (by clear hK; intros; first | omega | (simp_all; done) | (simp_all <;> omega)) ?_)
    refine hK _ ?_; clear hK K; refine Nav.imp ?_
    simp [push_cast, hne]
  · have hlen : a.length = b.length := by simp at hb; omega
    clear hb
    refine awp_region cx [] fun K hK => ?_
    simp [push_cast]
    repeat (refine And.intro (by clear hK; intros; first | omega | (simp_all; done) | (simp_all <;> omega)) ?_)
    refine hK _ ?_; clear hK K; refine Nav.imp ?_
    refine awp_loop (β := Nat) (fun k => ⟨26, [(0, .d (encRuns a)), (1, .d (encRuns b)), (12, .d (.int .i64 a.length)), (13, .d (.int .i64 k))], [], 0⟩) (fun k => k ≤ a.length ∧ a.take k = b.take k) (fun k => a.length - k) 0 ?_ ⟨Nat.zero_le _, by simp⟩ ?_
    · refine weak_of [] rfl (by simp [upT, up, upL, push_cast]) (by simp [upH, upR, upL, up, push_cast]) (by simp [namesOk, push_cast]) (by simp [olds])
    · rintro k ⟨hk, hpre⟩
      refine Nav.imp ?_
      refine awp_region cx [] fun K hK => ?_
      simp [push_cast]
      repeat (refine And.intro (by clear hK; intros; first | omega | (simp_all; done) | (simp_all <;> omega)) ?_)
      refine hK _ ?_; clear hK K; refine Nav.imp ?_
      refine awp_cond (b := decide ((k : Int) < a.length)) (by simp [push_cast]) (fun hb => ?_) (fun hb => ?_) <;> (refine Nav.imp ?_)
      · have hlt : k < a.length := by simpa using hb
        obtain ⟨p, hp⟩ := getq hlt
        obtain ⟨q, hq⟩ : ∃ y, b[k]? = some y := getq (by omega)
        have e0 := wrap_i64 (n := (k : Int) + 1) (by omega) (by omega)
        have hno : p ≠ q → a ≠ b := fun h e => by
          subst e
          rw [hp] at hq
          exact h (Option.some.inj hq)
        obtain ⟨pa, pb⟩ := p
        obtain ⟨qa, qb⟩ := q
        refine awp_region cx [] fun K hK => ?_
        simp [push_cast]
        repeat (refine And.intro (by clear hK; intros; first | omega | (simp_all; done) | (simp_all <;> omega)) ?_)
        refine hK _ ?_; clear hK K; refine Nav.imp ?_
        refine awp_region_draw cx mixed [] fun K hK => ?_
        simp [push_cast, hp, hq, Run.row]
        repeat (refine And.intro (by clear hK; intros; first | omega | (simp_all; done) | (simp_all <;> omega)) ?_)
        refine hK _ _ (by kernel_rfl) ?_; clear hK K; refine Nav.imp ?_
        refine awp_cond (by simp [push_cast] <;> exact rfl) (fun hb => ?_) (fun hb => ?_) <;> (refine Nav.imp ?_)
        · have hn : a ≠ b := hno (by rintro ⟨⟩; simp at hb)
          refine awp_region cx [] fun K hK => ?_
          simp [push_cast]
          repeat (refine And.intro (by clear hK; intros; first | omega | (simp_all; done) | (simp_all <;> omega)) ?_)
          refine hK _ ?_; clear hK K; refine Nav.imp ?_
          simp [push_cast, hn]
        · simp at hb
          obtain ⟨h1, h2⟩ := hb
          subst h1 h2
          refine awp_region cx [] fun K hK => ?_
          simp [push_cast, e0]
          repeat (refine And.intro (by clear hK; intros; first | omega | (simp_all; done) | (simp_all <;> omega)) ?_)
          refine hK _ ?_; clear hK K; refine Nav.imp ?_
          refine ⟨k + 1, ⟨hlt, take_eq_step hpre hp hq rfl⟩, by omega, ?_⟩
          refine weak_of [] rfl (by simp [upT, up, upL, push_cast]) (by simp [upH, upR, upL, up, push_cast]) (by simp [namesOk, push_cast]) (by simp [olds])
      · have hge : k = a.length := by simp at hb; omega
        subst hge
        rw [List.take_length, hlen, List.take_length] at hpre
        refine awp_region cx [] fun K hK => ?_
        simp [push_cast]
        repeat (refine And.intro (by clear hK; intros; first | omega | (simp_all; done) | (simp_all <;> omega)) ?_)
        refine hK _ ?_; clear hK K; refine Nav.imp ?_
        simp [push_cast, hpre]

theorem same1_ok (v w : Row) (hv : v.runs.length ≤ 1000000) : PC Try.prog 45 [.agg v.row, .agg w.row] (.p (.bool (decide (v = w)))) := by
  have c1 := equalR_ok v.runs w.runs hv
  have hd : decide (v = w) = (decide (v.y = w.y) && decide (v.runs = w.runs)) := by cases v; cases w; rw [Bool.eq_iff_iff]; simp
  rw [hd]
  obtain ⟨vy, vr⟩ := v
  obtain ⟨wy, wr⟩ := w
  simp only at c1
  generalize decide (vr = wr) = e at *
  by_cases h : vy = wy
  · subst h
    refine pc_of_awp cx (fn := Try.f45) (c := _) Try.func45 rfl rfl (Nat.le_of_ble_eq_true rfl) ?_
    rw [Try.ntmps45]; refine Nav.imp ?_
    refine awp_region cx [] fun K hK => ?_
    simp [push_cast, Row.row]
    repeat (refine And.intro (by clear hK; intros; first | omega | (simp_all; done) | (simp_all <;> omega)) ?_)
    refine hK _ ?_; clear hK K; refine Nav.imp ?_
    refine awp_region cx [(10, .p (.bool e))] fun K hK => ?_
    simp [push_cast, c1, Row.row]
    repeat (refine And.intro (by clear hK; intros; first | omega | (simp_all; done) | (simp_all <;> omega)) ?_)
    refine hK _ ?_; clear hK K; refine Nav.imp ?_
    simp [push_cast]
  · have h' : (vy == wy) = false := by simpa using h
    refine pc_of_awp cx (fn := Try.f45) (c := _) Try.func45 rfl rfl (Nat.le_of_ble_eq_true rfl) ?_
    rw [Try.ntmps45]; refine Nav.imp ?_
    refine awp_region cx [] fun K hK => ?_
    simp [push_cast, Row.row]
    repeat (refine And.intro (by clear hK; intros; first | omega | (simp_all; done) | (simp_all <;> omega)) ?_)
    refine hK _ ?_; clear hK K; refine Nav.imp ?_
    refine awp_region cx [(10, .skip)] fun K hK => ?_
    simp [push_cast, h', Row.row]
    repeat (refine And.intro (by clear hK; intros; first | omega | (simp_all; done) | (simp_all <;> omega)) ?_)
    refine hK _ ?_; clear hK K; refine Nav.imp ?_
    simp [push_cast, h]

theorem equalF_ok (a b : List Row) (hA : smallR a) : PC Try.prog 44 [encRows a, encRows b, .fn (.func 45) []] (.p (.bool (decide (a = b)))) := by
  have ha := hA.1
  refine pc_of_awp cx (fn := Try.f44) (c := _) Try.func44 rfl rfl (Nat.le_of_ble_eq_true rfl) ?_
  rw [Try.ntmps44]; refine Nav.imp ?_
  refine awp_region cx [] fun K hK => ?_
  simp [push_cast]
  repeat (refine And.intro (by clear hK; intros; first | omega | (simp_all; done) | (simp_all <;> omega)) ?_)
  refine hK _ ?_; clear hK K; refine Nav.imp ?_
  refine awp_region cx [] fun K hK => ?_
  simp [push_cast]
  repeat (refine And.intro (by clear hK; intros; first | omega | (simp_all; done) | (simp_all <;> omega)) ?_)
  refine hK _ ?_; clear hK K; refine Nav.imp ?_
  refine awp_cond (by simp [push_cast] <;> exact rfl) (fun hb => ?_) (fun hb => ?_) <;> (refine Nav.imp ?_)
  · simp at hb
    have hne : a ≠ b := by intro e; subst e; simp at hb
    refine awp_region cx [] fun K hK => ?_
    simp [push_cast]
    repeat (refine And.intro (by clear hK; intros; first | omega | (simp_all; done) | (simp_all <;> omega)) ?_)
    refine hK _ ?_; clear hK K; refine Nav.imp ?_
    simp [push_cast, hne]
  · have hlen : a.length = b.length := by simp at hb; omega
    clear hb
    refine awp_region cx [] fun K hK => ?_
    simp [push_cast]
    repeat (refine And.intro (by clear hK; intros; first | omega | (simp_all; done) | (simp_all <;> omega)) ?_)
    refine hK _ ?_; clear hK K; refine Nav.imp ?_
    refine awp_loop (β := Nat) (fun k => ⟨32, [(1, .d (encRows b)), (2, .d (.fn (.func 45) [])), (15, .d (encRows a)), (16, .d (.int .i64 a.length)), (17, .d (.int .i64 k))], [], 0⟩) (fun k => k ≤ a.length ∧ a.take k = b.take k) (fun k => a.length - k) 0 ?_ ⟨Nat.zero_le _, by simp⟩ ?_
    · refine weak_of [] rfl (by simp [upT, up, upL, push_cast]) (by simp [upH, upR, upL, up, push_cast]) (by simp [namesOk, push_cast]) (by simp [olds])
    · rintro k ⟨hk, hpre⟩
      refine Nav.imp ?_
      refine awp_region cx [] fun K hK => ?_
      simp [push_cast]
      repeat (refine And.intro (by clear hK; intros; first | omega | (simp_all; done) | (simp_all <;> omega)) ?_)
      refine hK _ ?_; clear hK K; refine Nav.imp ?_
      refine awp_cond (b := decide ((k : Int) < a.length)) (by simp [push_cast]) (fun hb => ?_) (fun hb => ?_) <;> (refine Nav.imp ?_)
      · have hlt : k < a.length := by simpa using hb
        obtain ⟨p, hp⟩ := getq hlt
        obtain ⟨q, hq⟩ : ∃ y, b[k]? = some y := getq (by omega)
        have e0 := wrap_i64 (n := (k : Int) + 1) (by omega) (by omega)
        have c1 := same1_ok p q (hA.2 p (List.mem_of_getElem? hp))
        have hno : p ≠ q → a ≠ b := fun h e => by
          subst e
          rw [hp] at hq
          exact h (Option.some.inj hq)
        have hyes : p = q → a.take (k + 1) = b.take (k + 1) := take_eq_step hpre hp hq
        generalize he : decide (p = q) = e at c1
        obtain ⟨py, pr⟩ := p
        obtain ⟨qy, qr⟩ := q
        refine awp_region cx [] fun K hK => ?_
        simp [push_cast, hp, Row.row]
        repeat (refine And.intro (by clear hK; intros; first | omega | (simp_all; done) | (simp_all <;> omega)) ?_)
        refine hK _ ?_; clear hK K; refine Nav.imp ?_
        refine awp_region cx [] fun K hK => ?_
        simp [push_cast, hq, Row.row]
        repeat (refine And.intro (by clear hK; intros; first | omega | (simp_all; done) | (simp_all <;> omega)) ?_)
        refine hK _ ?_; clear hK K; refine Nav.imp ?_
        refine awp_region cx [(3, .p (.bool e))] fun K hK => ?_
        simp [push_cast, c1, Row.row]
        repeat (refine And.intro (by clear hK; intros; first | omega | (simp_all; done) | (simp_all <;> omega)) ?_)
        refine hK _ ?_; clear hK K; refine Nav.imp ?_
        refine awp_cond (b := !e) (by simp [push_cast]) (fun hb => ?_) (fun hb => ?_) <;> (refine Nav.imp ?_)
        · simp at hb
          rw [hb] at he
          have hn : a ≠ b := hno (by simpa using he)
          refine awp_region cx [] fun K hK => ?_
          simp [push_cast]
          repeat (refine And.intro (by clear hK; intros; first | omega | (simp_all; done) | (simp_all <;> omega)) ?_)
          refine hK _ ?_; clear hK K; refine Nav.imp ?_
          simp [push_cast, hn]
        · simp at hb
          rw [hb] at he
          refine awp_region cx [] fun K hK => ?_
          simp [push_cast, e0]
          repeat (refine And.intro (by clear hK; intros; first | omega | (simp_all; done) | (simp_all <;> omega)) ?_)
          refine hK _ ?_; clear hK K; refine Nav.imp ?_
          refine ⟨k + 1, ⟨hlt, hyes (by simpa using he)⟩, by omega, ?_⟩
          refine weak_of [] rfl (by simp [upT, up, upL, push_cast]) (by simp [upH, upR, upL, up, push_cast]) (by simp [namesOk, push_cast]) (by simp [olds])
      · have hge : k = a.length := by simp at hb; omega
        subst hge
        rw [List.take_length, hlen, List.take_length] at hpre
        refine awp_region cx [] fun K hK => ?_
        simp [push_cast]
        repeat (refine And.intro (by clear hK; intros; first | omega | (simp_all; done) | (simp_all <;> omega)) ?_)
        refine hK _ ?_; clear hK K; refine Nav.imp ?_
        simp [push_cast, hpre]

def sameB (a b : List Row) : Bool := validR a && validR b && decide (a = b)
theorem sameR_big (a b : List Row) (hA : bigR a) (hB : bigR b) : PC Try.prog 21 [.agg (regRow a), .agg (regRow b)] (.p (.bool (sameB a b))) := by
  have c1 := valid_big a hA
  have c2 := valid_big b hB
  have c3 : validR a = true → _ := fun h => equalF_ok a b (small_valid h)
  unfold sameB
  generalize validR a = v at *
  generalize validR b = w at *
  generalize decide (a = b) = e at *
  cases v with
  | false =>
    refine pc_of_awp cx (fn := Try.f21) (c := _) Try.func21 rfl rfl (Nat.le_of_ble_eq_true rfl) ?_
    rw [Try.ntmps21]; refine Nav.imp ?_
    refine awp_region cx [] fun K hK => ?_
    simp [push_cast]
    repeat (refine And.intro (by clear hK; intros; first | omega | (simp_all; done) | (simp_all <;> omega)) ?_)
    refine hK _ ?_; clear hK K; refine Nav.imp ?_
    refine awp_region cx [(1, .p (.bool false)), (4, .skip), (11, .skip)] fun K hK => ?_
    simp [push_cast, c1]
    repeat (refine And.intro (by clear hK; intros; first | omega | (simp_all; done) | (simp_all <;> omega)) ?_)
    refine hK _ ?_; clear hK K; refine Nav.imp ?_
    simp [push_cast]
  | true =>
    cases w with
    | false =>
      refine pc_of_awp cx (fn := Try.f21) (c := _) Try.func21 rfl rfl (Nat.le_of_ble_eq_true rfl) ?_
      rw [Try.ntmps21]; refine Nav.imp ?_
      refine awp_region cx [] fun K hK => ?_
      simp [push_cast]
      repeat (refine And.intro (by clear hK; intros; first | omega | (simp_all; done) | (simp_all <;> omega)) ?_)
      refine hK _ ?_; clear hK K; refine Nav.imp ?_
      refine awp_region cx [(1, .p (.bool true)), (4, .p (.bool false)), (11, .skip)] fun K hK => ?_
      simp [push_cast, c1, c2]
      repeat (refine And.intro (by clear hK; intros; first | omega | (simp_all; done) | (simp_all <;> omega)) ?_)
      refine hK _ ?_; clear hK K; refine Nav.imp ?_
      simp [push_cast]
    | true =>
      refine pc_of_awp cx (fn := Try.f21) (c := _) Try.func21 rfl rfl (Nat.le_of_ble_eq_true rfl) ?_
      rw [Try.ntmps21]; refine Nav.imp ?_
      refine awp_region cx [] fun K hK => ?_
      simp [push_cast]
      repeat (refine And.intro (by clear hK; intros; first | omega | (simp_all; done) | (simp_all <;> omega)) ?_)
      refine hK _ ?_; clear hK K; refine Nav.imp ?_
      refine awp_region cx [(1, .p (.bool true)), (4, .p (.bool true)), (11, .p (.bool e))] fun K hK => ?_
      simp [push_cast, c1, c2, c3 rfl]
      repeat (refine And.intro (by clear hK; intros; first | omega | (simp_all; done) | (simp_all <;> omega)) ?_)
      refine hK _ ?_; clear hK K; refine Nav.imp ?_
      simp [push_cast]
theorem sameR_ok (a b : List Row) (hA : smallR a) (hB : smallR b) : PC Try.prog 21 [.agg (regRow a), .agg (regRow b)] (.p (.bool (sameB a b))) := sameR_big a b (big_of hA) (big_of hB)
end Go.Proofs.Ytknelhiejjdioaa
