/-
  Texts of this seat put together: X8, Z3, L0, L3, S10, S11, S12, S13.
-/
import Derived.Test.YtgicofpllopjmaaDoorJ5
import Derived.Test.YtgicofpllopjmaaDoorJ7
import Derived.Test.YtgicofpllopjmaaDoorJ8
import Derived.Test.YtgicofpllopjmaaDoorJ4
import Derived.Test.YtgicofpllopjmaaDoorJ3
import Derived.Test.YtgicofpllopjmaaDoorChecked
set_option linter.unusedVariables false
set_option linter.unusedSimpArgs false
set_option maxRecDepth 100000
namespace Go.Proofs.YtgicofpllopjmaaDoor
open Go.Abs

theorem fine_low {l : List Run} (h : fine l = true) : ∀ (k : Nat) (r : Run), l[k]? = some r → -4096 + (k : Int) ≤ r.a
  | 0, r, hr => by have := fine_at h hr; simp; omega
  | k + 1, r, hr => by
    have hk := (List.getElem?_eq_some_iff.1 hr).1
    obtain ⟨p, hp⟩ : ∃ p, l[k]? = some p := getq (by omega)
    have h1 := fine_low h k p hp
    have h2 := fine_gap h hr hp
    have h3 := fine_at h hp
    simp; omega
theorem rows_low {R : List Row} (h : validR R = true) : ∀ (k : Nat) (w : Row), R[k]? = some w → -4096 + (k : Int) ≤ w.y
  | 0, w, hw => by have := validR_at h hw; simp; omega
  | k + 1, w, hw => by
    have hk := (List.getElem?_eq_some_iff.1 hw).1
    obtain ⟨p, hp⟩ : ∃ p, R[k]? = some p := getq (by omega)
    have h1 := rows_low h k p hp
    have h2 := validR_gap h hw hp
    simp; omega
theorem valid_small {R : List Row} (h : validR R = true) : smallR R := by
  refine ⟨?_, fun w hw => ?_⟩
  · by_cases e : R.length ≤ 8192
    · omega
    · obtain ⟨w, hw⟩ := getq (show 8192 < R.length by omega)
      have h1 := rows_low h 8192 w hw
      have h2 := validR_at h hw
      simp at h1; omega
  · have hf := (row_fine h hw).2
    by_cases e : w.runs.length ≤ 8192
    · omega
    · obtain ⟨r, hr⟩ := getq (show 8192 < w.runs.length by omega)
      have h1 := fine_low hf 8192 r hr
      have h2 := fine_at hf hr
      simp at h1; omega

theorem equalR_ok (a b : List Run) (ha : a.length ≤ 1000000) : PC Tryd.prog 34 [encRuns a, encRuns b] (.p (.bool (decide (a = b)))) := by
  refine pc_of_awp cx (fn := Tryd.f34) (c := _) Tryd.func34 rfl rfl (Nat.le_of_ble_eq_true rfl) ?_
  rw [Tryd.ntmps34]; refine Nav.imp ?_
  refine awp_region cx [] fun K hK => ?_
  simp [push_cast]
  repeat (refine And.intro (by clear hK; intros; first | omega | (simp_all; done) | (simp_all <;> omega)) ?_)
  refine hK _ ?_; clear hK K; refine Nav.imp ?_
  refine awp_region cx [] fun K hK => ?_
  simp [push_cast]
  repeat (refine And.intro (by clear hK; intros; first | omega | (simp_all; done) | (simp_all <;> omega)) ?_)
  refine hK _ ?_; clear hK K; refine Nav.imp ?_
  refine awp_cond (by simp [push_cast] <;> exact rfl) (fun hb => ?_) (fun hb => ?_) <;> (refine Nav.imp ?_)
  · simp at hb
    have hne : a ≠ b := by intro e; subst e; simp at hb
    refine awp_region cx [] fun K hK => ?_
    simp [push_cast]
    repeat (refine And.intro (by clear hK; intros; first | omega | (simp_all; done) | (simp_all <;> omega)) ?_)
    refine hK _ ?_; clear hK K; refine Nav.imp ?_
    simp [push_cast, hne]
  · have hlen : a.length = b.length := by simp at hb; omega
    clear hb
    refine awp_region cx [] fun K hK => ?_
    simp [push_cast]
    repeat (refine And.intro (by clear hK; intros; first | omega | (simp_all; done) | (simp_all <;> omega)) ?_)
    refine hK _ ?_; clear hK K; refine Nav.imp ?_
    refine awp_loop (β := Nat) (fun k => ⟨26, [(0, .d (encRuns a)), (1, .d (encRuns b)), (12, .d (.int .i64 a.length)), (13, .d (.int .i64 k))], [], 0⟩) (fun k => k ≤ a.length ∧ a.take k = b.take k) (fun k => a.length - k) 0 ?_ ⟨Nat.zero_le _, by simp⟩ ?_
    · refine weak_of [] rfl (by simp [upT, up, upL, push_cast]) (by simp [upH, upR, upL, up, push_cast]) (by simp [namesOk, push_cast]) (by simp [olds])
    · rintro k ⟨hk, hpre⟩
      refine Nav.imp ?_
      refine awp_region cx [] fun K hK => ?_
      simp [push_cast]
      repeat (refine And.intro (by clear hK; intros; first | omega | (simp_all; done) | (simp_all <;> omega)) ?_)
      refine hK _ ?_; clear hK K; refine Nav.imp ?_
      refine awp_cond (b := decide ((k : Int) < a.length)) (by simp [push_cast]) (fun hb => ?_) (fun hb => ?_) <;> (refine Nav.imp ?_)
      · have hlt : k < a.length := by simpa using hb
        obtain ⟨p, hp⟩ := getq hlt
        obtain ⟨q, hq⟩ : ∃ y, b[k]? = some y := getq (by omega)
        have e0 := wrap_i64 (n := (k : Int) + 1) (by omega) (by omega)
        have hno : p ≠ q → a ≠ b := fun h e => by
          subst e
          rw [hp] at hq
          exact h (Option.some.inj hq)
        obtain ⟨pa, pb⟩ := p
        obtain ⟨qa, qb⟩ := q
        refine awp_region cx [] fun K hK => ?_
        simp [push_cast]
        repeat (refine And.intro (by clear hK; intros; first | omega | (simp_all; done) | (simp_all <;> omega)) ?_)
        refine hK _ ?_; clear hK K; refine Nav.imp ?_
        refine awp_region_draw cx mixed [] fun K hK => ?_
        simp [push_cast, hp, hq, Run.row]
        repeat (refine And.intro (by clear hK; intros; first | omega | (simp_all; done) | (simp_all <;> omega)) ?_)
        refine hK _ _ (by kernel_rfl) ?_; clear hK K; refine Nav.imp ?_
        refine awp_cond (by simp [push_cast] <;> exact rfl) (fun hb => ?_) (fun hb => ?_) <;> (refine Nav.imp ?_)
        · have hn : a ≠ b := hno (by rintro ⟨⟩; simp at hb)
          refine awp_region cx [] fun K hK => ?_
          simp [push_cast]
          repeat (refine And.intro (by clear hK; intros; first | omega | (simp_all; done) | (simp_all <;> omega)) ?_)
          refine hK _ ?_; clear hK K; refine Nav.imp ?_
          simp [push_cast, hn]
        · simp at hb
          obtain ⟨h1, h2⟩ := hb
          subst h1 h2
          refine awp_region cx [] fun K hK => ?_
          simp [push_cast, e0]
          repeat (refine And.intro (by clear hK; intros; first | omega | (simp_all; done) | (simp_all <;> omega)) ?_)
          refine hK _ ?_; clear hK K; refine Nav.imp ?_
          refine ⟨k + 1, ⟨hlt, take_eq_step hpre hp hq rfl⟩, by omega, ?_⟩
          refine weak_of [] rfl (by simp [upT, up, upL, push_cast]) (by simp [upH, upR, upL, up, push_cast]) (by simp [namesOk, push_cast]) (by simp [olds])
      · have hge : k = a.length := by simp at hb; omega
        subst hge
        rw [List.take_length, hlen, List.take_length] at hpre
        refine awp_region cx [] fun K hK => ?_
        simp [push_cast]
        repeat (refine And.intro (by clear hK; intros; first | omega | (simp_all; done) | (simp_all <;> omega)) ?_)
        refine hK _ ?_; clear hK K; refine Nav.imp ?_
        simp [push_cast, hpre]

theorem same1_ok (v w : Row) (hv : v.runs.length ≤ 1000000) : PC Tryd.prog 33 [.agg v.row, .agg w.row] (.p (.bool (decide (v = w)))) := by
  have c1 := equalR_ok v.runs w.runs hv
  have hd : decide (v = w) = (decide (v.y = w.y) && decide (v.runs = w.runs)) := by cases v; cases w; rw [Bool.eq_iff_iff]; simp
  rw [hd]
  obtain ⟨vy, vr⟩ := v
  obtain ⟨wy, wr⟩ := w
  simp only at c1
  generalize decide (vr = wr) = e at *
  by_cases h : vy = wy
  · subst h
    refine pc_of_awp cx (fn := Tryd.f33) (c := _) Tryd.func33 rfl rfl (Nat.le_of_ble_eq_true rfl) ?_
    rw [Tryd.ntmps33]; refine Nav.imp ?_
    refine awp_region cx [] fun K hK => ?_
    simp [push_cast, Row.row]
    repeat (refine And.intro (by clear hK; intros; first | omega | (simp_all; done) | (simp_all <;> omega)) ?_)
    refine hK _ ?_; clear hK K; refine Nav.imp ?_
    refine awp_region cx [(10, .p (.bool e))] fun K hK => ?_
    simp [push_cast, c1, Row.row]
    repeat (refine And.intro (by clear hK; intros; first | omega | (simp_all; done) | (simp_all <;> omega)) ?_)
    refine hK _ ?_; clear hK K; refine Nav.imp ?_
    simp [push_cast]
  · have h' : (vy == wy) = false := by simpa using h
    refine pc_of_awp cx (fn := Tryd.f33) (c := _) Tryd.func33 rfl rfl (Nat.le_of_ble_eq_true rfl) ?_
    rw [Tryd.ntmps33]; refine Nav.imp ?_
    refine awp_region cx [] fun K hK => ?_
    simp [push_cast, Row.row]
    repeat (refine And.intro (by clear hK; intros; first | omega | (simp_all; done) | (simp_all <;> omega)) ?_)
    refine hK _ ?_; clear hK K; refine Nav.imp ?_
    refine awp_region cx [(10, .skip)] fun K hK => ?_
    simp [push_cast, h', Row.row]
    repeat (refine And.intro (by clear hK; intros; first | omega | (simp_all; done) | (simp_all <;> omega)) ?_)
    refine hK _ ?_; clear hK K; refine Nav.imp ?_
    simp [push_cast, h]

theorem equalF_ok (a b : List Row) (hA : smallR a) : PC Tryd.prog 32 [encRows a, encRows b, .fn (.func 33) []] (.p (.bool (decide (a = b)))) := by
  have ha := hA.1
  refine pc_of_awp cx (fn := Tryd.f32) (c := _) Tryd.func32 rfl rfl (Nat.le_of_ble_eq_true rfl) ?_
  rw [Tryd.ntmps32]; refine Nav.imp ?_
  refine awp_region cx [] fun K hK => ?_
  simp [push_cast]
  repeat (refine And.intro (by clear hK; intros; first | omega | (simp_all; done) | (simp_all <;> omega)) ?_)
  refine hK _ ?_; clear hK K; refine Nav.imp ?_
  refine awp_region cx [] fun K hK => ?_
  simp [push_cast]
  repeat (refine And.intro (by clear hK; intros; first | omega | (simp_all; done) | (simp_all <;> omega)) ?_)
  refine hK _ ?_; clear hK K; refine Nav.imp ?_
  refine awp_cond (by simp [push_cast] <;> exact rfl) (fun hb => ?_) (fun hb => ?_) <;> (refine Nav.imp ?_)
  · simp at hb
    have hne : a ≠ b := by intro e; subst e; simp at hb
    refine awp_region cx [] fun K hK => ?_
    simp [push_cast]
    repeat (refine And.intro (by clear hK; intros; first | omega | (simp_all; done) | (simp_all <;> omega)) ?_)
    refine hK _ ?_; clear hK K; refine Nav.imp ?_
    simp [push_cast, hne]
  · have hlen : a.length = b.length := by simp at hb; omega
    clear hb
    refine awp_region cx [] fun K hK => ?_
    simp [push_cast]
    repeat (refine And.intro (by clear hK; intros; first | omega | (simp_all; done) | (simp_all <;> omega)) ?_)
    refine hK _ ?_; clear hK K; refine Nav.imp ?_
    refine awp_loop (β := Nat) (fun k => ⟨32, [(1, .d (encRows b)), (2, .d (.fn (.func 33) [])), (15, .d (encRows a)), (16, .d (.int .i64 a.length)), (17, .d (.int .i64 k))], [], 0⟩) (fun k => k ≤ a.length ∧ a.take k = b.take k) (fun k => a.length - k) 0 ?_ ⟨Nat.zero_le _, by simp⟩ ?_
    · refine weak_of [] rfl (by simp [upT, up, upL, push_cast]) (by simp [upH, upR, upL, up, push_cast]) (by simp [namesOk, push_cast]) (by simp [olds])
    · rintro k ⟨hk, hpre⟩
      refine Nav.imp ?_
      refine awp_region cx [] fun K hK => ?_
      simp [push_cast]
      repeat (refine And.intro (by clear hK; intros; first | omega | (simp_all; done) | (simp_all <;> omega)) ?_)
      refine hK _ ?_; clear hK K; refine Nav.imp ?_
      refine awp_cond (b := decide ((k : Int) < a.length)) (by simp [push_cast]) (fun hb => ?_) (fun hb => ?_) <;> (refine Nav.imp ?_)
      · have hlt : k < a.length := by simpa using hb
        obtain ⟨p, hp⟩ := getq hlt
        obtain ⟨q, hq⟩ : ∃ y, b[k]? = some y := getq (by omega)
        have e0 := wrap_i64 (n := (k : Int) + 1) (by omega) (by omega)
        have c1 := same1_ok p q (hA.2 p (List.mem_of_getElem? hp))
        have hno : p ≠ q → a ≠ b := fun h e => by
          subst e
          rw [hp] at hq
          exact h (Option.some.inj hq)
        have hyes : p = q → a.take (k + 1) = b.take (k + 1) := take_eq_step hpre hp hq
        generalize he : decide (p = q) = e at c1
        obtain ⟨py, pr⟩ := p
        obtain ⟨qy, qr⟩ := q
        refine awp_region cx [] fun K hK => ?_
        simp [push_cast, hp, Row.row]
        repeat (refine And.intro (by clear hK; intros; first | omega | (simp_all; done) | (simp_all <;> omega)) ?_)
        refine hK _ ?_; clear hK K; refine Nav.imp ?_
        refine awp_region cx [] fun K hK => ?_
        simp [push_cast, hq, Row.row]
        repeat (refine And.intro (by clear hK; intros; first | omega | (simp_all; done) | (simp_all <;> omega)) ?_)
        refine hK _ ?_; clear hK K; refine Nav.imp ?_
        refine awp_region cx [(3, .p (.bool e))] fun K hK => ?_
        simp [push_cast, c1, Row.row]
        repeat (refine And.intro (by clear hK; intros; first | omega | (simp_all; done) | (simp_all <;> omega)) ?_)
        refine hK _ ?_; clear hK K; refine Nav.imp ?_
        refine awp_cond (b := !e) (by simp [push_cast]) (fun hb => ?_) (fun hb => ?_) <;> (refine Nav.imp ?_)
        · simp at hb
          rw [hb] at he
          have hn : a ≠ b := hno (by simpa using he)
          refine awp_region cx [] fun K hK => ?_
          simp [push_cast]
          repeat (refine And.intro (by clear hK; intros; first | omega | (simp_all; done) | (simp_all <;> omega)) ?_)
          refine hK _ ?_; clear hK K; refine Nav.imp ?_
          simp [push_cast, hn]
        · simp at hb
          rw [hb] at he
          refine awp_region cx [] fun K hK => ?_
          simp [push_cast, e0]
          repeat (refine And.intro (by clear hK; intros; first | omega | (simp_all; done) | (simp_all <;> omega)) ?_)
          refine hK _ ?_; clear hK K; refine Nav.imp ?_
          refine ⟨k + 1, ⟨hlt, hyes (by simpa using he)⟩, by omega, ?_⟩
          refine weak_of [] rfl (by simp [upT, up, upL, push_cast]) (by simp [upH, upR, upL, up, push_cast]) (by simp [namesOk, push_cast]) (by simp [olds])
      · have hge : k = a.length := by simp at hb; omega
        subst hge
        rw [List.take_length, hlen, List.take_length] at hpre
        refine awp_region cx [] fun K hK => ?_
        simp [push_cast]
        repeat (refine And.intro (by clear hK; intros; first | omega | (simp_all; done) | (simp_all <;> omega)) ?_)
        refine hK _ ?_; clear hK K; refine Nav.imp ?_
        simp [push_cast, hpre]

def sameB (a b : List Row) : Bool := validR a && validR b && decide (a = b)
theorem sameR_big (a b : List Row) (hA : bigR a) (hB : bigR b) : PC Tryd.prog 15 [.agg (regRow a), .agg (regRow b)] (.p (.bool (sameB a b))) := by
  have c1 := valid_big a hA
  have c2 := valid_big b hB
  have c3 : validR a = true → _ := fun h => equalF_ok a b (small_valid h)
  unfold sameB
  generalize validR a = v at *
  generalize validR b = w at *
  generalize decide (a = b) = e at *
  cases v with
  | false =>
    refine pc_of_awp cx (fn := Tryd.f15) (c := _) Tryd.func15 rfl rfl (Nat.le_of_ble_eq_true rfl) ?_
    rw [Tryd.ntmps15]; refine Nav.imp ?_
    refine awp_region cx [] fun K hK => ?_
    simp [push_cast]
    repeat (refine And.intro (by clear hK; intros; first | omega | (simp_all; done) | (simp_all <;> omega)) ?_)
    refine hK _ ?_; clear hK K; refine Nav.imp ?_
    refine awp_region cx [(1, .p (.bool false)), (4, .skip), (11, .skip)] fun K hK => ?_
    simp [push_cast, c1]
    repeat (refine And.intro (by clear hK; intros; first | omega | (simp_all; done) | (simp_all <;> omega)) ?_)
    refine hK _ ?_; clear hK K; refine Nav.imp ?_
    simp [push_cast]
  | true =>
    cases w with
    | false =>
      refine pc_of_awp cx (fn := Tryd.f15) (c := _) Tryd.func15 rfl rfl (Nat.le_of_ble_eq_true rfl) ?_
      rw [Tryd.ntmps15]; refine Nav.imp ?_
      refine awp_region cx [] fun K hK => ?_
      simp [push_cast]
      repeat (refine And.intro (by clear hK; intros; first | omega | (simp_all; done) | (simp_all <;> omega)) ?_)
      refine hK _ ?_; clear hK K; refine Nav.imp ?_
      refine awp_region cx [(1, .p (.bool true)), (4, .p (.bool false)), (11, .skip)] fun K hK => ?_
      simp [push_cast, c1, c2]
      repeat (refine And.intro (by clear hK; intros; first | omega | (simp_all; done) | (simp_all <;> omega)) ?_)
      refine hK _ ?_; clear hK K; refine Nav.imp ?_
      simp [push_cast]
    | true =>
      refine pc_of_awp cx (fn := Tryd.f15) (c := _) Tryd.func15 rfl rfl (Nat.le_of_ble_eq_true rfl) ?_
      rw [Tryd.ntmps15]; refine Nav.imp ?_
      refine awp_region cx [] fun K hK => ?_
      simp [push_cast]
      repeat (refine And.intro (by clear hK; intros; first | omega | (simp_all; done) | (simp_all <;> omega)) ?_)
      refine hK _ ?_; clear hK K; refine Nav.imp ?_
      refine awp_region cx [(1, .p (.bool true)), (4, .p (.bool true)), (11, .p (.bool e))] fun K hK => ?_
      simp [push_cast, c1, c2, c3 rfl]
      repeat (refine And.intro (by clear hK; intros; first | omega | (simp_all; done) | (simp_all <;> omega)) ?_)
      refine hK _ ?_; clear hK K; refine Nav.imp ?_
      simp [push_cast]
end Go.Proofs.YtgicofpllopjmaaDoor

namespace Go.Proofs.YtgicofpllopjmaaDoor
open Go.Abs

theorem row_ends {w : Row} (h : fine w.runs = true) : (∀ r ∈ w.runs, fstA w ≤ r.a ∧ r.b ≤ lstB w) ∧ -4096 ≤ fstA w ∧ lstB w ≤ 4096 ∧ ∀ dx dy, fstA (shRow dx dy w) = fstA w + dx ∧ lstB (shRow dx dy w) = lstB w + dx := by
  obtain ⟨f, z, hf, hz, hf1, hz1, hl⟩ := fine_ends h
  have e1 : fstA w = f.a := by simp [fstA, hf]
  have e2 : lstB w = z.b := by simp [lstB, hz]
  rw [e1, e2]
  refine ⟨fun r hr => ?_, hf1.1, hz1.2.2, fun dx dy => ⟨?_, ?_⟩⟩
  · obtain ⟨k, hk, rfl⟩ := List.mem_iff_getElem.1 hr
    have hk' := List.getElem?_eq_getElem hk
    exact ⟨(rvalid_asc (fine_rv h) k 0 _ f (Nat.zero_le _) hf hk').1, (rvalid_asc (fine_rv h) (w.runs.length - 1) k z _ (by omega) hk' hz).2⟩
  · simp [fstA, shRow, hf, shRun]
  · simp [lstB, shRow, hz, shRun]
theorem inB_facts {R : List Row} (hv : validR R = true) (h0 : R ≠ []) {dx dy : Int} (hin : inB R dx dy = true) :
    (∀ w ∈ R, -4096 ≤ fstA w + dx ∧ lstB w + dx ≤ 4096 ∧ -4096 ≤ w.y + dy ∧ w.y + dy < 4096) := by
  intro w hw
  have hs : some? R = true := by simp [some?, hv]; exact List.length_pos_iff.2 h0
  simp only [inB, boxLo, boxHi, hs, if_true, Bool.and_eq_true, decide_eq_true_eq] at hin
  have h1 := (foldMin fstA R 4096).2.1 w hw
  have h2 := (foldMax (fun w => lstB w - 1) R (-4096)).2.1 w hw
  have h3 := rows_ends hv hw
  simp only [lowX, highX] at hin
  omega
theorem sh_valid {R : List Row} (hv : validR R = true) (h0 : R ≠ []) {dx dy : Int} (hin : inB R dx dy = true) : validR (R.map (shRow dx dy)) = true := by
  have hb := inB_facts hv h0 hin
  refine validR_pw.2 ⟨fun w' hw' => ?_, ?_⟩
  · obtain ⟨w, hw, rfl⟩ := List.mem_map.1 hw'
    have hwb := hb w hw
    have hf := (row_fine hv hw).2
    obtain ⟨e1, e2, e3, _⟩ := row_ends hf
    obtain ⟨q1, q2, q3⟩ := fine_apart.1 hf
    refine ⟨by simp only [shRow]; omega, fine_apart.2 ⟨by simpa [shRow] using q1, ⟨fun r' hr' => ?_, ?_⟩, fun r' hr' => ?_⟩⟩
    · obtain ⟨r, hr, rfl⟩ := List.mem_map.1 hr'
      have := q2.1 r hr
      simp only [shRun]; omega
    · simp only [shRow]
      rw [List.pairwise_map]
      exact q2.2.imp fun h => by simp only [shRun]; omega
    · obtain ⟨r, hr, rfl⟩ := List.mem_map.1 hr'
      have := e1 r hr
      simp only [shRun]; omega
  · rw [List.pairwise_map]
    exact (rows_pw hv).imp fun h => by simp only [shRow]; omega
end Go.Proofs.YtgicofpllopjmaaDoor

namespace Go.Proofs.YtgicofpllopjmaaDoor
open Go.Abs

theorem run_of {f : Nat} {ds : List D} (h : hasT Tryd.prog (f + 2) 37 ds) : ∃ c : Run, ds = c.row := by
  obtain ⟨hl, hp⟩ := hasT_struct (n := 2) (ts := [3, 3]) Tryd.underlying37 (by kernel_rfl) rfl (by kernel_rfl) h
  obtain ⟨d0, r0, e0, h0, hp0⟩ := parts_one (by kernel_rfl) hp (by simp_all <;> omega)
  subst e0
  obtain ⟨d1, r1, e1, h1, hp1⟩ := parts_one (by kernel_rfl) hp0 (by simp_all <;> omega)
  subst e1
  simp only [parts] at hp1
  subst hp1
  obtain ⟨n0, e0, w0⟩ := hasT_int Tryd.underlying3 h0
  cases e0
  obtain ⟨n1, e1, w1⟩ := hasT_int Tryd.underlying3 h1
  cases e1
  exact ⟨⟨n0, n1⟩, rfl⟩
theorem runs_of {f : Nat} {d : D} (h : hasT Tryd.prog (f + 3) 38 [d]) : ∃ l : List Run, d = encRuns l := by
  obtain ⟨rows, he, _, hr⟩ := hasT_slice Tryd.underlying38 h
  cases he
  obtain ⟨l, rfl⟩ := rows_of (row := Run.row) fun r hr' => run_of (hr r hr')
  exact ⟨l, rfl⟩
theorem regrows_of {f : Nat} {d : D} (h : hasT Tryd.prog (f + 5) 22 [d]) : ∃ l : List Row, d = encRows l := by
  obtain ⟨rows, he, _, hr⟩ := hasT_slice Tryd.underlying22 h
  cases he
  obtain ⟨l, rfl⟩ := rows_of (row := Row.row) fun r hr' => by
    obtain ⟨hl, hp⟩ := hasT_struct (n := 2) (ts := [3, 38]) Tryd.underlying40 (by kernel_rfl) rfl (by kernel_rfl) (hr r hr')
    obtain ⟨d0, r0, e0, h0, hp0⟩ := parts_one (by kernel_rfl) hp (by simp_all <;> omega)
    subst e0
    obtain ⟨d1, r1, e1, h1, hp1⟩ := parts_one (by kernel_rfl) hp0 (by simp_all <;> omega)
    subst e1
    simp only [parts] at hp1
    subst hp1
    obtain ⟨n0, e0, w0⟩ := hasT_int Tryd.underlying3 h0
    cases e0
    obtain ⟨c, rfl⟩ := runs_of h1
    exact ⟨⟨n0, c⟩, rfl⟩
  exact ⟨l, rfl⟩
theorem region_of {f : Nat} {ds : List D} (h : hasT Tryd.prog (f + 6) 24 ds) : ∃ l : List Row, ds = regRow l := by
  obtain ⟨hl, hp⟩ := hasT_struct (n := 1) (ts := [22]) Tryd.underlying24 (by kernel_rfl) rfl (by kernel_rfl) h
  obtain ⟨d0, r0, e0, h0, hp0⟩ := parts_one (by kernel_rfl) hp (by simp_all <;> omega)
  subst e0
  simp only [parts] at hp0
  subst hp0
  obtain ⟨c, rfl⟩ := regrows_of h0
  exact ⟨c, rfl⟩

theorem arg_region {x : D} (h : hasV Tryd.prog 24 x) : ∃ R : List Row, x = .agg (regRow R) := by
  simp only [hasV, Tryd.underlying24] at h
  obtain ⟨cs, rfl, h⟩ := h
  obtain ⟨s, rfl⟩ := region_of (f := 24) h
  exact ⟨s, rfl⟩
theorem arg_int {x : D} (h : hasV Tryd.prog 3 x) : ∃ n : Int, x = .int .i64 n := by
  obtain ⟨n, rfl, _⟩ := hasV_int Tryd.underlying3 h
  exact ⟨n, rfl⟩

theorem own : ownKnob Tryd.prog.godebug = none := by kernel_rfl
theorem laidOut : laidOutB Tryd.prog = true := by kernel_rfl
def zeroCell : Value := .agg #[.int .i64 0, .int .i64 0]
def zeroReg : Value := .agg #[.slice none 0 0]
end Go.Proofs.YtgicofpllopjmaaDoor

namespace Go.Proofs.YtgicofpllopjmaaDoor
open Go.Abs Go.ChangeShapes Go.WideShapes Go.ChangeAt Go.RowKit

def awL : List Cell := [⟨1, 0⟩, ⟨0, 0⟩, ⟨3, 0⟩, ⟨0, 2⟩]
def awS : List Cell := [⟨0, 0⟩, ⟨1, 0⟩, ⟨3, 0⟩, ⟨0, 2⟩]
def awR : List Row := [⟨0, [⟨0, 2⟩, ⟨3, 4⟩]⟩, ⟨2, [⟨0, 1⟩]⟩]
theorem aw_sort : sortY awL = awS := sortedY_uniq ((sortY_perm awL).trans (by decide)) (sortY_le awL) (by decide)
theorem aw_of : ofR awL = awR := by
  have h : awL.all onG = true := by decide
  unfold ofR
  rw [if_pos h, aw_sort]
  decide
theorem aw_e : ofE awL = 0 := by
  have h : awL.all onG = true := by decide
  unfold ofE
  rw [if_pos h]
theorem aw_count : countR awR = 4 := by decide
theorem awake18_ok : PC Tryd.prog 26 [] (.p (.bool true)) := by
  have c1 := of_ok awL (by decide)
  have hD : ofD awL = .tup [.agg (regRow (ofR awL)), .int .i64 (ofE awL)] := rfl
  rw [hD, aw_of, aw_e] at c1
  have c2 := count_ok awR ⟨by decide, by decide⟩
  rw [aw_count] at c2
  simp only [awL, awR, regRow] at c1 c2
  refine pc_of_awp cx (fn := Tryd.f26) (c := _) Tryd.func26 rfl rfl (Nat.le_of_ble_eq_true rfl) ?_
  rw [Tryd.ntmps26]; refine Nav.imp ?_
  refine awp_region cx [] fun K hK => ?_
  simp [push_cast]
  repeat (refine And.intro (by clear hK; intros; first | omega | (simp_all; done) | (simp_all <;> omega)) ?_)
  refine hK _ ?_; clear hK K; refine Nav.imp ?_
  refine awp_region cx [(4, .f (encCells awL)), (5, .p (.tup [.agg (regRow awR), .int .i64 0]))] fun K hK => ?_
  simp [push_cast, c1, awL, awR, Cell.row]
  repeat (refine And.intro (by clear hK; intros; first | omega | (simp_all; done) | (simp_all <;> omega)) ?_)
  refine hK _ ?_; clear hK K; refine Nav.imp ?_
  refine awp_region cx [(38, .p (.int .i64 4))] fun K hK => ?_
  simp [push_cast, c2, awR, Row.row, Run.row]
  repeat (refine And.intro (by clear hK; intros; first | omega | (simp_all; done) | (simp_all <;> omega)) ?_)
  refine hK _ ?_; clear hK K; refine Nav.imp ?_
  simp [push_cast]


end Go.Proofs.YtgicofpllopjmaaDoor

namespace Go.Proofs.YtgicofpllopjmaaDoor
open Go.Abs Go.Shelf

instance flagT : Flag := ⟨True⟩
theorem below_t {B : Nat} {w w' : World} (h : @Below flag0 B w w') : @Below flagT B w w' := by
  obtain ⟨h1, h2, h3, h4, h5⟩ := h
  exact @Below.mk flagT B w w' h1 ⟨h2.1, .inl trivial⟩ h3 h4 h5
theorem pcT {f : FuncId} {ds : List D} {r : Res} (h : @PC flag0 Tryd.prog f ds r) : @PC flagT Tryd.prog f ds r := by
  refine ⟨h.1, fun ro w vs hro hd => (h.2 ro w vs hro hd).mono ?_⟩
  rintro e w' ⟨v, h1, h2, h3⟩
  exact ⟨v, h1, below_t h2, h3⟩
def repeatS_ren : Go.Shelf.Ren := ⟨fun | 105 => 18 | 212 => 39 | 99 => 40 | 165 => 41 | 166 => 42 | 170 => 43 | 169 => 21 | 263 => 61 | 264 => 62 | 206 => 63 | 240 => 47 | 241 => 64 | 276 => 66 | 277 => 75 | n => n, fun | 9 => 9 | 3 => 3 | 4 => 4 | 20 => 20 | 0 => 0 | 46 => 73 | 109 => 74 | 5 => 5 | 72 => 50 | 76 => 55 | 51 => 97 | 146 => 98 | 53 => 100 | 148 => 101 | 70 => 47 | 37 => 48 | 75 => 54 | 127 => 83 | 164 => 103 | 80 => 57 | n => n, fun n => n⟩
theorem repeatS_lays : Lays.n105 Tryd.prog repeatS_ren where
  mixed := by kernel_rfl
  f99 := Tryd.func40.trans (congrArg some (by kernel_rfl))
  f105 := Tryd.func18.trans (congrArg some (by kernel_rfl))
  f165 := Tryd.func41.trans (congrArg some (by kernel_rfl))
  f166 := Tryd.func42.trans (congrArg some (by kernel_rfl))
  f169 := Tryd.func21.trans (congrArg some (by kernel_rfl))
  f170 := Tryd.func43.trans (congrArg some (by kernel_rfl))
  f206 := Tryd.func63.trans (congrArg some (by kernel_rfl))
  f212 := Tryd.func39.trans (congrArg some (by kernel_rfl))
  f240 := Tryd.func47.trans (congrArg some (by kernel_rfl))
  f241 := Tryd.func64.trans (congrArg some (by kernel_rfl))
  f263 := Tryd.func61.trans (congrArg some (by kernel_rfl))
  f264 := Tryd.func62.trans (congrArg some (by kernel_rfl))
  f276 := Tryd.func66.trans (congrArg some (by kernel_rfl))
  f277 := Tryd.func75.trans (congrArg some (by kernel_rfl))
  t0 := Tryd.underlying0
  a0 := Tryd.isAgg0
  z0 := Tryd.sizeOf0
  v0 := Tryd.zeroValue0
  t3 := Tryd.underlying3
  a3 := Tryd.isAgg3
  z3 := Tryd.sizeOf3
  v3 := Tryd.zeroValue3
  t4 := Tryd.underlying4
  a4 := Tryd.isAgg4
  z4 := Tryd.sizeOf4
  v4 := Tryd.zeroValue4
  t5 := Tryd.underlying5
  a5 := Tryd.isAgg5
  z5 := Tryd.sizeOf5
  v5 := Tryd.zeroValue5
  t9 := Tryd.underlying9
  a9 := Tryd.isAgg9
  z9 := Tryd.sizeOf9
  v9 := Tryd.zeroValue9
  t20 := Tryd.underlying20
  a20 := Tryd.isAgg20
  z20 := Tryd.sizeOf20
  v20 := Tryd.zeroValue20
  t37 := Tryd.underlying48
  a37 := Tryd.isAgg48
  z37 := Tryd.sizeOf48
  v37 := Tryd.zeroValue48
  t46 := Tryd.underlying73
  a46 := Tryd.isAgg73
  z46 := Tryd.sizeOf73
  v46 := Tryd.zeroValue73
  t51 := Tryd.underlying97
  a51 := Tryd.isAgg97
  z51 := Tryd.sizeOf97
  v51 := Tryd.zeroValue97
  t53 := Tryd.underlying100
  a53 := Tryd.isAgg100
  z53 := Tryd.sizeOf100
  v53 := Tryd.zeroValue100
  t70 := Tryd.underlying47
  a70 := Tryd.isAgg47
  z70 := Tryd.sizeOf47
  v70 := Tryd.zeroValue47
  t72 := Tryd.underlying50
  a72 := Tryd.isAgg50
  z72 := Tryd.sizeOf50
  v72 := Tryd.zeroValue50
  t75 := Tryd.underlying54
  a75 := Tryd.isAgg54
  z75 := Tryd.sizeOf54
  v75 := Tryd.zeroValue54
  t76 := Tryd.underlying55
  a76 := Tryd.isAgg55
  z76 := Tryd.sizeOf55
  v76 := Tryd.zeroValue55
  t109 := Tryd.underlying74
  a109 := Tryd.isAgg74
  z109 := Tryd.sizeOf74
  v109 := Tryd.zeroValue74
  t127 := Tryd.underlying83
  a127 := Tryd.isAgg83
  z127 := Tryd.sizeOf83
  v127 := Tryd.zeroValue83
  t146 := Tryd.underlying98
  a146 := Tryd.isAgg98
  z146 := Tryd.sizeOf98
  v146 := Tryd.zeroValue98
  t148 := Tryd.underlying101
  a148 := Tryd.isAgg101
  z148 := Tryd.sizeOf101
  v148 := Tryd.zeroValue101
  t164 := Tryd.underlying103
  a164 := Tryd.isAgg103
  z164 := Tryd.sizeOf103
  v164 := Tryd.zeroValue103
theorem copyS_lays : Lays.n240 Tryd.prog repeatS_ren := { repeatS_lays with }
theorem stringS_lays : Lays.n169 Tryd.prog repeatS_ren := { repeatS_lays with }
theorem repeatS_x : Builder.Extra Tryd.prog repeatS_ren where
  sizeBuilder := by kernel_rfl
  liesBuilder := by kernel_rfl
  t5 := Tryd.underlying5
  a5 := Tryd.isAgg5
  z5 := Tryd.sizeOf5
  v5 := Tryd.zeroValue5
  infoByte := by kernel_rfl
  cellsByte := by kernel_rfl
  sizeByte := by kernel_rfl
  neB5 := by decide
theorem repeat_ok (c : UInt8) (n : Nat) (h1 : 1 ≤ n) (hn : n ≤ 140737488355328) : PC Tryd.prog 18 [strD [c], .int .i64 n] (.p (strD (List.replicate n c))) :=
  repeat_pc trivial repeatS_lays repeatS_x ⟨_, Tryd.func18, by kernel_rfl, by kernel_rfl⟩ c n h1 hn
theorem copyNew_ok : PX Tryd.prog 47 [.ptr 0 0 0] [(0, ⟨50, 2, [[.d .np, .nl]]⟩)] [(0, 0)] [(0, ⟨50, 2, [[.ptr 0 0 0, .nl]]⟩)] (.tup []) :=
  copyNew_px copyS_lays repeatS_x.toX72 ⟨_, Tryd.func47, by kernel_rfl, by kernel_rfl⟩ (Nat.le_of_ble_eq_true (by kernel_rfl)) (by kernel_rfl) (by decide)
theorem copyUsed_ok (n : Nat) (rows : List (List AV)) : PX Tryd.prog 47 [.ptr 0 0 0] [(0, ⟨50, 2, [[.ptr 0 0 0, .hs 1 0 n]]⟩), (1, ⟨5, 1, rows⟩)] [(0, 0), (1, 1)] [(0, ⟨50, 2, [[.ptr 0 0 0, .hs 1 0 n]]⟩), (1, ⟨5, 1, rows⟩)] (.tup []) :=
  copyUsed_px copyS_lays repeatS_x.toX72 ⟨_, Tryd.func47, by kernel_rfl, by kernel_rfl⟩ 5 n rows
theorem string_ok (p : AV) (l : List UInt8) (h0 : l ≠ []) : PX Tryd.prog 21 [.ptr 0 0 0] [(0, ⟨50, 2, [[p, .hs 1 0 l.length]]⟩), (1, ⟨5, 1, dr (l.map bRow)⟩)] [] [] (.d (strD l)) :=
  string_px stringS_lays repeatS_x ⟨_, Tryd.func21, by kernel_rfl, by kernel_rfl⟩ (by decide) p l h0
end Go.Proofs.YtgicofpllopjmaaDoor

namespace Go.Proofs.YtgicofpllopjmaaDoor
open Go.Abs Go.Shelf

abbrev bld (n : Nat) : List (Nat × Ob) := [(0, ⟨50, 2, [[.ptr 0 0 0, .hs 1 0 n]]⟩)]
set_option maxHeartbeats 2000000 in
theorem writeNew_px (l : List UInt8) (h0 : l ≠ []) (hl : l.length ≤ 1000000) :
    PX Tryd.prog 20 [.ptr 0 0 0, .d (.sl (l.map bRow))] [(0, ⟨50, 2, [[.d .np, .nl]]⟩)] [(0, 0)] [(0, ⟨50, 2, [[.ptr 0 0 0, .hs 1 0 l.length]]⟩), (1, ⟨5, 1, dr (l.map bRow)⟩)] .any := by
  have c1 := copyNew_ok
  have h16 : l.length * 1 ≤ 140737488355328 := by omega
  have h17 : l.length ≤ 140737488355328 := by omega
  refine px_of_awp cx (fn := Tryd.f20) (c := _) 1 Tryd.func20 rfl rfl (Nat.le_of_ble_eq_true rfl) rfl rfl fun Ls => ?_
  rw [Tryd.ntmps20]; refine Nav.imp ?_
  refine awp_region cx [] fun K hK => ?_
  simp [push_cast]
  repeat (refine And.intro (by clear hK; intros; first | omega | (simp_all; done) | (simp_all <;> omega)) ?_)
  refine hK _ ?_; clear hK K; refine Nav.imp ?_
  refine awp_region cx [(1, .x ⟨[(0, 0)], [.ptr 0 0 0], [(0, ⟨50, 2, [[.d .np, .nl]]⟩)], [(0, 0)], none, [(0, ⟨50, 2, [[.ptr 0 0 0, .nl]]⟩)], .tup []⟩)] fun K hK => ?_
  simp [push_cast, c1]
  repeat (refine And.intro (by clear hK; intros; first | omega | (simp_all; done) | (simp_all <;> omega)) ?_)
  refine hK _ ?_; clear hK K; refine Nav.imp ?_
  refine awp_region cx [] fun K hK => ?_
  simp [push_cast, h16, h17]
  repeat (refine And.intro (by clear hK; intros; first | omega | (simp_all; done) | (simp_all <;> omega)) ?_)
  refine hK _ ?_; clear hK K; refine Nav.imp ?_
  refine awp_region cx [] fun K hK => ?_
  simp [push_cast]
  repeat (refine And.intro (by clear hK; intros; first | omega | (simp_all; done) | (simp_all <;> omega)) ?_)
  refine hK _ ?_; clear hK K; refine Nav.imp ?_
  first | refine rx_r [(0, 0), (1, 11)] ?_ | refine rx_n [(0, 0), (1, 11)] ?_
  simp [push_cast]
  try decide
set_option maxHeartbeats 2000000 in
theorem writeUsed_px (m l : List UInt8) (h0 : m ≠ []) (hl : m.length + l.length ≤ 1000000) :
    PX Tryd.prog 20 [.ptr 0 0 0, .d (.sl (l.map bRow))] [(0, ⟨50, 2, [[.ptr 0 0 0, .hs 1 0 m.length]]⟩), (1, ⟨5, 1, dr (m.map bRow)⟩)] [(0, 0)] [(0, ⟨50, 2, [[.ptr 0 0 0, .hs 1 0 (m ++ l).length]]⟩), (1, ⟨5, 1, dr ((m ++ l).map bRow)⟩)] .any := by
  have c1 := copyUsed_ok m.length (dr (m.map bRow))
  have h16 : (m.length + l.length) * 1 ≤ 140737488355328 := by omega
  have h17 : m.length + l.length ≤ 140737488355328 := by omega
  refine px_of_awp cx (fn := Tryd.f20) (c := _) 2 Tryd.func20 rfl rfl (Nat.le_of_ble_eq_true rfl) rfl rfl fun Ls => ?_
  rw [Tryd.ntmps20]; refine Nav.imp ?_
  refine awp_region cx [] fun K hK => ?_
  simp [push_cast]
  repeat (refine And.intro (by clear hK; intros; first | omega | (simp_all; done) | (simp_all <;> omega)) ?_)
  refine hK _ ?_; clear hK K; refine Nav.imp ?_
  refine awp_region cx [(1, .x ⟨[(0, 0), (1, 1)], [.ptr 0 0 0], [(0, ⟨50, 2, [[.ptr 0 0 0, .hs 1 0 m.length]]⟩), (1, ⟨5, 1, dr (m.map bRow)⟩)], [(0, 0), (1, 1)], none, [(0, ⟨50, 2, [[.ptr 0 0 0, .hs 1 0 m.length]]⟩), (1, ⟨5, 1, dr (m.map bRow)⟩)], .tup []⟩)] fun K hK => ?_
  simp [push_cast, c1]
  repeat (refine And.intro (by clear hK; intros; first | omega | (simp_all; done) | (simp_all <;> omega)) ?_)
  refine hK _ ?_; clear hK K; refine Nav.imp ?_
  refine awp_region cx [] fun K hK => ?_
  simp [push_cast, h16, h17]
  repeat (refine And.intro (by clear hK; intros; first | omega | (simp_all; done) | (simp_all <;> omega)) ?_)
  refine hK _ ?_; clear hK K; refine Nav.imp ?_
  refine awp_region cx [] fun K hK => ?_
  simp [push_cast]
  repeat (refine And.intro (by clear hK; intros; first | omega | (simp_all; done) | (simp_all <;> omega)) ?_)
  refine hK _ ?_; clear hK K; refine Nav.imp ?_
  first | refine rx_r [(0, 0), (1, 12)] ?_ | refine rx_n [(0, 0), (1, 12)] ?_
  simp [push_cast]
  try decide
end Go.Proofs.YtgicofpllopjmaaDoor

namespace Go.Proofs.YtgicofpllopjmaaDoor
open Go.Abs Go.Shelf

def lnP (l : List Run) (ax : Int) (w : Nat) : List UInt8 := (List.range w).map (fun k : Nat => if inR l (ax + (k : Int)) then (35 : UInt8) else 46) ++ [10]
theorem lnP_len (l : List Run) (ax : Int) (w : Nat) : (lnP l ax w).length = w + 1 := by simp [lnP]
theorem lnP_nil (ax : Int) (w : Nat) : lnP [] ax w = List.replicate w 46 ++ [10] := by
  unfold lnP
  congr 1
  exact List.ext_getElem (by simp) fun i h1 h2 => by simp [inR]
theorem lnP_row (R : List Row) (ax y : Int) (w : Nat) : lnP (rowOf R y) ax w = plin R ax y w ++ [10] := rfl
theorem lnP_ext {l l' : List Run} (ax : Int) (w : Nat) (h : ∀ x, inR l x = inR l' x) : lnP l ax w = lnP l' ax w := by
  unfold lnP
  simp only [h]
theorem inR_app3 (l m : List Run) (x : Int) : inR (l ++ m) x = (inR l x || inR m x) := by simp [inR]
theorem lnP_start (l : List Run) (a ax : Int) (w : Nat) : lnP (l ++ [⟨a, a⟩]) ax w = lnP l ax w := lnP_ext ax w fun x => by
  rw [inR_app3]
  have : inR [⟨a, a⟩] x = false := by simp [inR]
  rw [this, Bool.or_false]
theorem dr_get (l : List UInt8) (k : Nat) (h : k < (dr (l.map bRow)).length) : (dr (l.map bRow))[k] = [AV.d (.int .u8 (l[k]'(by simpa [dr] using h)).toNat)] := by simp [dr]
theorem lnP_step (l : List Run) (a x ax : Int) (w k : Nat) (hk : k < w) (hx : x = ax + k) (ha : a ≤ x) : (lnP (l ++ [⟨a, x⟩]) ax w).set k 35 = lnP (l ++ [⟨a, x + 1⟩]) ax w := by
  unfold lnP
  rw [List.set_append_left _ _ (by simpa using hk)]
  congr 1
  apply List.ext_getElem?
  intro i
  rw [List.getElem?_set]
  by_cases hi : i < w
  · by_cases e : k = i
    · subst e
      rw [if_pos rfl, if_pos (by simpa using hk)]
      simp only [List.getElem?_map, List.getElem?_range hi, Option.map_some]
      rw [if_pos]
      rw [inR_app3]
      simp [inR]
      right
      omega
    · rw [if_neg e]
      simp only [List.getElem?_map, List.getElem?_range hi, Option.map_some]
      have h1 : inR [(⟨a, x⟩ : Run)] (ax + (i : Int)) = inR [(⟨a, x + 1⟩ : Run)] (ax + (i : Int)) := by
        have hne : ax + (i : Int) ≠ x := by omega
        generalize ax + (i : Int) = z at *
        rw [Bool.eq_iff_iff]
        simp only [inR, List.any_cons, List.any_nil, Bool.or_false, Bool.and_eq_true, decide_eq_true_eq]
        omega
      rw [inR_app3, inR_app3, h1]
  · by_cases e : k = i
    · omega
    · rw [if_neg e, List.getElem?_eq_none (by simp; omega), List.getElem?_eq_none (by simp; omega)]
theorem row_rng {R : List Row} (hv : validR R = true) {y : Int} {r : Run} (hr : r ∈ rowOf R y) : lowX R ≤ r.a ∧ r.a ≤ r.b ∧ r.b ≤ highX R + 1 := by
  rcases rowOf_cases hv y with ⟨w, hw, _, e⟩ | ⟨_, e⟩
  · rw [e] at hr
    obtain ⟨k, hk, rfl⟩ := List.mem_iff_getElem.1 hw
    have h1 := row_box hv (List.getElem?_eq_getElem hk)
    have hf := (row_fine hv (List.getElem_mem hk)).2
    have h2 := (row_ends0 hf).1 r hr
    obtain ⟨i, hi, rfl⟩ := List.mem_iff_getElem.1 hr
    have h3 := fine_at hf (List.getElem?_eq_getElem hi)
    omega
  · rw [e] at hr; cases hr
set_option maxHeartbeats 8000000 in
theorem picture_ok (R : List Row) (hR : smallR R) : PC Tryd.prog 8 [.agg (regRow R)] (.p (strD (picS R))) := by
  have c1 := pcT (box_ok R hR)
  have hl := hR.1
  have hB : boxD R = .tup [.agg (boxLo R).row, .agg (boxHi R).row, .bool (some? R)] := rfl
  rw [hB] at c1
  clear hB
  by_cases hs : some? R = true
  · obtain ⟨b1, b2, hv, hp, r1, r2, r3, r4, r5, r6, r7, r8⟩ := pic_facts hs
    have hP : picS R = if (widR R + 1) * higR R ≤ 65536 then pics R (lowX R) (lstY R) (widR R) (higR R) else [] := by
      unfold picS
      simp [hs]
    rw [b1, b2, hs] at c1
    rw [hP]
    have row_rng2 := fun (r : Run) (y : Int) (hr : r ∈ rowOf R y) => row_rng hv hr
    clear b1 b2 hP hs
    generalize lowX R = ax at *
    generalize fstY R = ay at *
    generalize highX R = bx at *
    generalize lstY R = by0 at *
    generalize widR R = w at *
    generalize higR R = h at *
    have hpr : (bx - ax + 2) * (by0 - ay + 1) = (((w + 1) * h : Nat) : Int) := by
      rw [r2, r6]
      push_cast
      congr 1 <;> omega
    have hmx : (w + 1) * h ≤ 8193 * 8192 := Nat.mul_le_mul (by omega) (by omega)
    have hcm := Nat.mul_comm (w + 1) h
    generalize (w + 1) * h = pr at *
    have g1 := wrap_i64 (n := bx - ax) (by omega) (by omega)
    have g2 := wrap_i64 (n := bx - ax + 2) (by omega) (by omega)
    have g3 := wrap_i64 (n := by0 - ay) (by omega) (by omega)
    have g4 := wrap_i64 (n := by0 - ay + 1) (by omega) (by omega)
    have g5 := wrap_i64 (n := (bx - ax + 2) * (by0 - ay + 1)) (by omega) (by omega)
    by_cases hbig : pr ≤ 65536
    · rw [if_pos hbig]
      have hb2 : decide ((65536 : Int) < (bx - ax + 2) * (by0 - ay + 1)) = false := by rw [hpr]; simp; omega
      have hwh : h * (w + 1) ≤ 65536 := by omega
      refine pc_of_awp cx (fn := Tryd.f8) (c := _) Tryd.func8 rfl rfl (Nat.le_of_ble_eq_true rfl) ?_
      rw [Tryd.ntmps8]; refine Nav.imp ?_
      refine awp_region cx [] fun K hK => ?_
      simp [push_cast]
      repeat (refine And.intro (by clear hK; intros; first | omega | (simp_all; done) | (simp_all <;> omega)) ?_)
      refine hK _ ?_; clear hK K; refine Nav.imp ?_
      refine awp_region cx [(1, .p (.tup [.agg [.int .i64 ax, .int .i64 ay], .agg [.int .i64 bx, .int .i64 by0], .bool true]))] fun K hK => ?_
      simp [push_cast, c1]
      repeat (refine And.intro (by clear hK; intros; first | omega | (simp_all; done) | (simp_all <;> omega)) ?_)
      refine hK _ ?_; clear hK K; refine Nav.imp ?_
      refine awp_region cx [] fun K hK => ?_
      simp [push_cast, g1, g2, g3, g4, g5]
      repeat (refine And.intro (by clear hK; intros; first | omega | (simp_all; done) | (simp_all <;> omega)) ?_)
      refine hK _ ?_; clear hK K; refine Nav.imp ?_
      refine awp_cond (b := false) (by simp [push_cast, hb2]) (fun hb => ?_) (fun hb => ?_) <;> (refine Nav.imp ?_)
      · simp at hb
      · refine awp_region cx [] fun K hK => ?_
        simp [push_cast]
        repeat (refine And.intro (by clear hK; intros; first | omega | (simp_all; done) | (simp_all <;> omega)) ?_)
        refine hK _ ?_; clear hK K; refine Nav.imp ?_
        refine awp_region cx [] fun K hK => ?_
        simp [push_cast]
        repeat (refine And.intro (by clear hK; intros; first | omega | (simp_all; done) | (simp_all <;> omega)) ?_)
        refine hK _ ?_; clear hK K; refine Nav.imp ?_
        refine awp_loop (β := Nat) (fun j => ⟨79, [(1, .ptr 0 0 0), (3, .ptr 1 0 0), (4, .ptr 2 0 0), (6, .ptr 3 0 0), (7, .d (.int .i64 (by0 - (j : Int))))], if (pics R ax by0 w j) = [] then [(0, some ⟨24, 1, [(regRow R).map .d]⟩), (1, some ⟨29, 2, [[.d (.int .i64 ax), .d (.int .i64 ay)]]⟩), (2, some ⟨29, 2, [[.d (.int .i64 bx), .d (.int .i64 by0)]]⟩), (3, some ⟨50, 2, [[.d .np, .nl]]⟩)] else [(0, some ⟨24, 1, [(regRow R).map .d]⟩), (1, some ⟨29, 2, [[.d (.int .i64 ax), .d (.int .i64 ay)]]⟩), (2, some ⟨29, 2, [[.d (.int .i64 bx), .d (.int .i64 by0)]]⟩), (3, some ⟨50, 2, [[.ptr 3 0 0, .hs 4 0 (pics R ax by0 w j).length]]⟩), (4, some ⟨5, 1, dr ((pics R ax by0 w j).map bRow)⟩)], 5⟩) (fun j => j ≤ h) (fun j => h - j) 0 ?_ (Nat.zero_le _) ?_
        · simp only [show pics R ax by0 w 0 = [] from rfl, if_true, Int.natCast_zero, Int.sub_zero]
          refine weak_of [(0, some 0), (1, some 8), (2, some 9), (3, some 31)] rfl (by simp [upT, up, upL, push_cast]) (by simp [upH, upR, upL, up, push_cast]) (by simp [namesOk, push_cast]) (by simp [olds])
        · intro j hj
          have hAl := pics_len R ax by0 w j
          have hAm : j * (w + 1) ≤ h * (w + 1) := Nat.mul_le_mul_right _ hj
          generalize hA : pics R ax by0 w j = A at *
          by_cases hA0 : A = []
          · simp only [if_pos hA0]
            refine Nav.imp ?_
            refine awp_region cx [] fun K hK => ?_
            simp [push_cast]
            repeat (refine And.intro (by clear hK; intros; first | omega | (simp_all; done) | (simp_all <;> omega)) ?_)
            refine hK _ ?_; clear hK K; refine Nav.imp ?_
            refine awp_cond (b := decide (ay ≤ by0 - (j : Int))) (by simp [push_cast]) (fun hb => ?_) (fun hb => ?_) <;> (refine Nav.imp ?_)
            · have hlt : j < h := by
                have : ay ≤ by0 - (j : Int) := by simpa using hb
                omega
              have e0 := wrap_i64 (n := by0 - ((j : Int) + 1)) (by omega) (by omega)
              have e1 : by0 - (j : Int) - 1 = by0 - ((j : Int) + 1) := by omega
              have c3 := pcT (row_ok R (by0 - (j : Int)) hR hv)
              have hrl := rowOf_len2 hR (by0 - (j : Int))
              have hrg := fun (r : Run) (hr : r ∈ rowOf R (by0 - (j : Int))) => row_rng2 r (by0 - (j : Int)) hr
              have hnx := pics_next R ax by0 w j
              have hln := lnP_row R ax (by0 - (j : Int)) w
              have hmul : (j + 1) * (w + 1) ≤ h * (w + 1) := Nat.mul_le_mul_right _ hlt
              rw [Nat.succ_mul] at hmul
              rw [← hln] at hnx
              have c4 := repeat_ok 46 w r3 (by omega)
              have o1 := fun (x y : Operand) (yt : TypeId) => opres_add (P := Tryd.prog) (x := x) (y := y) (yt := yt) str_und (List.replicate w 46) [10] (by simp; omega)
              rw [← lnP_nil ax w] at o1
              have o2 := fun (x : Operand) => opres_bytes (P := Tryd.prog) (x := x) str_und bytes_und u8_und (lnP [] ax w) (by rw [lnP_len]; unfold maxLen; omega)
              have g6 := wrap_i64 (n := bx - ax + 1) (by omega) (by omega)
              have g7 : bx - ax + 1 = (w : Int) := by omega
              refine awp_region cx [(6, .p (strD (List.replicate w 46))), (7, .p (strD (lnP [] ax w))), (8, .o strE 1 ((lnP [] ax w).map bRow))] fun K hK => ?_
              simp [push_cast, c4, o1, o2, g1, g6, g7]
              repeat (refine And.intro (by clear hK; intros; first | omega | (simp_all; done) | (simp_all <;> omega)) ?_)
              refine hK _ ?_; clear hK K; refine Nav.imp ?_
              refine awp_region cx [(2, .p (encRuns (rowOf R (by0 - (j : Int)))))] fun K hK => ?_
              simp [push_cast, c3]
              repeat (refine And.intro (by clear hK; intros; first | omega | (simp_all; done) | (simp_all <;> omega)) ?_)
              refine hK _ ?_; clear hK K; refine Nav.imp ?_
              have hl0 := fun l => lnP_len l ax w
              generalize rowOf R (by0 - (j : Int)) = rs at *
              refine awp_loop (β := Nat) (fun i => ⟨79, [(1, .ptr 0 0 0), (3, .ptr 1 0 0), (4, .ptr 2 0 0), (6, .ptr 3 0 0), (7, .d (.int .i64 (by0 - (j : Int)))), (8, .hs 5 0 (w + 1)), (55, .d (encRuns rs)), (56, .d (.int .i64 rs.length)), (57, .d (.int .i64 i))], [(0, some ⟨24, 1, [(regRow R).map .d]⟩), (1, some ⟨29, 2, [[.d (.int .i64 ax), .d (.int .i64 ay)]]⟩), (2, some ⟨29, 2, [[.d (.int .i64 bx), .d (.int .i64 by0)]]⟩), (3, some ⟨50, 2, [[.d .np, .nl]]⟩), (5, some ⟨strE, 1, dr ((lnP (rs.take i) ax w).map bRow)⟩)], 6⟩) (fun i => i ≤ rs.length) (fun i => rs.length - i) 0 ?_ (Nat.zero_le _) ?_
              · simp only [List.take_zero]
                refine weak_of [(0, some 0), (1, some 1), (2, some 2), (3, some 3), (5, some 17)] rfl (by simp [upT, up, upL, push_cast, hl0]) (by simp [upH, upR, upL, up, push_cast, hl0]) (by simp [namesOk, push_cast]) (by simp [olds])
              · intro i hi
                refine Nav.imp ?_
                refine awp_region cx [] fun K hK => ?_
                simp [push_cast]
                repeat (refine And.intro (by clear hK; intros; first | omega | (simp_all; done) | (simp_all <;> omega)) ?_)
                refine hK _ ?_; clear hK K; refine Nav.imp ?_
                refine awp_cond (b := decide ((i : Int) < rs.length)) (by simp [push_cast]) (fun hb => ?_) (fun hb => ?_) <;> (refine Nav.imp ?_)
                · have hil : i < rs.length := by simpa using hb
                  obtain ⟨⟨ra, rb⟩, hr⟩ := getq hil
                  obtain ⟨k1, k2, k3⟩ := hrg _ (List.mem_of_getElem? hr)
                  simp only at k1 k2 k3
                  have f0 := wrap_i64 (n := (i : Int) + 1) (by omega) (by omega)
                  refine awp_region cx [] fun K hK => ?_
                  simp [push_cast, hr, Run.row]
                  repeat (refine And.intro (by clear hK; intros; first | omega | (simp_all; done) | (simp_all <;> omega)) ?_)
                  refine hK _ ?_; clear hK K; refine Nav.imp ?_
                  refine awp_region cx [] fun K hK => ?_
                  simp [push_cast]
                  repeat (refine And.intro (by clear hK; intros; first | omega | (simp_all; done) | (simp_all <;> omega)) ?_)
                  refine hK _ ?_; clear hK K; refine Nav.imp ?_
                  refine awp_loop (β := Nat) (fun q => ⟨79, [(1, .ptr 0 0 0), (3, .ptr 1 0 0), (4, .ptr 2 0 0), (6, .ptr 3 0 0), (7, .d (.int .i64 (by0 - (j : Int)))), (8, .hs 5 0 (w + 1)), (55, .d (encRuns rs)), (56, .d (.int .i64 rs.length)), (57, .d (.int .i64 i)), (10, .ptr 6 0 0), (11, .d (.int .i64 (ra + (q : Int))))], [(0, some ⟨24, 1, [(regRow R).map .d]⟩), (1, some ⟨29, 2, [[.d (.int .i64 ax), .d (.int .i64 ay)]]⟩), (2, some ⟨29, 2, [[.d (.int .i64 bx), .d (.int .i64 by0)]]⟩), (3, some ⟨50, 2, [[.d .np, .nl]]⟩), (5, some ⟨strE, 1, dr ((lnP (rs.take i ++ [⟨ra, ra + (q : Int)⟩]) ax w).map bRow)⟩), (6, some ⟨37, 2, [[.d (.int .i64 ra), .d (.int .i64 rb)]]⟩)], 7⟩) (fun q => ra + (q : Int) ≤ rb) (fun q => (rb - ra).toNat - q) 0 ?_ (by simp; omega) ?_
                  · simp only [Int.natCast_zero, Int.add_zero, lnP_start]
                    refine weak_of [(0, some 0), (1, some 1), (2, some 2), (3, some 3), (5, some 5), (6, some 9)] rfl (by simp [upT, up, upL, push_cast]) (by simp [upH, upR, upL, up, push_cast]) (by simp [namesOk, push_cast]) (by simp [olds])
                  · intro q hq
                    refine Nav.imp ?_
                    refine awp_region cx [] fun K hK => ?_
                    simp [push_cast]
                    repeat (refine And.intro (by clear hK; intros; first | omega | (simp_all; done) | (simp_all <;> omega)) ?_)
                    refine hK _ ?_; clear hK K; refine Nav.imp ?_
                    refine awp_cond (b := decide (ra + (q : Int) < rb)) (by simp [push_cast]) (fun hb => ?_) (fun hb => ?_) <;> (refine Nav.imp ?_)
                    · have hlt2 : ra + (q : Int) < rb := by simpa using hb
                      obtain ⟨k, hk⟩ : ∃ k : Nat, ra + (q : Int) - ax = k := ⟨(ra + (q : Int) - ax).toNat, by omega⟩
                      have hkw : k < w := by omega
                      have hst := lnP_step (rs.take i) ra (ra + q) ax w k hkw (by omega) (by omega)
                      have hst2 : ((lnP (rs.take i ++ [⟨ra, ra + (q : Int)⟩]) ax w).map bRow).set k [.int .u8 35] = (lnP (rs.take i ++ [⟨ra, ra + (q : Int) + 1⟩]) ax w).map bRow := by
                        rw [← hst, List.map_set]
                        rfl
                      have hst3 : (dr ((lnP (rs.take i ++ [⟨ra, ra + (q : Int)⟩]) ax w).map bRow)).set k [AV.d (.int .u8 35)] = dr ((lnP (rs.take i ++ [⟨ra, ra + (q : Int) + 1⟩]) ax w).map bRow) := by
                        rw [← hst2]
                        simp [dr, List.map_set]
                      have f1 := wrap_i64 (n := (k : Int)) (by omega) (by omega)
                      have f2 := wrap_i64 (n := ra + (q : Int) + 1) (by omega) (by omega)
                      have f3 : k < w + 1 := by omega
                      refine awp_region cx [] fun K hK => ?_
                      simp [push_cast, hk, f1, f3, hl0, dr_get, hst3]
                      repeat (refine And.intro (by clear hK; intros; first | omega | (simp_all; done) | (simp_all <;> omega)) ?_)
                      refine hK _ ?_; clear hK K; refine Nav.imp ?_
                      refine awp_region cx [] fun K hK => ?_
                      simp [push_cast, f2]
                      repeat (refine And.intro (by clear hK; intros; first | omega | (simp_all; done) | (simp_all <;> omega)) ?_)
                      refine hK _ ?_; clear hK K; refine Nav.imp ?_
                      refine ⟨q + 1, by push_cast; omega, by omega, ?_⟩
                      refine weak_of [(0, some 0), (1, some 1), (2, some 2), (3, some 3), (5, some 5), (6, some 6)] rfl (by simp [upT, up, upL, push_cast, Int.add_assoc]) (by simp [upH, upR, upL, up, push_cast, Int.add_assoc]) (by simp [namesOk, push_cast]) (by simp [olds])
                    · have hqe : ra + (q : Int) = rb := by
                        have : ¬ ra + (q : Int) < rb := by simpa using hb
                        omega
                      rw [hqe]
                      have htk : rs.take i ++ [(⟨ra, rb⟩ : Run)] = rs.take (i + 1) := (take_get hr).symm
                      rw [htk]
                      refine awp_region cx [] fun K hK => ?_
                      simp [push_cast, f0]
                      repeat (refine And.intro (by clear hK; intros; first | omega | (simp_all; done) | (simp_all <;> omega)) ?_)
                      refine hK _ ?_; clear hK K; refine Nav.imp ?_
                      refine ⟨i + 1, hil, by omega, ?_⟩
                      refine weak_of [(0, some 0), (1, some 1), (2, some 2), (3, some 3), (5, some 5)] rfl (by simp [upT, up, upL, push_cast]) (by simp [upH, upR, upL, up, push_cast]) (by simp [namesOk, push_cast]) (by simp [olds])
                · have hie : i = rs.length := by simp at hb; omega
                  rw [hie, List.take_length]
                  generalize hLL : lnP rs ax w = L at *
                  have hLl : L.length = w + 1 := by rw [← hLL]; exact hl0 rs
                  have hle : w + 1 ≤ L.length := by omega
                  have htk2 : List.take (w + 1) (L.map bRow) = L.map bRow := List.take_of_length_le (by simp; omega)
                  have hL0 : L ≠ [] := fun e => by rw [e] at hLl; simp at hLl
                  refine awp_freeze 5 (L.map bRow) rfl (by simp [push_cast]) fun K hK => ?_
                  simp [push_cast, St.fz, fzT, fzH, fzO, fz, fzL, fzR, fzR_dr, fzR_app, fzR_set, fzL_map]
                  refine hK _ ?_; clear hK K; refine Nav.imp ?_
                  have c5 := writeNew_px L hL0 (by omega)
                  refine awp_region cx [(1, .x ⟨[(0, 3)], [.ptr 0 0 0, .d (.sl (L.map bRow))], [(0, ⟨50, 2, [[.d .np, .nl]]⟩)], [(0, 0)], some 1, [(0, ⟨50, 2, [[.ptr 0 0 0, .hs 1 0 L.length]]⟩), (1, ⟨5, 1, dr (L.map bRow)⟩)], .any⟩)] fun K hK => ?_
                  simp [push_cast, c5, hle, htk2]
                  repeat (refine And.intro (by clear hK; intros; first | omega | (simp_all; done) | (simp_all <;> omega)) ?_)
                  refine hK _ ?_; clear hK K; refine Nav.imp ?_
                  refine awp_region cx [] fun K hK => ?_
                  simp [push_cast, e0, e1]
                  repeat (refine And.intro (by clear hK; intros; first | omega | (simp_all; done) | (simp_all <;> omega)) ?_)
                  refine hK _ ?_; clear hK K; refine Nav.imp ?_
                  refine ⟨j + 1, hlt, by omega, ?_⟩
                  rw [hnx, hA, hA0, List.nil_append]
                  simp only [if_neg hL0]
                  refine weak_of [(0, some 0), (1, some 1), (2, some 2), (3, some 3), (4, some 8)] rfl (by simp [upT, up, upL, push_cast]) (by simp [upH, upR, upL, up, push_cast]) (by simp [namesOk, push_cast]) (by simp [olds])
            · have hje : j = h := by
                have : ¬ ay ≤ by0 - (j : Int) := by simpa using hb
                omega
              exfalso
              have hp2 : 0 < h * (w + 1) := Nat.mul_pos (by omega) (by omega)
              rw [hA0, hje] at hAl
              simp only [List.length_nil] at hAl
              omega
          · simp only [if_neg hA0]
            refine Nav.imp ?_
            refine awp_region cx [] fun K hK => ?_
            simp [push_cast]
            repeat (refine And.intro (by clear hK; intros; first | omega | (simp_all; done) | (simp_all <;> omega)) ?_)
            refine hK _ ?_; clear hK K; refine Nav.imp ?_
            refine awp_cond (b := decide (ay ≤ by0 - (j : Int))) (by simp [push_cast]) (fun hb => ?_) (fun hb => ?_) <;> (refine Nav.imp ?_)
            · have hlt : j < h := by
                have : ay ≤ by0 - (j : Int) := by simpa using hb
                omega
              have e0 := wrap_i64 (n := by0 - ((j : Int) + 1)) (by omega) (by omega)
              have e1 : by0 - (j : Int) - 1 = by0 - ((j : Int) + 1) := by omega
              have c3 := pcT (row_ok R (by0 - (j : Int)) hR hv)
              have hrl := rowOf_len2 hR (by0 - (j : Int))
              have hrg := fun (r : Run) (hr : r ∈ rowOf R (by0 - (j : Int))) => row_rng2 r (by0 - (j : Int)) hr
              have hnx := pics_next R ax by0 w j
              have hln := lnP_row R ax (by0 - (j : Int)) w
              have hmul : (j + 1) * (w + 1) ≤ h * (w + 1) := Nat.mul_le_mul_right _ hlt
              rw [Nat.succ_mul] at hmul
              rw [← hln] at hnx
              have c4 := repeat_ok 46 w r3 (by omega)
              have o1 := fun (x y : Operand) (yt : TypeId) => opres_add (P := Tryd.prog) (x := x) (y := y) (yt := yt) str_und (List.replicate w 46) [10] (by simp; omega)
              rw [← lnP_nil ax w] at o1
              have o2 := fun (x : Operand) => opres_bytes (P := Tryd.prog) (x := x) str_und bytes_und u8_und (lnP [] ax w) (by rw [lnP_len]; unfold maxLen; omega)
              have g6 := wrap_i64 (n := bx - ax + 1) (by omega) (by omega)
              have g7 : bx - ax + 1 = (w : Int) := by omega
              refine awp_region cx [(6, .p (strD (List.replicate w 46))), (7, .p (strD (lnP [] ax w))), (8, .o strE 1 ((lnP [] ax w).map bRow))] fun K hK => ?_
              simp [push_cast, c4, o1, o2, g1, g6, g7]
              repeat (refine And.intro (by clear hK; intros; first | omega | (simp_all; done) | (simp_all <;> omega)) ?_)
              refine hK _ ?_; clear hK K; refine Nav.imp ?_
              refine awp_region cx [(2, .p (encRuns (rowOf R (by0 - (j : Int)))))] fun K hK => ?_
              simp [push_cast, c3]
              repeat (refine And.intro (by clear hK; intros; first | omega | (simp_all; done) | (simp_all <;> omega)) ?_)
              refine hK _ ?_; clear hK K; refine Nav.imp ?_
              have hl0 := fun l => lnP_len l ax w
              generalize rowOf R (by0 - (j : Int)) = rs at *
              refine awp_loop (β := Nat) (fun i => ⟨79, [(1, .ptr 0 0 0), (3, .ptr 1 0 0), (4, .ptr 2 0 0), (6, .ptr 3 0 0), (7, .d (.int .i64 (by0 - (j : Int)))), (8, .hs 5 0 (w + 1)), (55, .d (encRuns rs)), (56, .d (.int .i64 rs.length)), (57, .d (.int .i64 i))], [(0, some ⟨24, 1, [(regRow R).map .d]⟩), (1, some ⟨29, 2, [[.d (.int .i64 ax), .d (.int .i64 ay)]]⟩), (2, some ⟨29, 2, [[.d (.int .i64 bx), .d (.int .i64 by0)]]⟩), (3, some ⟨50, 2, [[.ptr 3 0 0, .hs 4 0 A.length]]⟩), (4, some ⟨5, 1, dr (A.map bRow)⟩), (5, some ⟨strE, 1, dr ((lnP (rs.take i) ax w).map bRow)⟩)], 6⟩) (fun i => i ≤ rs.length) (fun i => rs.length - i) 0 ?_ (Nat.zero_le _) ?_
              · simp only [List.take_zero]
                refine weak_of [(0, some 0), (1, some 1), (2, some 2), (3, some 3), (4, some 4), (5, some 17)] rfl (by simp [upT, up, upL, push_cast, hl0]) (by simp [upH, upR, upL, up, push_cast, hl0]) (by simp [namesOk, push_cast]) (by simp [olds])
              · intro i hi
                refine Nav.imp ?_
                refine awp_region cx [] fun K hK => ?_
                simp [push_cast]
                repeat (refine And.intro (by clear hK; intros; first | omega | (simp_all; done) | (simp_all <;> omega)) ?_)
                refine hK _ ?_; clear hK K; refine Nav.imp ?_
                refine awp_cond (b := decide ((i : Int) < rs.length)) (by simp [push_cast]) (fun hb => ?_) (fun hb => ?_) <;> (refine Nav.imp ?_)
                · have hil : i < rs.length := by simpa using hb
                  obtain ⟨⟨ra, rb⟩, hr⟩ := getq hil
                  obtain ⟨k1, k2, k3⟩ := hrg _ (List.mem_of_getElem? hr)
                  simp only at k1 k2 k3
                  have f0 := wrap_i64 (n := (i : Int) + 1) (by omega) (by omega)
                  refine awp_region cx [] fun K hK => ?_
                  simp [push_cast, hr, Run.row]
                  repeat (refine And.intro (by clear hK; intros; first | omega | (simp_all; done) | (simp_all <;> omega)) ?_)
                  refine hK _ ?_; clear hK K; refine Nav.imp ?_
                  refine awp_region cx [] fun K hK => ?_
                  simp [push_cast]
                  repeat (refine And.intro (by clear hK; intros; first | omega | (simp_all; done) | (simp_all <;> omega)) ?_)
                  refine hK _ ?_; clear hK K; refine Nav.imp ?_
                  refine awp_loop (β := Nat) (fun q => ⟨79, [(1, .ptr 0 0 0), (3, .ptr 1 0 0), (4, .ptr 2 0 0), (6, .ptr 3 0 0), (7, .d (.int .i64 (by0 - (j : Int)))), (8, .hs 5 0 (w + 1)), (55, .d (encRuns rs)), (56, .d (.int .i64 rs.length)), (57, .d (.int .i64 i)), (10, .ptr 6 0 0), (11, .d (.int .i64 (ra + (q : Int))))], [(0, some ⟨24, 1, [(regRow R).map .d]⟩), (1, some ⟨29, 2, [[.d (.int .i64 ax), .d (.int .i64 ay)]]⟩), (2, some ⟨29, 2, [[.d (.int .i64 bx), .d (.int .i64 by0)]]⟩), (3, some ⟨50, 2, [[.ptr 3 0 0, .hs 4 0 A.length]]⟩), (4, some ⟨5, 1, dr (A.map bRow)⟩), (5, some ⟨strE, 1, dr ((lnP (rs.take i ++ [⟨ra, ra + (q : Int)⟩]) ax w).map bRow)⟩), (6, some ⟨37, 2, [[.d (.int .i64 ra), .d (.int .i64 rb)]]⟩)], 7⟩) (fun q => ra + (q : Int) ≤ rb) (fun q => (rb - ra).toNat - q) 0 ?_ (by simp; omega) ?_
                  · simp only [Int.natCast_zero, Int.add_zero, lnP_start]
                    refine weak_of [(0, some 0), (1, some 1), (2, some 2), (3, some 3), (4, some 4), (5, some 5), (6, some 9)] rfl (by simp [upT, up, upL, push_cast]) (by simp [upH, upR, upL, up, push_cast]) (by simp [namesOk, push_cast]) (by simp [olds])
                  · intro q hq
                    refine Nav.imp ?_
                    refine awp_region cx [] fun K hK => ?_
                    simp [push_cast]
                    repeat (refine And.intro (by clear hK; intros; first | omega | (simp_all; done) | (simp_all <;> omega)) ?_)
                    refine hK _ ?_; clear hK K; refine Nav.imp ?_
                    refine awp_cond (b := decide (ra + (q : Int) < rb)) (by simp [push_cast]) (fun hb => ?_) (fun hb => ?_) <;> (refine Nav.imp ?_)
                    · have hlt2 : ra + (q : Int) < rb := by simpa using hb
                      obtain ⟨k, hk⟩ : ∃ k : Nat, ra + (q : Int) - ax = k := ⟨(ra + (q : Int) - ax).toNat, by omega⟩
                      have hkw : k < w := by omega
                      have hst := lnP_step (rs.take i) ra (ra + q) ax w k hkw (by omega) (by omega)
                      have hst2 : ((lnP (rs.take i ++ [⟨ra, ra + (q : Int)⟩]) ax w).map bRow).set k [.int .u8 35] = (lnP (rs.take i ++ [⟨ra, ra + (q : Int) + 1⟩]) ax w).map bRow := by
                        rw [← hst, List.map_set]
                        rfl
                      have hst3 : (dr ((lnP (rs.take i ++ [⟨ra, ra + (q : Int)⟩]) ax w).map bRow)).set k [AV.d (.int .u8 35)] = dr ((lnP (rs.take i ++ [⟨ra, ra + (q : Int) + 1⟩]) ax w).map bRow) := by
                        rw [← hst2]
                        simp [dr, List.map_set]
                      have f1 := wrap_i64 (n := (k : Int)) (by omega) (by omega)
                      have f2 := wrap_i64 (n := ra + (q : Int) + 1) (by omega) (by omega)
                      have f3 : k < w + 1 := by omega
                      refine awp_region cx [] fun K hK => ?_
                      simp [push_cast, hk, f1, f3, hl0, dr_get, hst3]
                      repeat (refine And.intro (by clear hK; intros; first | omega | (simp_all; done) | (simp_all <;> omega)) ?_)
                      refine hK _ ?_; clear hK K; refine Nav.imp ?_
                      refine awp_region cx [] fun K hK => ?_
                      simp [push_cast, f2]
                      repeat (refine And.intro (by clear hK; intros; first | omega | (simp_all; done) | (simp_all <;> omega)) ?_)
                      refine hK _ ?_; clear hK K; refine Nav.imp ?_
                      refine ⟨q + 1, by push_cast; omega, by omega, ?_⟩
                      refine weak_of [(0, some 0), (1, some 1), (2, some 2), (3, some 3), (4, some 4), (5, some 5), (6, some 6)] rfl (by simp [upT, up, upL, push_cast, Int.add_assoc]) (by simp [upH, upR, upL, up, push_cast, Int.add_assoc]) (by simp [namesOk, push_cast]) (by simp [olds])
                    · have hqe : ra + (q : Int) = rb := by
                        have : ¬ ra + (q : Int) < rb := by simpa using hb
                        omega
                      rw [hqe]
                      have htk : rs.take i ++ [(⟨ra, rb⟩ : Run)] = rs.take (i + 1) := (take_get hr).symm
                      rw [htk]
                      refine awp_region cx [] fun K hK => ?_
                      simp [push_cast, f0]
                      repeat (refine And.intro (by clear hK; intros; first | omega | (simp_all; done) | (simp_all <;> omega)) ?_)
                      refine hK _ ?_; clear hK K; refine Nav.imp ?_
                      refine ⟨i + 1, hil, by omega, ?_⟩
                      refine weak_of [(0, some 0), (1, some 1), (2, some 2), (3, some 3), (4, some 4), (5, some 5)] rfl (by simp [upT, up, upL, push_cast]) (by simp [upH, upR, upL, up, push_cast]) (by simp [namesOk, push_cast]) (by simp [olds])
                · have hie : i = rs.length := by simp at hb; omega
                  rw [hie, List.take_length]
                  generalize hLL : lnP rs ax w = L at *
                  have hLl : L.length = w + 1 := by rw [← hLL]; exact hl0 rs
                  have hle : w + 1 ≤ L.length := by omega
                  have htk2 : List.take (w + 1) (L.map bRow) = L.map bRow := List.take_of_length_le (by simp; omega)
                  have hL0 : L ≠ [] := fun e => by rw [e] at hLl; simp at hLl
                  refine awp_freeze 5 (L.map bRow) rfl (by simp [push_cast]) fun K hK => ?_
                  simp [push_cast, St.fz, fzT, fzH, fzO, fz, fzL, fzR, fzR_dr, fzR_app, fzR_set, fzL_map]
                  refine hK _ ?_; clear hK K; refine Nav.imp ?_
                  have c5 := writeUsed_px A L hA0 (by omega)
                  have hAL : A ++ L ≠ [] := by simp [hA0]
                  have hLA := hnx
                  rw [hA] at hLA
                  generalize A ++ L = E at *
                  refine awp_region cx [(1, .x ⟨[(0, 3), (1, 4)], [.ptr 0 0 0, .d (.sl (L.map bRow))], [(0, ⟨50, 2, [[.ptr 0 0 0, .hs 1 0 A.length]]⟩), (1, ⟨5, 1, dr (A.map bRow)⟩)], [(0, 0)], some 1, [(0, ⟨50, 2, [[.ptr 0 0 0, .hs 1 0 E.length]]⟩), (1, ⟨5, 1, dr (E.map bRow)⟩)], .any⟩)] fun K hK => ?_
                  simp [push_cast, c5, hle, htk2]
                  repeat (refine And.intro (by clear hK; intros; first | omega | (simp_all; done) | (simp_all <;> omega)) ?_)
                  refine hK _ ?_; clear hK K; refine Nav.imp ?_
                  refine awp_region cx [] fun K hK => ?_
                  simp [push_cast, e0, e1]
                  repeat (refine And.intro (by clear hK; intros; first | omega | (simp_all; done) | (simp_all <;> omega)) ?_)
                  refine hK _ ?_; clear hK K; refine Nav.imp ?_
                  refine ⟨j + 1, hlt, by omega, ?_⟩
                  rw [hLA]
                  simp only [if_neg hAL]
                  refine weak_of [(0, some 0), (1, some 1), (2, some 2), (3, some 3), (4, some 8)] rfl (by simp [upT, up, upL, push_cast]) (by simp [upH, upR, upL, up, push_cast]) (by simp [namesOk, push_cast]) (by simp [olds])
            · have hje : j = h := by
                have : ¬ ay ≤ by0 - (j : Int) := by simpa using hb
                omega
              rw [hje] at hA
              rw [hA]
              have c6 := string_ok (.ptr 0 0 0) A hA0
              refine awp_region cx [(0, .x ⟨[(0, 3), (1, 4)], [.ptr 0 0 0], [(0, ⟨50, 2, [[.ptr 0 0 0, .hs 1 0 A.length]]⟩), (1, ⟨5, 1, dr (A.map bRow)⟩)], [], none, [], .d (strD A)⟩)] fun K hK => ?_
              simp [push_cast, c6]
              repeat (refine And.intro (by clear hK; intros; first | omega | (simp_all; done) | (simp_all <;> omega)) ?_)
              refine hK _ ?_; clear hK K; refine Nav.imp ?_
              simp [push_cast]
    · rw [if_neg hbig]
      have hb2 : decide ((65536 : Int) < (bx - ax + 2) * (by0 - ay + 1)) = true := by rw [hpr]; simp; omega
      refine pc_of_awp cx (fn := Tryd.f8) (c := _) Tryd.func8 rfl rfl (Nat.le_of_ble_eq_true rfl) ?_
      rw [Tryd.ntmps8]; refine Nav.imp ?_
      refine awp_region cx [] fun K hK => ?_
      simp [push_cast]
      repeat (refine And.intro (by clear hK; intros; first | omega | (simp_all; done) | (simp_all <;> omega)) ?_)
      refine hK _ ?_; clear hK K; refine Nav.imp ?_
      refine awp_region cx [(1, .p (.tup [.agg [.int .i64 ax, .int .i64 ay], .agg [.int .i64 bx, .int .i64 by0], .bool true]))] fun K hK => ?_
      simp [push_cast, c1]
      repeat (refine And.intro (by clear hK; intros; first | omega | (simp_all; done) | (simp_all <;> omega)) ?_)
      refine hK _ ?_; clear hK K; refine Nav.imp ?_
      refine awp_region cx [] fun K hK => ?_
      simp [push_cast, g1, g2, g3, g4, g5]
      repeat (refine And.intro (by clear hK; intros; first | omega | (simp_all; done) | (simp_all <;> omega)) ?_)
      refine hK _ ?_; clear hK K; refine Nav.imp ?_
      refine awp_cond (b := true) (by simp [push_cast, hb2]) (fun hb => ?_) (fun hb => ?_) <;> (refine Nav.imp ?_)
      · refine awp_region cx [] fun K hK => ?_
        simp [push_cast]
        repeat (refine And.intro (by clear hK; intros; first | omega | (simp_all; done) | (simp_all <;> omega)) ?_)
        refine hK _ ?_; clear hK K; refine Nav.imp ?_
        simp [push_cast]
      · simp at hb
  · have hs' : some? R = false := by simpa using hs
    have hP : picS R = [] := by
      unfold picS
      simp [hs']
    have b1 : boxLo R = ⟨0, 0⟩ := by simp [boxLo, hs']
    have b2 : boxHi R = ⟨0, 0⟩ := by simp [boxHi, hs']
    rw [b1, b2, hs'] at c1
    rw [hP]
    refine pc_of_awp cx (fn := Tryd.f8) (c := _) Tryd.func8 rfl rfl (Nat.le_of_ble_eq_true rfl) ?_
    rw [Tryd.ntmps8]; refine Nav.imp ?_
    refine awp_region cx [] fun K hK => ?_
    simp [push_cast]
    repeat (refine And.intro (by clear hK; intros; first | omega | (simp_all; done) | (simp_all <;> omega)) ?_)
    refine hK _ ?_; clear hK K; refine Nav.imp ?_
    refine awp_region cx [(1, .p (.tup [.agg [.int .i64 0, .int .i64 0], .agg [.int .i64 0, .int .i64 0], .bool false]))] fun K hK => ?_
    simp [push_cast, c1]
    repeat (refine And.intro (by clear hK; intros; first | omega | (simp_all; done) | (simp_all <;> omega)) ?_)
    refine hK _ ?_; clear hK K; refine Nav.imp ?_
    refine awp_region cx [] fun K hK => ?_
    simp [push_cast]
    repeat (refine And.intro (by clear hK; intros; first | omega | (simp_all; done) | (simp_all <;> omega)) ?_)
    refine hK _ ?_; clear hK K; refine Nav.imp ?_
    refine awp_cond (b := true) (by simp [push_cast]) (fun hb => ?_) (fun hb => ?_) <;> (refine Nav.imp ?_)
    · refine awp_region cx [] fun K hK => ?_
      simp [push_cast]
      repeat (refine And.intro (by clear hK; intros; first | omega | (simp_all; done) | (simp_all <;> omega)) ?_)
      refine hK _ ?_; clear hK K; refine Nav.imp ?_
      simp [push_cast]
    · simp at hb
end Go.Proofs.YtgicofpllopjmaaDoor

namespace Go.Proofs.YtgicofpllopjmaaDoor
open Go.Abs Go.Shelf

def tx1 : List UInt8 := [35, 46, 46, 46, 10, 46, 46, 46, 46, 10, 35, 35, 46, 35, 10]
def tx2 : List UInt8 := [35, 46, 46, 10, 46, 46, 46, 46, 10]
theorem tx1_lines : linesP tx1 = some [[35, 46, 46, 46], [46, 46, 46, 46], [35, 35, 46, 35]] := by decide
theorem tx2_lines : linesP tx2 = none := by decide
theorem tx1_cells : cellsT [[35, 46, 46, 46], [46, 46, 46, 46], [35, 35, 46, 35]] ⟨0, 0⟩ 3 = [⟨0, 2⟩, ⟨0, 0⟩, ⟨1, 0⟩, ⟨3, 0⟩] := by decide
theorem aw_D : ofD awL = .tup [.agg (regRow awR), .int .i64 0] := by
  have h : ofD awL = .tup [.agg (regRow (ofR awL)), .int .i64 (ofE awL)] := rfl
  rw [h, aw_of, aw_e]
theorem tx1_read : readR tx1 ⟨0, 0⟩ = .tup [.agg (regRow awR), .int .i64 0] := by
  unfold readR
  rw [if_neg (by decide), tx1_lines]
  simp only [List.length_cons, List.length_nil]
  rw [show (0 + 1 + 1 + 1) = 3 from rfl, tx1_cells, ← aw_D]
  exact ofD_ext (by decide) (by decide) fun c => by
    simp only [awL, List.mem_cons, List.not_mem_nil, or_false]
    constructor <;> (rintro (h | h | h | h) <;> simp [h])
theorem tx2_read : readR tx2 ⟨0, 0⟩ = .tup [.agg (regRow []), .int .i64 5] := by
  unfold readR
  rw [if_neg (by decide), tx2_lines]
theorem aw_pic : picS awR = tx1 := by decide
theorem drawn_ok : PC Tryd.prog 10 [] (.p (.bool true)) := by
  have c0 := pcT awake18_ok
  have c1 := pcT (of_ok awL (by decide))
  rw [aw_D] at c1
  have c2 := pcT (read_ok tx1 ⟨0, 0⟩ (by decide))
  rw [tx1_read] at c2
  have c3 := pcT (read_ok tx2 ⟨0, 0⟩ (by decide))
  rw [tx2_read] at c3
  have c4 := picture_ok awR ⟨by decide, by decide⟩
  rw [aw_pic] at c4
  have c5 := pcT (rsame_ok awR awR ⟨by decide, by decide⟩)
  rw [decide_eq_true rfl] at c5
  have o1 := fun (x y : Operand) (yt : TypeId) => opres_eq (P := Tryd.prog) (x := x) (y := y) (yt := yt) str_und tx1 tx1
  rw [show (tx1 == tx1) = true from by decide] at o1
  simp only [awL, awR, regRow, tx1, tx2] at c1 c2 c3 c4 c5 o1
  refine pc_of_awp cx (fn := Tryd.f10) (c := _) Tryd.func10 rfl rfl (Nat.le_of_ble_eq_true rfl) ?_
  rw [Tryd.ntmps10]; refine Nav.imp ?_
  refine awp_region cx [] fun K hK => ?_
  simp [push_cast]
  repeat (refine And.intro (by clear hK; intros; first | omega | (simp_all; done) | (simp_all <;> omega)) ?_)
  refine hK _ ?_; clear hK K; refine Nav.imp ?_
  refine awp_region cx [(4, .f (encCells awL)), (5, .p (.tup [.agg (regRow awR), .int .i64 0]))] fun K hK => ?_
  simp [push_cast, c1, awL, awR, Cell.row]
  repeat (refine And.intro (by clear hK; intros; first | omega | (simp_all; done) | (simp_all <;> omega)) ?_)
  refine hK _ ?_; clear hK K; refine Nav.imp ?_
  refine awp_region cx [(1, .p (.tup [.agg (regRow awR), .int .i64 0]))] fun K hK => ?_
  simp [push_cast, c2, awR, Cell.row]
  repeat (refine And.intro (by clear hK; intros; first | omega | (simp_all; done) | (simp_all <;> omega)) ?_)
  refine hK _ ?_; clear hK K; refine Nav.imp ?_
  refine awp_region cx [(1, .p (.tup [.agg (regRow []), .int .i64 5]))] fun K hK => ?_
  simp [push_cast, c3, Cell.row]
  repeat (refine And.intro (by clear hK; intros; first | omega | (simp_all; done) | (simp_all <;> omega)) ?_)
  refine hK _ ?_; clear hK K; refine Nav.imp ?_
  refine awp_region cx [(1, .p (strD tx1)), (2, .p (.bool true)), (10, .p (.bool true)), (17, .p (.bool true))] fun K hK => ?_
  simp [push_cast, c0, c4, c5, o1, awR, tx1, Row.row, Run.row]
  repeat (refine And.intro (by clear hK; intros; first | omega | (simp_all; done) | (simp_all <;> omega)) ?_)
  refine hK _ ?_; clear hK K; refine Nav.imp ?_
  simp [push_cast]
theorem readR_form (s : List UInt8) (o : Cell) (hs : s.length ≤ 100000) : ∃ R e, readR s o = .tup [.agg (regRow R), .int .i64 e] ∧ smallR R := by
  unfold readR
  split
  · exact ⟨[], 2, rfl, by simp, by simp⟩
  · split
    · exact ⟨[], 5, rfl, by simp, by simp⟩
    · rename_i l hl
      refine ⟨ofR (cellsT l o l.length), ofE (cellsT l o l.length), rfl, ?_⟩
      have h1 := cellsT_len l o l.length (Nat.le_refl _)
      have h2 := txt_mono l l.length
      have h3 := linesP_len hl
      generalize cellsT l o l.length = L at *
      unfold ofR
      split
      · have := build_small (sortY L)
        have hlen : (sortY L).length = L.length := (sortY_perm L).length_eq
        exact ⟨by omega, fun w hw => by have := this.2 w hw; omega⟩
      · exact ⟨by simp, by simp⟩
end Go.Proofs.YtgicofpllopjmaaDoor
