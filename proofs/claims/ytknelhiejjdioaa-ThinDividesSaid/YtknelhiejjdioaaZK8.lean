/-
  Texts of this seat put together: K8.
-/
import Derived.Test.YtknelhiejjdioaaJ8
import Derived.Test.YtknelhiejjdioaaJ9
import Derived.Test.YtknelhiejjdioaaJ7
set_option linter.unusedVariables false
set_option linter.unusedSimpArgs false
set_option maxRecDepth 100000
namespace Go.Proofs.Ytknelhiejjdioaa
open Go.Abs Go.ChangeShapes Go.WideShapes Go.ChangeAt Go.RowKit

set_option maxHeartbeats 2000000 in
theorem square_ok (R : List Row) (d : Cell) (hv : validR R = true) (hd : -10000 ≤ d.x ∧ d.x ≤ 10000 ∧ -10000 ≤ d.y ∧ d.y ≤ 10000) (v : Bool) (hvv : v = true ↔ aroundC R 1 d) : PC Try.prog 18 [.agg (regRow R), .agg d.row] (.p (.bool v)) := by
  have hR := small_valid hv
  obtain ⟨dx, dy⟩ := d
  simp only at hd
  have hno : ∀ a b : Int, -1 ≤ a → a ≤ 1 → -1 ≤ b → b ≤ 1 → (⟨dx + a, dy + b⟩ : Cell) ∉ regCells R → v = false := fun a b h1 h2 h3 h4 h5 => by
    cases v with
    | false => rfl
    | true => exact absurd (hvv.1 rfl a b (by simpa using h1) (by simpa using h2) (by simpa using h3) (by simpa using h4)) h5
  have hyes : (∀ a b : Int, -1 ≤ a → a < 2 → -1 ≤ b → b ≤ 1 → (⟨dx + a, dy + b⟩ : Cell) ∈ regCells R) → v = true := fun h => by
    refine hvv.2 fun a b h1 h2 h3 h4 => ?_
    exact h a b (by simpa using h1) (by have : a ≤ 1 := by simpa using h2
                                        omega) (by simpa using h3) (by simpa using h4)
  clear hvv
  refine pc_of_awp cx (fn := Try.f18) (c := _) Try.func18 rfl rfl (Nat.le_of_ble_eq_true rfl) ?_
  rw [Try.ntmps18]; refine Nav.imp ?_
  refine awp_region cx [] fun K hK => ?_
  simp [push_cast]
  repeat (refine And.intro (by clear hK; intros; first | omega | (simp_all; done) | (simp_all <;> omega)) ?_)
  refine hK _ ?_; clear hK K; refine Nav.imp ?_
  refine awp_region cx [] fun K hK => ?_
  simp [push_cast]
  repeat (refine And.intro (by clear hK; intros; first | omega | (simp_all; done) | (simp_all <;> omega)) ?_)
  refine hK _ ?_; clear hK K; refine Nav.imp ?_
  refine awp_loop (β := Int) (fun i => ⟨27, [(2, .ptr 0 0 0), (3, .ptr 1 0 0), (5, .d (.int .i64 i))], [(0, some ⟨24, 1, [(regRow R).map .d]⟩), (1, some ⟨31, 2, [[.d (.int .i64 dx), .d (.int .i64 dy)]]⟩)], 2⟩) (fun i => -1 ≤ i ∧ i ≤ 2 ∧ ∀ a b : Int, -1 ≤ a → a < i → -1 ≤ b → b ≤ 1 → (⟨dx + a, dy + b⟩ : Cell) ∈ regCells R) (fun i => (2 - i).toNat) (-1) ?_ ⟨by omega, by omega, fun a b h1 h2 => by omega⟩ ?_
  · refine weak_of [(0, some 0), (1, some 1)] rfl (by simp [upT, up, upL, push_cast, Cell.row]) (by simp [upH, upR, upL, up, push_cast, Cell.row]) (by simp [namesOk, push_cast]) (by simp [olds])
  · rintro i ⟨hi1, hi2, hin⟩
    refine Nav.imp ?_
    refine awp_region cx [] fun K hK => ?_
    simp [push_cast]
    repeat (refine And.intro (by clear hK; intros; first | omega | (simp_all; done) | (simp_all <;> omega)) ?_)
    refine hK _ ?_; clear hK K; refine Nav.imp ?_
    by_cases hi : i ≤ 1
    · have e0 := wrap_i64 (n := i + 1) (by omega) (by omega)
      have e1 := wrap_i64 (n := dx + i) (by omega) (by omega)
      refine awp_cond (b := true) (by simp [push_cast, hi]) (fun hb => ?_) (fun hb => ?_) <;> (refine Nav.imp ?_)
      · refine awp_region cx [] fun K hK => ?_
        simp [push_cast]
        repeat (refine And.intro (by clear hK; intros; first | omega | (simp_all; done) | (simp_all <;> omega)) ?_)
        refine hK _ ?_; clear hK K; refine Nav.imp ?_
        refine awp_loop (β := Int) (fun k => ⟨27, [(2, .ptr 0 0 0), (3, .ptr 1 0 0), (5, .d (.int .i64 i)), (6, .d (.int .i64 k))], [(0, some ⟨24, 1, [(regRow R).map .d]⟩), (1, some ⟨31, 2, [[.d (.int .i64 dx), .d (.int .i64 dy)]]⟩)], 2⟩) (fun k => -1 ≤ k ∧ k ≤ 2 ∧ ∀ b : Int, -1 ≤ b → b < k → (⟨dx + i, dy + b⟩ : Cell) ∈ regCells R) (fun k => (2 - k).toNat) (-1) ?_ ⟨by omega, by omega, fun b h1 h2 => by omega⟩ ?_
        · refine weak_of [(0, some 0), (1, some 1)] rfl (by simp [upT, up, upL, push_cast]) (by simp [upH, upR, upL, up, push_cast]) (by simp [namesOk, push_cast]) (by simp [olds])
        · rintro k ⟨hk1, hk2, hkn⟩
          refine Nav.imp ?_
          refine awp_region cx [] fun K hK => ?_
          simp [push_cast]
          repeat (refine And.intro (by clear hK; intros; first | omega | (simp_all; done) | (simp_all <;> omega)) ?_)
          refine hK _ ?_; clear hK K; refine Nav.imp ?_
          by_cases hk : k ≤ 1
          · have e2 := wrap_i64 (n := k + 1) (by omega) (by omega)
            have e3 := wrap_i64 (n := dy + k) (by omega) (by omega)
            have c3 := contains_ok R ⟨dx + i, dy + k⟩ hR
            rw [conB_mem hv] at c3
            by_cases hm : (⟨dx + i, dy + k⟩ : Cell) ∈ regCells R
            · rw [decide_eq_true hm] at c3
              refine awp_cond (b := true) (by simp [push_cast, hk]) (fun hb => ?_) (fun hb => ?_) <;> (refine Nav.imp ?_)
              · refine awp_region cx [(10, .p (.bool true))] fun K hK => ?_
                simp [push_cast, c3, e1, e3, Cell.row]
                repeat (refine And.intro (by clear hK; intros; first | omega | (simp_all; done) | (simp_all <;> omega)) ?_)
                refine hK _ ?_; clear hK K; refine Nav.imp ?_
                refine awp_cond (b := false) (by simp [push_cast]) (fun hb => ?_) (fun hb => ?_) <;> (refine Nav.imp ?_)
                · simp at hb
                · refine awp_region cx [] fun K hK => ?_
                  simp [push_cast, e2]
                  repeat (refine And.intro (by clear hK; intros; first | omega | (simp_all; done) | (simp_all <;> omega)) ?_)
                  refine hK _ ?_; clear hK K; refine Nav.imp ?_
                  refine ⟨k + 1, ⟨by omega, by omega, fun b h1 h2 => ?_⟩, by omega, ?_⟩
                  · by_cases q : b = k
                    · rw [q]; exact hm
                    · exact hkn b h1 (by omega)
                  · refine weak_of [(0, some 0), (1, some 1)] rfl (by simp [upT, up, upL, push_cast]) (by simp [upH, upR, upL, up, push_cast]) (by simp [namesOk, push_cast]) (by simp [olds])
              · simp at hb
            · rw [decide_eq_false hm] at c3
              have hv0 := hno i k hi1 hi hk1 hk hm
              subst hv0
              refine awp_cond (b := true) (by simp [push_cast, hk]) (fun hb => ?_) (fun hb => ?_) <;> (refine Nav.imp ?_)
              · refine awp_region cx [(10, .p (.bool false))] fun K hK => ?_
                simp [push_cast, c3, e1, e3, Cell.row]
                repeat (refine And.intro (by clear hK; intros; first | omega | (simp_all; done) | (simp_all <;> omega)) ?_)
                refine hK _ ?_; clear hK K; refine Nav.imp ?_
                refine awp_cond (b := true) (by simp [push_cast]) (fun hb => ?_) (fun hb => ?_) <;> (refine Nav.imp ?_)
                · refine awp_region cx [] fun K hK => ?_
                  simp [push_cast]
                  repeat (refine And.intro (by clear hK; intros; first | omega | (simp_all; done) | (simp_all <;> omega)) ?_)
                  refine hK _ ?_; clear hK K; refine Nav.imp ?_
                  simp [push_cast]
                · simp at hb
              · simp at hb
          · have hk' : 1 < k := by omega
            refine awp_cond (b := false) (by simp [push_cast, hk, hk']) (fun hb => ?_) (fun hb => ?_) <;> (refine Nav.imp ?_)
            · simp at hb
            · refine awp_region cx [] fun K hK => ?_
              simp [push_cast, e0]
              repeat (refine And.intro (by clear hK; intros; first | omega | (simp_all; done) | (simp_all <;> omega)) ?_)
              refine hK _ ?_; clear hK K; refine Nav.imp ?_
              refine ⟨i + 1, ⟨by omega, by omega, fun a b h1 h2 h3 h4 => ?_⟩, by omega, ?_⟩
              · by_cases q : a = i
                · rw [q]; exact hkn b h3 (by omega)
                · exact hin a b h1 (by omega) h3 h4
              · refine weak_of [(0, some 0), (1, some 1)] rfl (by simp [upT, up, upL, push_cast]) (by simp [upH, upR, upL, up, push_cast]) (by simp [namesOk, push_cast]) (by simp [olds])
      · simp at hb
    · have hi' : 1 < i := by omega
      have hie : i = 2 := by omega
      subst hie
      have hv1 := hyes hin
      subst hv1
      refine awp_cond (b := false) (by simp [push_cast, hi, hi']) (fun hb => ?_) (fun hb => ?_) <;> (refine Nav.imp ?_)
      · simp at hb
      · refine awp_region cx [] fun K hK => ?_
        simp [push_cast]
        repeat (refine And.intro (by clear hK; intros; first | omega | (simp_all; done) | (simp_all <;> omega)) ?_)
        refine hK _ ?_; clear hK K; refine Nav.imp ?_
        simp [push_cast]

/-- Some square around the cell, up to a place in the loops. -/
def someTo (R : List Row) (x y i k : Int) : Prop := ∃ a b : Int, -1 ≤ a ∧ a ≤ 1 ∧ -1 ≤ b ∧ b ≤ 1 ∧ (a < i ∨ a = i ∧ b < k) ∧ aroundC R 1 ⟨x + a, y + b⟩
theorem some_start {R : List Row} {x y : Int} : false = true ↔ someTo R x y (-1) (-1) := by
  constructor
  · intro h; cases h
  · rintro ⟨a, b, h1, h2, h3, h4, h5, _⟩; omega
theorem some_step {R : List Row} {x y i k : Int} (hi : -1 ≤ i ∧ i ≤ 1) (hk : -1 ≤ k ∧ k ≤ 1) : someTo R x y i (k + 1) ↔ someTo R x y i k ∨ aroundC R 1 ⟨x + i, y + k⟩ := by
  constructor
  · rintro ⟨a, b, h1, h2, h3, h4, h5, h6⟩
    by_cases q : a = i ∧ b = k
    · rw [q.1, q.2] at h6; exact .inr h6
    · exact .inl ⟨a, b, h1, h2, h3, h4, by omega, h6⟩
  · rintro (⟨a, b, h1, h2, h3, h4, h5, h6⟩ | h)
    · exact ⟨a, b, h1, h2, h3, h4, by omega, h6⟩
    · exact ⟨i, k, hi.1, hi.2, hk.1, hk.2, by omega, h⟩
theorem some_next {R : List Row} {x y i : Int} : someTo R x y i 2 ↔ someTo R x y (i + 1) (-1) := by
  constructor
  · rintro ⟨a, b, h1, h2, h3, h4, h5, h6⟩; exact ⟨a, b, h1, h2, h3, h4, by omega, h6⟩
  · rintro ⟨a, b, h1, h2, h3, h4, h5, h6⟩; exact ⟨a, b, h1, h2, h3, h4, by omega, h6⟩
theorem some_all {R : List Row} (hv : validR R = true) {x y : Int} : someTo R x y 2 (-1) ↔ (⟨x, y⟩ : Cell) ∈ regCells (openR R) := by
  rw [(open_facts hv).2]
  constructor
  · rintro ⟨a, b, h1, h2, h3, h4, _, h6⟩
    exact ⟨_, h6, by simp only; omega, by simp only; omega, by simp only; omega, by simp only; omega⟩
  · rintro ⟨⟨dx, dy⟩, hd, h1, h2, h3, h4⟩
    simp only at h1 h2 h3 h4
    refine ⟨dx - x, dy - y, by omega, by omega, by omega, by omega, by omega, ?_⟩
    rw [show (⟨x + (dx - x), y + (dy - y)⟩ : Cell) = ⟨dx, dy⟩ from by simp only [Cell.mk.injEq]; omega]
    exact hd

set_option maxHeartbeats 8000000 in
theorem thindivides_ok (R0 : List Row) (c : Cell) : PC Try.prog 4 [.agg (regRow R0), .agg c.row] (.p (.bool true)) := by
  have c0 := awake25_ok
  have c1 := few_ok R0
  have hR := few_small R0
  generalize fewR R0 = R at *
  have c2 := split_ok R (big_of hR)
  have c3 := validR_ok R hR
  obtain ⟨qx, qy⟩ := c
  cases hv : validR R with
  | false =>
    rw [hv] at c3
    have e1 := open_bad hv
    have e2 : opR fD R (openR R) = [] := by simp [opR, hv]
    rw [e1] at c2 e2
    rw [e2] at c2
    refine pc_of_awp cx (fn := Try.f4) (c := _) Try.func4 rfl rfl (Nat.le_of_ble_eq_true rfl) ?_
    rw [Try.ntmps4]; refine Nav.imp ?_
    refine awp_region cx [] fun K hK => ?_
    simp [push_cast]
    repeat (refine And.intro (by clear hK; intros; first | omega | (simp_all; done) | (simp_all <;> omega)) ?_)
    refine hK _ ?_; clear hK K; refine Nav.imp ?_
    refine awp_region cx [(1, .p (.agg (regRow R)))] fun K hK => ?_
    simp [push_cast, c1]
    repeat (refine And.intro (by clear hK; intros; first | omega | (simp_all; done) | (simp_all <;> omega)) ?_)
    refine hK _ ?_; clear hK K; refine Nav.imp ?_
    refine awp_region cx [(1, .p (.tup [.agg (regRow []), .agg (regRow [])]))] fun K hK => ?_
    simp [push_cast, c2]
    repeat (refine And.intro (by clear hK; intros; first | omega | (simp_all; done) | (simp_all <;> omega)) ?_)
    refine hK _ ?_; clear hK K; refine Nav.imp ?_
    refine awp_region cx [(1, .p (.bool false))] fun K hK => ?_
    simp [push_cast, c3]
    repeat (refine And.intro (by clear hK; intros; first | omega | (simp_all; done) | (simp_all <;> omega)) ?_)
    refine hK _ ?_; clear hK K; refine Nav.imp ?_
    refine awp_cond (b := true) (by simp [push_cast]) (fun hb => ?_) (fun hb => ?_) <;> (refine Nav.imp ?_)
    · refine awp_region cx [(11, .p (.bool true))] fun K hK => ?_
      simp [push_cast, c0]
      repeat (refine And.intro (by clear hK; intros; first | omega | (simp_all; done) | (simp_all <;> omega)) ?_)
      refine hK _ ?_; clear hK K; refine Nav.imp ?_
      simp [push_cast]
    · simp at hb
  | true =>
    rw [hv] at c3
    obtain ⟨s1, s2, s3⟩ := split_facts hv
    have hA := (open_facts hv).1
    have hB := (opR_facts (f := fD) rfl hv hA).1
    have hAs := small_valid hA
    have hBs := small_valid hB
    have c4 := split_ok (openR R) (big_of hAs)
    rw [s1, open_idem hv] at c4
    have c5 := rsame_ok (openR R) (openR R) hAs
    have c6 := unionR_big (openR R) (opR fD R (openR R)) (big_of hAs) (big_of hBs)
    have c7 := rsame_ok R R hR
    have c8 := intersectR_big (openR R) (opR fD R (openR R)) (big_of hAs) (big_of hBs)
    rw [decide_eq_true rfl] at c5 c7
    rw [s2] at c6
    rw [s3] at c8
    have c9 := contains_ok (openR R) ⟨qx, qy⟩ hAs
    rw [conB_mem hA] at c9
    have hall := @some_all R hv qx qy
    have hsq := fun d => square_ok R d hv
    generalize opR fD R (openR R) = B at *
    generalize openR R = A at *
    have hcc : qx < -5000 ∨ 5000 < qx ∨ qy < -5000 ∨ 5000 < qy ∨ (¬ qx < -5000 ∧ ¬ 5000 < qx ∧ ¬ qy < -5000 ∧ ¬ 5000 < qy) := by omega
    clear s1 s2 s3 hA hB hAs hBs
    refine pc_of_awp cx (fn := Try.f4) (c := _) Try.func4 rfl rfl (Nat.le_of_ble_eq_true rfl) ?_
    rw [Try.ntmps4]; refine Nav.imp ?_
    refine awp_region cx [] fun K hK => ?_
    simp [push_cast]
    repeat (refine And.intro (by clear hK; intros; first | omega | (simp_all; done) | (simp_all <;> omega)) ?_)
    refine hK _ ?_; clear hK K; refine Nav.imp ?_
    refine awp_region cx [(1, .p (.agg (regRow R)))] fun K hK => ?_
    simp [push_cast, c1]
    repeat (refine And.intro (by clear hK; intros; first | omega | (simp_all; done) | (simp_all <;> omega)) ?_)
    refine hK _ ?_; clear hK K; refine Nav.imp ?_
    refine awp_region cx [(1, .p (.tup [.agg (regRow A), .agg (regRow B)]))] fun K hK => ?_
    simp [push_cast, c2]
    repeat (refine And.intro (by clear hK; intros; first | omega | (simp_all; done) | (simp_all <;> omega)) ?_)
    refine hK _ ?_; clear hK K; refine Nav.imp ?_
    refine awp_region cx [(1, .p (.bool true))] fun K hK => ?_
    simp [push_cast, c3]
    repeat (refine And.intro (by clear hK; intros; first | omega | (simp_all; done) | (simp_all <;> omega)) ?_)
    refine hK _ ?_; clear hK K; refine Nav.imp ?_
    refine awp_cond (b := false) (by simp [push_cast]) (fun hb => ?_) (fun hb => ?_) <;> (refine Nav.imp ?_)
    · simp at hb
    · refine awp_region cx [(1, .p (.tup [.agg (regRow A), .agg (regRow [])]))] fun K hK => ?_
      simp [push_cast, c4]
      repeat (refine And.intro (by clear hK; intros; first | omega | (simp_all; done) | (simp_all <;> omega)) ?_)
      refine hK _ ?_; clear hK K; refine Nav.imp ?_
      refine awp_region_draw cx mixed [(2, .p (.bool true)), (13, .p (.agg (regRow R))), (15, .p (.bool true)), (21, .p (.agg (regRow [])))] fun K hK => ?_
      simp [push_cast, c5, c6, c7, c8]
      repeat (refine And.intro (by clear hK; intros; first | omega | (simp_all; done) | (simp_all <;> omega)) ?_)
      refine hK _ _ (by kernel_rfl) ?_; clear hK K; refine Nav.imp ?_
      refine awp_cond (b := false) (by simp [push_cast]) (fun hb => ?_) (fun hb => ?_) <;> (refine Nav.imp ?_)
      · simp at hb
      · by_cases h1 : qx < -5000
        · refine awp_region cx [] fun K hK => ?_
          simp [push_cast, h1, Cell.row]
          repeat (refine And.intro (by clear hK; intros; first | omega | (simp_all; done) | (simp_all <;> omega)) ?_)
          refine hK _ ?_; clear hK K; refine Nav.imp ?_
          refine awp_cond (b := true) (by simp [push_cast, h1]) (fun hb => ?_) (fun hb => ?_) <;> (refine Nav.imp ?_)
          · refine awp_region cx [(0, .p (.bool true))] fun K hK => ?_
            simp [push_cast, c0]
            repeat (refine And.intro (by clear hK; intros; first | omega | (simp_all; done) | (simp_all <;> omega)) ?_)
            refine hK _ ?_; clear hK K; refine Nav.imp ?_
            simp [push_cast]
          · simp at hb
        by_cases h2 : 5000 < qx
        · refine awp_region cx [] fun K hK => ?_
          simp [push_cast, h1, h2, Cell.row]
          repeat (refine And.intro (by clear hK; intros; first | omega | (simp_all; done) | (simp_all <;> omega)) ?_)
          refine hK _ ?_; clear hK K; refine Nav.imp ?_
          refine awp_cond (b := true) (by simp [push_cast, h1, h2]) (fun hb => ?_) (fun hb => ?_) <;> (refine Nav.imp ?_)
          · refine awp_region cx [(0, .p (.bool true))] fun K hK => ?_
            simp [push_cast, c0]
            repeat (refine And.intro (by clear hK; intros; first | omega | (simp_all; done) | (simp_all <;> omega)) ?_)
            refine hK _ ?_; clear hK K; refine Nav.imp ?_
            simp [push_cast]
          · simp at hb
        by_cases h3 : qy < -5000
        · refine awp_region cx [] fun K hK => ?_
          simp [push_cast, h1, h2, h3, Cell.row]
          repeat (refine And.intro (by clear hK; intros; first | omega | (simp_all; done) | (simp_all <;> omega)) ?_)
          refine hK _ ?_; clear hK K; refine Nav.imp ?_
          refine awp_cond (b := true) (by simp [push_cast, h1, h2, h3]) (fun hb => ?_) (fun hb => ?_) <;> (refine Nav.imp ?_)
          · refine awp_region cx [(0, .p (.bool true))] fun K hK => ?_
            simp [push_cast, c0]
            repeat (refine And.intro (by clear hK; intros; first | omega | (simp_all; done) | (simp_all <;> omega)) ?_)
            refine hK _ ?_; clear hK K; refine Nav.imp ?_
            simp [push_cast]
          · simp at hb
        by_cases h4 : 5000 < qy
        · refine awp_region cx [] fun K hK => ?_
          simp [push_cast, h1, h2, h3, h4, Cell.row]
          repeat (refine And.intro (by clear hK; intros; first | omega | (simp_all; done) | (simp_all <;> omega)) ?_)
          refine hK _ ?_; clear hK K; refine Nav.imp ?_
          refine awp_cond (b := true) (by simp [push_cast, h1, h2, h3, h4]) (fun hb => ?_) (fun hb => ?_) <;> (refine Nav.imp ?_)
          · refine awp_region cx [(0, .p (.bool true))] fun K hK => ?_
            simp [push_cast, c0]
            repeat (refine And.intro (by clear hK; intros; first | omega | (simp_all; done) | (simp_all <;> omega)) ?_)
            refine hK _ ?_; clear hK K; refine Nav.imp ?_
            simp [push_cast]
          · simp at hb
        refine awp_region cx [] fun K hK => ?_
        simp [push_cast, h1, h2, h3, h4, Cell.row]
        repeat (refine And.intro (by clear hK; intros; first | omega | (simp_all; done) | (simp_all <;> omega)) ?_)
        refine hK _ ?_; clear hK K; refine Nav.imp ?_
        refine awp_cond (b := false) (by simp [push_cast, h1, h2, h3, h4]) (fun hb => ?_) (fun hb => ?_) <;> (refine Nav.imp ?_)
        · simp at hb
        · refine awp_region cx [] fun K hK => ?_
          simp [push_cast]
          repeat (refine And.intro (by clear hK; intros; first | omega | (simp_all; done) | (simp_all <;> omega)) ?_)
          refine hK _ ?_; clear hK K; refine Nav.imp ?_
          refine awp_region cx [] fun K hK => ?_
          simp [push_cast]
          repeat (refine And.intro (by clear hK; intros; first | omega | (simp_all; done) | (simp_all <;> omega)) ?_)
          refine hK _ ?_; clear hK K; refine Nav.imp ?_
          refine awp_loop (β := Int × Bool) (fun s => ⟨115, [(2, .ptr 0 0 0), (3, .ptr 1 0 0), (5, .ptr 2 0 0), (9, .d (.bool s.2)), (10, .d (.int .i64 s.1))], [(0, some ⟨24, 1, [(regRow R).map .d]⟩), (1, some ⟨31, 2, [[.d (.int .i64 qx), .d (.int .i64 qy)]]⟩), (2, some ⟨24, 1, [(regRow A).map .d]⟩)], 3⟩) (fun s => -1 ≤ s.1 ∧ s.1 ≤ 2 ∧ (s.2 = true ↔ someTo R qx qy s.1 (-1))) (fun s => (2 - s.1).toNat) (-1, false) ?_ ⟨by omega, by omega, some_start⟩ ?_
          · refine weak_of [(0, some 0), (1, some 1), (2, some 11)] rfl (by simp [upT, up, upL, push_cast, Cell.row]) (by simp [upH, upR, upL, up, push_cast, Cell.row]) (by simp [namesOk, push_cast]) (by simp [olds])
          · rintro ⟨i, s⟩ ⟨hi1, hi2, hs⟩
            simp only at hi1 hi2 hs
            refine Nav.imp ?_
            refine awp_region cx [] fun K hK => ?_
            simp [push_cast]
            repeat (refine And.intro (by clear hK; intros; first | omega | (simp_all; done) | (simp_all <;> omega)) ?_)
            refine hK _ ?_; clear hK K; refine Nav.imp ?_
            by_cases hi : i ≤ 1
            · have e0 := wrap_i64 (n := i + 1) (by omega) (by omega)
              have e1 := wrap_i64 (n := qx + i) (by omega) (by omega)
              refine awp_cond (b := true) (by simp [push_cast, hi]) (fun hb => ?_) (fun hb => ?_) <;> (refine Nav.imp ?_)
              · refine awp_region cx [] fun K hK => ?_
                simp [push_cast]
                repeat (refine And.intro (by clear hK; intros; first | omega | (simp_all; done) | (simp_all <;> omega)) ?_)
                refine hK _ ?_; clear hK K; refine Nav.imp ?_
                refine awp_loop (β := Int × Bool) (fun s => ⟨115, [(2, .ptr 0 0 0), (3, .ptr 1 0 0), (5, .ptr 2 0 0), (9, .d (.bool s.2)), (10, .d (.int .i64 i)), (11, .d (.int .i64 s.1))], [(0, some ⟨24, 1, [(regRow R).map .d]⟩), (1, some ⟨31, 2, [[.d (.int .i64 qx), .d (.int .i64 qy)]]⟩), (2, some ⟨24, 1, [(regRow A).map .d]⟩)], 3⟩) (fun s => -1 ≤ s.1 ∧ s.1 ≤ 2 ∧ (s.2 = true ↔ someTo R qx qy i s.1)) (fun s => (2 - s.1).toNat) (-1, s) ?_ ⟨by omega, by omega, hs⟩ ?_
                · refine weak_of [(0, some 0), (1, some 1), (2, some 2)] rfl (by simp [upT, up, upL, push_cast]) (by simp [upH, upR, upL, up, push_cast]) (by simp [namesOk, push_cast]) (by simp [olds])
                · rintro ⟨k, t⟩ ⟨hk1, hk2, ht⟩
                  simp only at hk1 hk2 ht
                  refine Nav.imp ?_
                  refine awp_region cx [] fun K hK => ?_
                  simp [push_cast]
                  repeat (refine And.intro (by clear hK; intros; first | omega | (simp_all; done) | (simp_all <;> omega)) ?_)
                  refine hK _ ?_; clear hK K; refine Nav.imp ?_
                  by_cases hk : k ≤ 1
                  · have e2 := wrap_i64 (n := k + 1) (by omega) (by omega)
                    have e3 := wrap_i64 (n := qy + k) (by omega) (by omega)
                    have hst := some_step (R := R) (x := qx) (y := qy) (i := i) (k := k) ⟨hi1, hi⟩ ⟨hk1, hk⟩
                    refine awp_cond (b := true) (by simp [push_cast, hk]) (fun hb => ?_) (fun hb => ?_) <;> (refine Nav.imp ?_)
                    · cases t with
                      | true =>
                        refine awp_region cx [(12, .skip)] fun K hK => ?_
                        simp [push_cast, e1, e3, Cell.row]
                        repeat (refine And.intro (by clear hK; intros; first | omega | (simp_all; done) | (simp_all <;> omega)) ?_)
                        refine hK _ ?_; clear hK K; refine Nav.imp ?_
                        refine awp_region cx [] fun K hK => ?_
                        simp [push_cast, e2]
                        repeat (refine And.intro (by clear hK; intros; first | omega | (simp_all; done) | (simp_all <;> omega)) ?_)
                        refine hK _ ?_; clear hK K; refine Nav.imp ?_
                        refine ⟨(k + 1, true), ⟨by omega, by omega, ?_⟩, by simp only; omega, ?_⟩
                        · rw [hst]; exact ⟨fun _ => .inl (ht.1 rfl), fun _ => rfl⟩
                        · refine weak_of [(0, some 0), (1, some 1), (2, some 2)] rfl (by simp [upT, up, upL, push_cast]) (by simp [upH, upR, upL, up, push_cast]) (by simp [namesOk, push_cast]) (by simp [olds])
                      | false =>
                        obtain ⟨v, hvv⟩ : ∃ v : Bool, v = true ↔ aroundC R 1 ⟨qx + i, qy + k⟩ := by
                          by_cases q : aroundC R 1 ⟨qx + i, qy + k⟩
                          · exact ⟨true, by simp [q]⟩
                          · exact ⟨false, by simp [q]⟩
                        have d1 := hsq ⟨qx + i, qy + k⟩ ⟨by simp only; omega, by simp only; omega, by simp only; omega, by simp only; omega⟩ v hvv
                        refine awp_region cx [(12, .p (.bool v))] fun K hK => ?_
                        simp [push_cast, d1, e1, e3, Cell.row]
                        repeat (refine And.intro (by clear hK; intros; first | omega | (simp_all; done) | (simp_all <;> omega)) ?_)
                        refine hK _ ?_; clear hK K; refine Nav.imp ?_
                        refine awp_region cx [] fun K hK => ?_
                        simp [push_cast, e2]
                        repeat (refine And.intro (by clear hK; intros; first | omega | (simp_all; done) | (simp_all <;> omega)) ?_)
                        refine hK _ ?_; clear hK K; refine Nav.imp ?_
                        refine ⟨(k + 1, v), ⟨by omega, by omega, ?_⟩, by simp only; omega, ?_⟩
                        · rw [hst, hvv]; exact ⟨.inr, fun h => h.resolve_left fun h' => by have := ht.2 h'; cases this⟩
                        · refine weak_of [(0, some 0), (1, some 1), (2, some 2)] rfl (by simp [upT, up, upL, push_cast]) (by simp [upH, upR, upL, up, push_cast]) (by simp [namesOk, push_cast]) (by simp [olds])
                    · simp at hb
                  · have hk' : 1 < k := by omega
                    have hke : k = 2 := by omega
                    refine awp_cond (b := false) (by simp [push_cast, hk, hk']) (fun hb => ?_) (fun hb => ?_) <;> (refine Nav.imp ?_)
                    · simp at hb
                    · refine awp_region cx [] fun K hK => ?_
                      simp [push_cast, e0]
                      repeat (refine And.intro (by clear hK; intros; first | omega | (simp_all; done) | (simp_all <;> omega)) ?_)
                      refine hK _ ?_; clear hK K; refine Nav.imp ?_
                      refine ⟨(i + 1, t), ⟨by omega, by omega, ?_⟩, by simp only; omega, ?_⟩
                      · rw [ht, hke]; exact some_next
                      · refine weak_of [(0, some 0), (1, some 1), (2, some 2)] rfl (by simp [upT, up, upL, push_cast]) (by simp [upH, upR, upL, up, push_cast]) (by simp [namesOk, push_cast]) (by simp [olds])
              · simp at hb
            · have hi' : 1 < i := by omega
              have hie : i = 2 := by omega
              rw [hie, hall] at hs
              have hse : decide ((⟨qx, qy⟩ : Cell) ∈ regCells A) = s := by
                cases s with
                | true => exact decide_eq_true (hs.1 rfl)
                | false => exact decide_eq_false fun h => by have := hs.2 h; cases this
              rw [hse] at c9
              refine awp_cond (b := false) (by simp [push_cast, hi, hi']) (fun hb => ?_) (fun hb => ?_) <;> (refine Nav.imp ?_)
              · simp at hb
              · refine awp_region cx [(2, .p (.bool s)), (6, .p (.bool true))] fun K hK => ?_
                simp [push_cast, c9, c0, Cell.row]
                repeat (refine And.intro (by clear hK; intros; first | omega | (simp_all; done) | (simp_all <;> omega)) ?_)
                refine hK _ ?_; clear hK K; refine Nav.imp ?_
                simp [push_cast]

set_option maxRecDepth 100000 in
theorem thinDivides_lifted (os : Os) (started : os.Started) (H : Type) (enc : TypeId × Value → H) :
    ReturnsInHanded {} Try.checked os 4 .any (Rows.thinDividesSpec.pre6 enc Try.prog Try.f4 Rows.thinDividesRow.domain false) (Rows.thinDividesSpec.post enc Try.prog Try.f4 false true false false) := by
  refine returnsInHanded_of_change (C := Try.checked) own started (by kernel_rfl) Try.func4
    (ChangeSpec.witness6 (enc := enc) (C := Try.checked) false ⟨#[], #[zeroReg, zeroCell], []⟩ 8 (by kernel_rfl) (by kernel_rfl) (by kernel_rfl) (by kernel_rfl)) ?_
  intro W base args ds gs before hval hW _ _
  exact law_contract rfl (fun ds h => by match ds, h with | [a0, a1], _ => rfl) laidOut (by simp only [Try.params4]; intro t ht; simp at ht; rcases ht with rfl | rfl <;> exact ⟨by kernel_rfl, of_decide_eq_true (by kernel_rfl)⟩) (by kernel_rfl) rfl Try.underlying4
    (fun xs hx => by
      simp only [Try.params4, hasVs] at hx
      obtain ⟨x0, r0, rfl, h0, x1, r1, rfl, h1, rfl⟩ := hx
      obtain ⟨R, rfl⟩ := arg_region h0
      obtain ⟨c, rfl⟩ := arg_cell h1
      exact thindivides_ok R c) W base args ds gs before hval hW

theorem thinDivides_holds : Rows.ThinDividesSaid :=
  OpenClaim.holds_of_wide 4 Try.f4 rfl rfl rfl rfl rfl rfl rfl ⟨rfl, rfl, rfl, rfl, rfl⟩ rfl rfl rfl rfl rfl (by kernel_rfl) Try.func4 (by kernel_rfl)
    (of_decide_eq_true (by kernel_rfl)) (by unfold Func.isWrapper; first | (rw [if_pos (by decide +kernel)]; kernel_rfl) | (rw [if_neg (by decide +kernel)]; exact ⟨rfl, rfl⟩))
    (fun os started H enc _ => thinDivides_lifted os started H enc)

end Go.Proofs.Ytknelhiejjdioaa
