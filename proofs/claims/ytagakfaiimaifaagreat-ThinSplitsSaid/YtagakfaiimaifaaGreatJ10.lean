/-
  Texts of this seat put together: L0, F1, W2, Q3, Q4, W1, L1, Y1.
-/
import Derived.Test.YtagakfaiimaifaaGreatJ4
import Derived.Test.YtagakfaiimaifaaGreatJ3
import Derived.Test.YtagakfaiimaifaaGreatJ8
import Derived.Test.YtagakfaiimaifaaGreatJ7
import Derived.Test.YtagakfaiimaifaaGreatJ5
import Derived.Test.YtagakfaiimaifaaGreatChecked
set_option linter.unusedVariables false
set_option linter.unusedSimpArgs false
set_option maxRecDepth 100000
namespace Go.Proofs.YtagakfaiimaifaaGreat
open Go.Abs

/-! What the laws are called with. -/
theorem cell_of {f : Nat} {ds : List D} (h : hasT Tryz.prog (f + 2) 62 ds) : ∃ c : Cell, ds = c.row := by
  obtain ⟨hl, hp⟩ := hasT_struct (n := 2) (ts := [3, 3]) Tryz.underlying62 (by kernel_rfl) rfl (by kernel_rfl) h
  obtain ⟨d0, r0, e0, h0, hp0⟩ := parts_one (by kernel_rfl) hp (by simp_all <;> omega)
  subst e0
  obtain ⟨d1, r1, e1, h1, hp1⟩ := parts_one (by kernel_rfl) hp0 (by simp_all <;> omega)
  subst e1
  simp only [parts] at hp1
  subst hp1
  obtain ⟨n0, e0, w0⟩ := hasT_int Tryz.underlying3 h0
  cases e0
  obtain ⟨n1, e1, w1⟩ := hasT_int Tryz.underlying3 h1
  cases e1
  exact ⟨⟨n0, n1⟩, rfl⟩
theorem cells_of {f : Nat} {d : D} (h : hasT Tryz.prog (f + 3) 59 [d]) : ∃ l : List Cell, d = encCells l := by
  obtain ⟨rows, he, _, hr⟩ := hasT_slice Tryz.underlying59 h
  cases he
  obtain ⟨l, rfl⟩ := rows_of (row := Cell.row) fun r hr' => cell_of (hr r hr')
  exact ⟨l, rfl⟩
theorem run_of {f : Nat} {ds : List D} (h : hasT Tryz.prog (f + 2) 54 ds) : ∃ c : Run, ds = c.row := by
  obtain ⟨hl, hp⟩ := hasT_struct (n := 2) (ts := [3, 3]) Tryz.underlying54 (by kernel_rfl) rfl (by kernel_rfl) h
  obtain ⟨d0, r0, e0, h0, hp0⟩ := parts_one (by kernel_rfl) hp (by simp_all <;> omega)
  subst e0
  obtain ⟨d1, r1, e1, h1, hp1⟩ := parts_one (by kernel_rfl) hp0 (by simp_all <;> omega)
  subst e1
  simp only [parts] at hp1
  subst hp1
  obtain ⟨n0, e0, w0⟩ := hasT_int Tryz.underlying3 h0
  cases e0
  obtain ⟨n1, e1, w1⟩ := hasT_int Tryz.underlying3 h1
  cases e1
  exact ⟨⟨n0, n1⟩, rfl⟩
theorem runs_of {f : Nat} {d : D} (h : hasT Tryz.prog (f + 3) 50 [d]) : ∃ l : List Run, d = encRuns l := by
  obtain ⟨rows, he, _, hr⟩ := hasT_slice Tryz.underlying50 h
  cases he
  obtain ⟨l, rfl⟩ := rows_of (row := Run.row) fun r hr' => run_of (hr r hr')
  exact ⟨l, rfl⟩
theorem regrows_of {f : Nat} {d : D} (h : hasT Tryz.prog (f + 5) 22 [d]) : ∃ l : List Row, d = encRows l := by
  obtain ⟨rows, he, _, hr⟩ := hasT_slice Tryz.underlying22 h
  cases he
  obtain ⟨l, rfl⟩ := rows_of (row := Row.row) fun r hr' => by
    obtain ⟨hl, hp⟩ := hasT_struct (n := 2) (ts := [3, 50]) Tryz.underlying52 (by kernel_rfl) rfl (by kernel_rfl) (hr r hr')
    obtain ⟨d0, r0, e0, h0, hp0⟩ := parts_one (by kernel_rfl) hp (by simp_all <;> omega)
    subst e0
    obtain ⟨d1, r1, e1, h1, hp1⟩ := parts_one (by kernel_rfl) hp0 (by simp_all <;> omega)
    subst e1
    simp only [parts] at hp1
    subst hp1
    obtain ⟨n0, e0, w0⟩ := hasT_int Tryz.underlying3 h0
    cases e0
    obtain ⟨c, rfl⟩ := runs_of h1
    exact ⟨⟨n0, c⟩, rfl⟩
  exact ⟨l, rfl⟩
theorem region_of {f : Nat} {ds : List D} (h : hasT Tryz.prog (f + 6) 24 ds) : ∃ l : List Row, ds = regRow l := by
  obtain ⟨hl, hp⟩ := hasT_struct (n := 1) (ts := [22]) Tryz.underlying24 (by kernel_rfl) rfl (by kernel_rfl) h
  obtain ⟨d0, r0, e0, h0, hp0⟩ := parts_one (by kernel_rfl) hp (by simp_all <;> omega)
  subst e0
  simp only [parts] at hp0
  subst hp0
  obtain ⟨c, rfl⟩ := regrows_of h0
  exact ⟨c, rfl⟩

theorem arg_region {x : D} (h : hasV Tryz.prog 24 x) : ∃ R : List Row, x = .agg (regRow R) := by
  simp only [hasV, Tryz.underlying24] at h
  obtain ⟨cs, rfl, h⟩ := h
  obtain ⟨s, rfl⟩ := region_of (f := 24) h
  exact ⟨s, rfl⟩
theorem arg_cells {x : D} (h : hasV Tryz.prog 59 x) : ∃ l : List Cell, x = encCells l := by
  simp only [hasV, Tryz.underlying59] at h
  exact cells_of (f := 27) h
theorem arg_cell {x : D} (h : hasV Tryz.prog 62 x) : ∃ c : Cell, x = .agg c.row := by
  simp only [hasV, Tryz.underlying62] at h
  obtain ⟨cs, rfl, h⟩ := h
  obtain ⟨s, rfl⟩ := cell_of (f := 28) h
  exact ⟨s, rfl⟩
theorem arg_int {x : D} (h : hasV Tryz.prog 3 x) : ∃ n : Int, x = .int .i64 n := by
  obtain ⟨n, rfl, _⟩ := hasV_int Tryz.underlying3 h
  exact ⟨n, rfl⟩

theorem own : ownKnob Tryz.prog.godebug = none := by kernel_rfl
theorem laidOut : laidOutB Tryz.prog = true := by kernel_rfl
def zeroCell : Value := .agg #[.int .i64 0, .int .i64 0]
def zeroReg : Value := .agg #[.slice none 0 0]
end Go.Proofs.YtagakfaiimaifaaGreat

set_option linter.unusedVariables false
set_option linter.unusedSimpArgs false
set_option maxRecDepth 100000
namespace Go.Proofs.YtagakfaiimaifaaGreat
open Go.Abs

/-! A region cut short. -/
def cut20 (x : Run) : Run := if x.a < x.b ∧ -4097 < x.a ∧ x.b < 4097 ∧ x.a < x.b - 20 then ⟨x.a, x.a + 20⟩ else x
def fewW (w : Row) : Row := ⟨w.y, (w.runs.take 4).map cut20⟩
def fewR (R : List Row) : List Row := (R.take 12).map fewW

theorem few_small (R : List Row) : smallR (fewR R) := by
  refine ⟨by simp [fewR]; omega, fun w hw => ?_⟩
  obtain ⟨v, _, rfl⟩ := List.mem_map.1 hw
  simp [fewW]; omega

set_option maxHeartbeats 4000000 in
theorem few_ok (R : List Row) : PC Tryz.prog 9 [.agg (regRow R)] (.p (.agg (regRow (fewR R)))) := by
  refine pc_of_awp cx (fn := Tryz.f9) (c := _) Tryz.func9 rfl rfl (Nat.le_of_ble_eq_true rfl) ?_
  rw [Tryz.ntmps9]; refine Nav.imp ?_
  refine awp_region cx [] fun K hK => ?_
  simp [push_cast]
  repeat (refine And.intro (by clear hK; intros; first | omega | (simp_all; done) | (simp_all <;> omega)) ?_)
  refine hK _ ?_; clear hK K; refine Nav.imp ?_
  refine awp_region cx [] fun K hK => ?_
  simp [push_cast]
  repeat (refine And.intro (by clear hK; intros; first | omega | (simp_all; done) | (simp_all <;> omega)) ?_)
  refine hK _ ?_; clear hK K; refine Nav.imp ?_
  refine awp_region cx [] fun K hK => ?_
  simp [push_cast]
  repeat (refine And.intro (by clear hK; intros; first | omega | (simp_all; done) | (simp_all <;> omega)) ?_)
  refine hK _ ?_; clear hK K; refine Nav.imp ?_
  refine awp_loop (β := Nat × List Row) (fun b => ⟨86, [(1, .ptr 0 0 0), (2, .ptr 1 0 0), (3, .ptr 2 0 0), (4, .d (.int .i64 b.1))], [(0, some ⟨24, 1, [(regRow R).map .d]⟩), (1, some ⟨24, 1, [[.nl]]⟩), (2, some ⟨24, 1, [[.hs 3 0 b.2.length]]⟩), (3, some ⟨52, 2, dr (b.2.map Row.row)⟩)], 4⟩) (fun b => b.1 ≤ R.length ∧ b.1 ≤ 12 ∧ b.2 = (R.take b.1).map fewW) (fun b => R.length - b.1) (0, []) ?_ ⟨Nat.zero_le _, by omega, by simp⟩ ?_
  · refine weak_of [(0, some 0), (1, some 1), (2, some 2), (3, none)] rfl (by simp [upT, up, upL, push_cast]) (by simp [upH, upR, upL, up, push_cast]) (by simp [namesOk, push_cast]) (by simp [olds])
  · rintro ⟨k, out⟩ ⟨hk, hk2, hout⟩
    simp only at hk hk2 hout
    refine Nav.imp ?_
    refine awp_region cx [] fun K hK => ?_
    simp [push_cast]
    repeat (refine And.intro (by clear hK; intros; first | omega | (simp_all; done) | (simp_all <;> omega)) ?_)
    refine hK _ ?_; clear hK K; refine Nav.imp ?_
    refine awp_cond (by simp [push_cast] <;> exact rfl) (fun hb => ?_) (fun hb => ?_) <;> (refine Nav.imp ?_)
    · simp at hb
      obtain ⟨hlt, h12⟩ := hb
      obtain ⟨w, hw⟩ := getq hlt
      have e0 := wrap_i64 (n := (k : Int) + 1) (by omega) (by omega)
      have hnext : (R.take (k + 1)).map fewW = (R.take k).map fewW ++ [fewW w] := by rw [take_get hw]; simp
      have hol : out.length ≤ 12 := by rw [hout]; simp; omega
      have ho40 : (out.length + 1) * 32 ≤ 140737488355328 := by omega
      obtain ⟨y, ru⟩ := w
      refine awp_region cx [] fun K hK => ?_
      simp [push_cast, hw, Row.row]
      repeat (refine And.intro (by clear hK; intros; first | omega | (simp_all; done) | (simp_all <;> omega)) ?_)
      refine hK _ ?_; clear hK K; refine Nav.imp ?_
      refine awp_region cx [] fun K hK => ?_
      simp [push_cast, Row.row]
      repeat (refine And.intro (by clear hK; intros; first | omega | (simp_all; done) | (simp_all <;> omega)) ?_)
      refine hK _ ?_; clear hK K; refine Nav.imp ?_
      apply cut_
      · intro key
        refine awp_cond (b := decide (4 < (ru.length : Int))) (by simp [push_cast]) (fun hb => ?_) (fun hb => ?_) <;> (refine Nav.imp ?_)
        · have hb : 4 < ru.length := by simp at hb; omega
          have h4 : 4 ≤ ru.length := by omega
          refine awp_region cx [] fun K hK => ?_
          simp [push_cast, Row.row, h4]
          repeat (refine And.intro (by clear hK; intros; first | omega | (simp_all; done) | (simp_all <;> omega)) ?_)
          refine hK _ ?_; clear hK K; refine Nav.imp ?_
          refine awp_weak (s' := ⟨86, [(1, .ptr 0 0 0), (2, .ptr 1 0 0), (3, .ptr 2 0 0), (4, .d (.int .i64 k)), (5, .ptr 4 0 0)], [(0, some ⟨24, 1, [(regRow R).map .d]⟩), (1, some ⟨24, 1, [[.nl]]⟩), (2, some ⟨24, 1, [[.hs 3 0 out.length]]⟩), (3, some ⟨52, 2, dr (out.map Row.row)⟩), (4, some ⟨52, 2, [(Row.row ⟨y, ru.take 4⟩).map .d]⟩)], 5⟩) ?_ key.h
          refine weak_of [(0, some 0), (1, some 1), (2, some 2), (3, some 3), (4, some 18)] rfl (by simp [upT, up, upL, push_cast, Row.row]) (by simp [upH, upR, upL, up, push_cast, Row.row]) (by simp [namesOk, push_cast]) (by simp [olds])
        · have hb : ru.take 4 = ru := List.take_of_length_le (by simp at hb; omega)
          refine awp_weak (s' := ⟨86, [(1, .ptr 0 0 0), (2, .ptr 1 0 0), (3, .ptr 2 0 0), (4, .d (.int .i64 k)), (5, .ptr 4 0 0)], [(0, some ⟨24, 1, [(regRow R).map .d]⟩), (1, some ⟨24, 1, [[.nl]]⟩), (2, some ⟨24, 1, [[.hs 3 0 out.length]]⟩), (3, some ⟨52, 2, dr (out.map Row.row)⟩), (4, some ⟨52, 2, [(Row.row ⟨y, ru.take 4⟩).map .d]⟩)], 5⟩) ?_ key.h
          rw [hb]
          refine weak_of [(0, some 0), (1, some 1), (2, some 2), (3, some 3), (4, some 18)] rfl (by simp [upT, up, upL, push_cast, Row.row]) (by simp [upH, upR, upL, up, push_cast, Row.row]) (by simp [namesOk, push_cast]) (by simp [olds])
      · have hW : fewW ⟨y, ru⟩ = ⟨y, (ru.take 4).map cut20⟩ := rfl
        rw [hW] at hnext
        have hl4 : (ru.take 4).length ≤ 4 := by simp; omega
        generalize ru.take 4 = l at *
        refine Nav.imp ?_
        refine awp_region cx [] fun K hK => ?_
        simp [push_cast]
        repeat (refine And.intro (by clear hK; intros; first | omega | (simp_all; done) | (simp_all <;> omega)) ?_)
        refine hK _ ?_; clear hK K; refine Nav.imp ?_
        refine awp_region cx [] fun K hK => ?_
        simp [push_cast]
        repeat (refine And.intro (by clear hK; intros; first | omega | (simp_all; done) | (simp_all <;> omega)) ?_)
        refine hK _ ?_; clear hK K; refine Nav.imp ?_
        refine awp_loop (β := Nat × List Run) (fun b => ⟨86, [(1, .ptr 0 0 0), (2, .ptr 1 0 0), (3, .ptr 2 0 0), (4, .d (.int .i64 k)), (5, .ptr 4 0 0), (6, .hs 5 0 b.2.length), (7, .d (.int .i64 b.1))], [(0, some ⟨24, 1, [(regRow R).map .d]⟩), (1, some ⟨24, 1, [[.nl]]⟩), (2, some ⟨24, 1, [[.hs 3 0 out.length]]⟩), (3, some ⟨52, 2, dr (out.map Row.row)⟩), (4, some ⟨52, 2, [(Row.row ⟨y, l⟩).map .d]⟩), (5, some ⟨54, 2, dr (b.2.map Run.row)⟩)], 6⟩) (fun b => b.1 ≤ l.length ∧ b.2 = (l.take b.1).map cut20) (fun b => l.length - b.1) (0, []) ?_ ⟨Nat.zero_le _, by simp⟩ ?_
        · refine weak_of [(0, some 0), (1, some 1), (2, some 2), (3, some 3), (4, some 4), (5, none)] rfl (by simp [upT, up, upL, push_cast, Row.row]) (by simp [upH, upR, upL, up, push_cast, Row.row]) (by simp [namesOk, push_cast]) (by simp [olds])
        · rintro ⟨j, L⟩ ⟨hj, hL⟩
          simp only at hj hL
          refine Nav.imp ?_
          refine awp_region cx [] fun K hK => ?_
          simp [push_cast, Row.row]
          repeat (refine And.intro (by clear hK; intros; first | omega | (simp_all; done) | (simp_all <;> omega)) ?_)
          refine hK _ ?_; clear hK K; refine Nav.imp ?_
          refine awp_cond (b := decide ((j : Int) < l.length)) (by simp [push_cast]) (fun hb => ?_) (fun hb => ?_) <;> (refine Nav.imp ?_)
          · have hjl : j < l.length := by simpa using hb
            obtain ⟨x, hx⟩ := getq hjl
            have e1 := wrap_i64 (n := (j : Int) + 1) (by omega) (by omega)
            have hLl : L.length ≤ 4 := by rw [hL]; simp; omega
            have hL16 : (L.length + 1) * 16 ≤ 140737488355328 := by omega
            have hnx : (l.take (j + 1)).map cut20 = (l.take j).map cut20 ++ [cut20 x] := by rw [take_get hx]; simp
            have hcx : cut20 x = if x.a < x.b ∧ -4097 < x.a ∧ x.b < 4097 ∧ x.a < x.b - 20 then ⟨x.a, x.a + 20⟩ else x := rfl
            rw [← hL] at hnx
            obtain ⟨xa, xb⟩ := x
            simp only at hcx
            refine awp_region cx [] fun K hK => ?_
            simp [push_cast, hx, Row.row, Run.row]
            repeat (refine And.intro (by clear hK; intros; first | omega | (simp_all; done) | (simp_all <;> omega)) ?_)
            refine hK _ ?_; clear hK K; refine Nav.imp ?_
            refine awp_region cx [] fun K hK => ?_
            simp [push_cast, Run.row]
            repeat (refine And.intro (by clear hK; intros; first | omega | (simp_all; done) | (simp_all <;> omega)) ?_)
            refine hK _ ?_; clear hK K; refine Nav.imp ?_
            apply cut_
            · intro ky
              refine awp_cond (by simp [push_cast] <;> exact rfl) (fun hb => ?_) (fun hb => ?_) <;> (refine Nav.imp ?_)
              · simp at hb
                obtain ⟨⟨⟨b1, b2⟩, b3⟩, b4⟩ := hb
                have e2 := wrap_i64 (n := xb - 20) (by omega) (by omega)
                rw [e2] at b4
                have e3 := wrap_i64 (n := xa + 20) (by omega) (by omega)
                have hc : cut20 ⟨xa, xb⟩ = ⟨xa, xa + 20⟩ := by rw [hcx, if_pos ⟨b1, by omega, b3, b4⟩]
                refine awp_region cx [] fun K hK => ?_
                simp [push_cast, Run.row, e3]
                repeat (refine And.intro (by clear hK; intros; first | omega | (simp_all; done) | (simp_all <;> omega)) ?_)
                refine hK _ ?_; clear hK K; refine Nav.imp ?_
                refine awp_weak (s' := ⟨86, [(1, .ptr 0 0 0), (2, .ptr 1 0 0), (3, .ptr 2 0 0), (4, .d (.int .i64 k)), (5, .ptr 4 0 0), (6, .hs 5 0 L.length), (7, .d (.int .i64 j)), (8, .ptr 6 0 0)], [(0, some ⟨24, 1, [(regRow R).map .d]⟩), (1, some ⟨24, 1, [[.nl]]⟩), (2, some ⟨24, 1, [[.hs 3 0 out.length]]⟩), (3, some ⟨52, 2, dr (out.map Row.row)⟩), (4, some ⟨52, 2, [(Row.row ⟨y, l⟩).map .d]⟩), (5, some ⟨54, 2, dr (L.map Run.row)⟩), (6, some ⟨54, 2, [(cut20 ⟨xa, xb⟩).row.map .d]⟩)], 7⟩) ?_ ky.h
                rw [hc]
                refine weak_of [(0, some 0), (1, some 1), (2, some 2), (3, some 3), (4, some 4), (5, some 5), (6, some 16)] rfl (by simp [upT, up, upL, push_cast, Row.row, Run.row]) (by simp [upH, upR, upL, up, push_cast, Row.row, Run.row]) (by simp [namesOk, push_cast]) (by simp [olds])
              · simp at hb
                have hc : cut20 ⟨xa, xb⟩ = ⟨xa, xb⟩ := by
                  rw [hcx, if_neg]
                  rintro ⟨b1, b2, b3, b4⟩
                  have e2 := wrap_i64 (n := xb - 20) (by omega) (by omega)
                  have := hb b1 (by omega) b3
                  rw [e2] at this
                  omega
                refine awp_weak (s' := ⟨86, [(1, .ptr 0 0 0), (2, .ptr 1 0 0), (3, .ptr 2 0 0), (4, .d (.int .i64 k)), (5, .ptr 4 0 0), (6, .hs 5 0 L.length), (7, .d (.int .i64 j)), (8, .ptr 6 0 0)], [(0, some ⟨24, 1, [(regRow R).map .d]⟩), (1, some ⟨24, 1, [[.nl]]⟩), (2, some ⟨24, 1, [[.hs 3 0 out.length]]⟩), (3, some ⟨52, 2, dr (out.map Row.row)⟩), (4, some ⟨52, 2, [(Row.row ⟨y, l⟩).map .d]⟩), (5, some ⟨54, 2, dr (L.map Run.row)⟩), (6, some ⟨54, 2, [(cut20 ⟨xa, xb⟩).row.map .d]⟩)], 7⟩) ?_ ky.h
                rw [hc]
                refine weak_of [(0, some 0), (1, some 1), (2, some 2), (3, some 3), (4, some 4), (5, some 5), (6, some 16)] rfl (by simp [upT, up, upL, push_cast, Row.row, Run.row]) (by simp [upH, upR, upL, up, push_cast, Row.row, Run.row]) (by simp [namesOk, push_cast]) (by simp [olds])
            · generalize cut20 ⟨xa, xb⟩ = c at *
              obtain ⟨ca, cb⟩ := c
              refine Nav.imp ?_
              refine awp_region cx [] fun K hK => ?_
              simp [push_cast, Run.row, hL16]
              repeat (refine And.intro (by clear hK; intros; first | omega | (simp_all; done) | (simp_all <;> omega)) ?_)
              refine hK _ ?_; clear hK K; refine Nav.imp ?_
              refine awp_region cx [] fun K hK => ?_
              simp [push_cast, e1]
              repeat (refine And.intro (by clear hK; intros; first | omega | (simp_all; done) | (simp_all <;> omega)) ?_)
              refine hK _ ?_; clear hK K; refine Nav.imp ?_
              refine ⟨(j + 1, L ++ [⟨ca, cb⟩]), ⟨hjl, hnx.symm⟩, by simp only; omega, ?_⟩
              refine weak_of [(0, some 0), (1, some 1), (2, some 2), (3, some 3), (4, some 4), (5, some 10)] rfl (by simp [upT, up, upL, push_cast, Row.row, Run.row]) (by simp [upH, upR, upL, up, push_cast, Row.row, Run.row]) (by simp [namesOk, push_cast]) (by simp [olds])
          · have hjn : j = l.length := by simp at hb; omega
            subst hjn
            rw [List.take_length] at hL
            have hcl : (⟨y, l.map cut20⟩ : Row) = ⟨y, L⟩ := by rw [hL]
            rw [hcl, ← hout] at hnext
            refine awp_freeze 5 (L.map Run.row) rfl (by simp [push_cast, Run.row]) fun K hK => ?_
            simp [push_cast, St.fz, fzT, fzH, fzO, fz, fzL, fzR, fzR_dr, fzR_app, fzR_set, fzL_map, Run.row]
            refine hK _ ?_; clear hK K; refine Nav.imp ?_
            refine awp_region cx [] fun K hK => ?_
            simp [push_cast, Row.row, ho40]
            repeat (refine And.intro (by clear hK; intros; first | omega | (simp_all; done) | (simp_all <;> omega)) ?_)
            refine hK _ ?_; clear hK K; refine Nav.imp ?_
            refine awp_region cx [] fun K hK => ?_
            simp [push_cast, e0]
            repeat (refine And.intro (by clear hK; intros; first | omega | (simp_all; done) | (simp_all <;> omega)) ?_)
            refine hK _ ?_; clear hK K; refine Nav.imp ?_
            refine ⟨(k + 1, out ++ [⟨y, L⟩]), ⟨hlt, by simp only; omega, hnext.symm⟩, by simp only; omega, ?_⟩
            refine weak_of [(0, some 0), (1, some 1), (2, some 2), (3, some 18)] rfl (by simp [upT, up, upL, push_cast, Row.row]) (by simp [upH, upR, upL, up, push_cast, Row.row]) (by simp [namesOk, push_cast]) (by simp [olds])
    · simp at hb
      have hf : fewR R = out := by
        rw [hout]
        unfold fewR
        congr 1
        by_cases h : k < R.length
        · rw [show k = 12 from by have := hb h; omega]
        · rw [List.take_of_length_le (by omega), List.take_of_length_le (by omega)]
      rw [hf]
      clear hf hout
      refine awp_freeze 3 (out.map Row.row) rfl (by simp [push_cast, Row.row]) fun K hK => ?_
      simp [push_cast, St.fz, fzT, fzH, fzO, fz, fzL, fzR, fzR_dr, fzR_app, fzR_set, fzL_map, Row.row]
      refine hK _ ?_; clear hK K; refine Nav.imp ?_
      refine awp_region cx [] fun K hK => ?_
      simp [push_cast]
      repeat (refine And.intro (by clear hK; intros; first | omega | (simp_all; done) | (simp_all <;> omega)) ?_)
      refine hK _ ?_; clear hK K; refine Nav.imp ?_
      simp [push_cast]
end Go.Proofs.YtagakfaiimaifaaGreat

set_option linter.unusedVariables false
set_option linter.unusedSimpArgs false
set_option maxRecDepth 100000
namespace Go.Proofs.YtagakfaiimaifaaGreat
open Go.Abs

theorem cellsOf_on (R : List Row) : ∀ c ∈ cellsOf R, onG c = true := by
  intro c hc
  unfold cellsOf at hc
  split at hc
  · rename_i h; exact cells_on h hc
  · simp at hc
theorem fT_len (l : List Cell) (c : Cell) : (fT l c).length ≤ 1 := by unfold fT; split <;> (try split) <;> simp
theorem fS_len (l : List Cell) (c : Cell) : (fS l c).length ≤ 1 := by unfold fS; split <;> (try split) <;> simp
theorem vT_len (l : List Cell) (c : Cell) : (vT l c).length ≤ 1 := by unfold vT; split <;> simp
theorem flat_one {α β : Type} {f : α → List β} (h : ∀ x, (f x).length ≤ 1) : ∀ l : List α, (l.flatMap f).length ≤ l.length
  | [] => by simp
  | x :: l => by
    have := h x; have := flat_one h l
    rw [List.flatMap_cons, List.length_append, List.length_cons]; omega
theorem take_flat_one {α β : Type} {f : α → List β} (h : ∀ x, (f x).length ≤ 1) (l : List α) (k : Nat) : ((l.take k).flatMap f).length ≤ l.length := by
  have := flat_one h (l.take k)
  simp at this ⊢; omega

def refL (l : List Cell) : List Track := l.flatMap (fT l) ++ upAll (l.flatMap (fS l))

end Go.Proofs.YtagakfaiimaifaaGreat

set_option linter.unusedVariables false
set_option linter.unusedSimpArgs false
set_option maxRecDepth 100000
namespace Go.Proofs.YtagakfaiimaifaaGreat
open Go.Abs

/-! How the program divides its ordered single cells. -/
/-- n cells from place i on, one above the other, from cell a on. -/
def Col (s : List Cell) (i n : Nat) (a : Cell) : Prop := ∀ j, j < n → s[i + j]? = some ⟨a.x, a.y + j⟩
def Stop (s : List Cell) (i n : Nat) (a : Cell) : Prop := ∀ b, s[i + n]? = some b → ¬ (b.x = a.x ∧ b.y = a.y + n)

theorem col_out {s : List Cell} (h : s.Pairwise ltX) {i n : Nat} {a : Cell} (hn : 0 < n) (hc : Col s i n a) (hs : Stop s i n a) : (⟨a.x, a.y + n⟩ : Cell) ∉ s := by
  intro hm
  have h1 := hc (n - 1) (by omega)
  have hu : upc (⟨a.x, a.y + ((n - 1 : Nat) : Int)⟩ : Cell) = ⟨a.x, a.y + n⟩ := by simp [upc]; omega
  have h2 := up_next h h1 (by rw [hu]; exact hm)
  rw [hu, show i + (n - 1) + 1 = i + n from by omega] at h2
  exact hs _ h2 ⟨rfl, rfl⟩
theorem col_vch {s : List Cell} (h : s.Pairwise ltX) (hon : ∀ c ∈ s, onG c = true) {i n : Nat} {a : Cell} (hn : 0 < n) (hc : Col s i n a) (hs : Stop s i n a) : ∀ (m j : Nat), m + j = n → vch s ⟨a.x, a.y + j⟩ = (s.drop (i + j)).take m
  | 0, j, hj => by
    have : j = n := by omega
    subst this
    rw [vch_out (col_out h hn hc hs)]; simp
  | m + 1, j, hj => by
    have h1 := hc j (by omega)
    have hm := List.mem_of_getElem? h1
    have hg := onG_bd (hon _ hm)
    have ih := col_vch h hon hn hc hs m (j + 1) (by omega)
    rw [vch_in hm (by simpa using hg.2.2.2), drop_get h1, List.take_succ_cons]
    congr 1
    rw [show i + j + 1 = i + (j + 1) from by omega, ← ih]
    simp only [upc]
    congr 2
    omega
theorem col_piece {s : List Cell} (h : s.Pairwise ltX) (hon : ∀ c ∈ s, onG c = true) {i n : Nat} {a : Cell} (hn : 0 < n) (hc : Col s i n a) (hs : Stop s i n a) (hv : vst s a = true) :
    (s.take (i + n)).flatMap (vT s) = (s.take i).flatMap (vT s) ++ [trk ((s.drop i).take n)] := by
  have h0 := col_vch h hon hn hc hs n 0 (by omega)
  have e0 : (⟨a.x, a.y + ((0 : Nat) : Int)⟩ : Cell) = a := by cases a; simp
  rw [e0, Nat.add_zero] at h0
  rw [List.take_add, List.flatMap_append]
  congr 1
  have hd : ∀ (m j : Nat), m + j = n → 0 < j → ((s.drop (i + j)).take m).flatMap (vT s) = [] := by
    intro m
    induction m with
    | zero => intro j _ _; simp
    | succ m ih =>
      intro j hj h1
      have h2 := hc j (by omega)
      have h3 := hc (j - 1) (by omega)
      rw [drop_get h2, List.take_succ_cons, List.flatMap_cons, show i + j + 1 = i + (j + 1) from by omega, ih (j + 1) (by omega) (by omega), List.append_nil]
      have : vst s ⟨a.x, a.y + (j : Int)⟩ = false := by
        simp only [vst, Bool.not_eq_false', decide_eq_true_eq]
        have e : (⟨a.x, a.y + ((j - 1 : Nat) : Int)⟩ : Cell) = ⟨a.x, a.y + (j : Int) - 1⟩ := by simp; omega
        rw [← e]
        exact List.mem_of_getElem? h3
      simp [vT, this]
  obtain ⟨m, rfl⟩ : ∃ m, n = m + 1 := ⟨n - 1, by omega⟩
  have h2 := hc 0 (by omega)
  rw [e0, Nat.add_zero] at h2
  conv => lhs; rw [drop_get h2, List.take_succ_cons, List.flatMap_cons]
  rw [hd m 1 (by omega) (by omega), ← h0]
  simp [vT, hv]
theorem col_next {s : List Cell} (h : s.Pairwise ltX) {i n : Nat} {a b : Cell} (hn : 0 < n) (hc : Col s i n a) (hs : Stop s i n a) (hb : s[i + n]? = some b) : vst s b = true := by
  have h1 := hc (n - 1) (by omega)
  have := hs b hb
  refine (down_prev h h1 (show s[i + (n - 1) + 1]? = some b by rw [show i + (n - 1) + 1 = i + n from by omega]; exact hb)).2 ?_
  simp only
  intro ⟨h2, h3⟩
  exact this ⟨h2, by omega⟩

/-! The comparisons order what they compare. -/
theorem cfX_ord : CmpOrd VC cfX where
  irrefl := by rintro _ ⟨⟨ax, ay⟩, rfl, _⟩; simp [cfX, Cell.row]
  trans := by
    rintro _ _ _ ⟨⟨ax, ay⟩, rfl, _⟩ ⟨⟨bx, by'⟩, rfl, _⟩ ⟨⟨dx, dy⟩, rfl, _⟩
    simp only [cfX, Cell.row]
    intro h1 h2
    split at h1 <;> split at h2 <;> split <;> omega
  ntrans := by
    rintro _ _ _ ⟨⟨ax, ay⟩, rfl, _⟩ ⟨⟨bx, by'⟩, rfl, _⟩ ⟨⟨dx, dy⟩, rfl, _⟩
    simp only [cfX, Cell.row]
    intro h1 h2
    split at h1 <;> split at h2 <;> split <;> omega
theorem cfX_cells (a b : Cell) : cfX a.row b.row < 0 ↔ ltX a b := by
  cases a; cases b
  simp only [cfX, Cell.row, ltX]
  split <;> omega
theorem cfY_of {s t : Track} {c d : Cell} {l m : List Cell} (h1 : s.cells = c :: l) (h2 : t.cells = d :: m) : cfY s.row t.row = if c.y ≠ d.y then c.y - d.y else c.x - d.x := by
  cases s; cases t; cases c; cases d
  simp only at h1 h2
  subst h1 h2
  rw [cfY_rows]
theorem cfY_ord : CmpOrd VT cfY where
  irrefl := by rintro _ ⟨t, c, l, rfl, h, _⟩; rw [cfY_of h h]; simp
  trans := by
    rintro _ _ _ ⟨t, c, l, rfl, h, _⟩ ⟨t', c', l', rfl, h', _⟩ ⟨t'', c'', l'', rfl, h'', _⟩
    rw [cfY_of h h', cfY_of h' h'', cfY_of h h'']
    intro h1 h2
    split at h1 <;> split at h2 <;> split <;> omega
  ntrans := by
    rintro _ _ _ ⟨t, c, l, rfl, h, _⟩ ⟨t', c', l', rfl, h', _⟩ ⟨t'', c'', l'', rfl, h'', _⟩
    rw [cfY_of h h', cfY_of h' h'', cfY_of h h'']
    intro h1 h2
    split at h1 <;> split at h2 <;> split <;> omega

/-! The two sorts. -/
theorem sortX_rows (l : List Cell) (hd : l.Nodup) : ((sortX l).map Cell.row).Pairwise fun a b => ¬ cfX b a < 0 := by
  rw [List.pairwise_map]
  refine (sortX_lt hd).imp fun {a b} h => ?_
  rw [cfX_cells]
  simp only [ltX] at *
  omega
theorem cfX_anti {a b : Cell} (h1 : ¬ cfX b.row a.row < 0) (h2 : ¬ cfX a.row b.row < 0) : a = b := by
  rw [cfX_cells] at h1 h2
  cases a; cases b
  simp only [ltX, Cell.mk.injEq] at *
  omega
theorem upAll_VT {s : List Cell} (hon : ∀ c ∈ s, onG c = true) {t : Track} (ht : t ∈ upAll s) : VT t.row := by
  obtain ⟨c, hc, _, l, hl⟩ := upAll_mem hon ht
  exact ⟨t, c, l, rfl, hl, hon c hc⟩
theorem upAll_rows {l : List Cell} (hp : l.Pairwise ltY) (hon : ∀ c ∈ l, onG c = true) : ((upAll l).map Track.row).Pairwise fun a b => ¬ cfY b a < 0 := by
  rw [List.pairwise_map]
  refine List.Pairwise.imp_of_mem (fun {s t} hs ht h => ?_) (upAll_pw hp hon)
  obtain ⟨c, hc, _, l, hl⟩ := upAll_mem hon hs
  obtain ⟨d, hd, _, m, hm⟩ := upAll_mem hon ht
  rw [cfY_of hm hl]
  rw [hl, hm] at h
  simp only [ltY, List.getElem?_cons_zero, Option.getD_some] at h
  split <;> omega
theorem upAll_anti {l : List Cell} (hon : ∀ c ∈ l, onG c = true) {s t : Track} (hs : s ∈ upAll l) (ht : t ∈ upAll l) (h1 : ¬ cfY t.row s.row < 0) (h2 : ¬ cfY s.row t.row < 0) : s = t := by
  obtain ⟨c, hc, e1, l1, hl⟩ := upAll_mem hon hs
  obtain ⟨d, hd, e2, m, hm⟩ := upAll_mem hon ht
  rw [cfY_of hm hl] at h1
  rw [cfY_of hl hm] at h2
  have : c = d := by
    cases c; cases d
    simp only [Cell.mk.injEq] at *
    split at h1 <;> split at h2 <;> omega
  rw [e1, e2, this]

/-- The tracks that cover a region. -/
def linesOf (R : List Row) : List Track := if validR R then regTrk R ++ upAll (regSng R) else []
theorem upAll_len {s : List Cell} : (upAll s).length ≤ s.length := by
  have : ∀ l : List Cell, (l.flatMap (vT s)).length ≤ l.length := by
    intro l
    induction l with
    | nil => simp
    | cons c l ih =>
      rw [List.flatMap_cons, List.length_append, List.length_cons]
      have : (vT s c).length ≤ 1 := by unfold vT; split <;> simp
      omega
  exact this s
end Go.Proofs.YtagakfaiimaifaaGreat

set_option linter.unusedVariables false
set_option linter.unusedSimpArgs false
set_option maxRecDepth 100000
namespace Go.Proofs.YtagakfaiimaifaaGreat
open Go.Abs

/-! Sizes. -/
theorem flat_bound {α β : Type} {f : α → List β} {k n : Nat} {l : List α} (hl : l.length ≤ n) (h : ∀ x ∈ l, (f x).length ≤ k) : (l.flatMap f).length ≤ n * k := by
  have : ∀ m : List α, (∀ x ∈ m, (f x).length ≤ k) → (m.flatMap f).length ≤ m.length * k := by
    intro m
    induction m with
    | nil => simp
    | cons x m ih =>
      intro h
      have h1 := h x (by simp)
      have h2 := ih fun y hy => h y (by simp [hy])
      rw [List.flatMap_cons, List.length_append, List.length_cons, Nat.succ_mul]
      omega
  exact Nat.le_trans (this l h) (Nat.mul_le_mul_right _ hl)
theorem few_rows (R : List Row) : (fewR R).length ≤ 12 ∧ ∀ w ∈ fewR R, w.runs.length ≤ 4 := by
  refine ⟨by simp [fewR]; omega, fun w hw => ?_⟩
  obtain ⟨v, _, rfl⟩ := List.mem_map.1 hw
  simp [fewW]; omega
theorem few_cells {R : List Row} (h : validR (fewR R) = true) : (regCells (fewR R)).length ≤ 393216 := by
  obtain ⟨h1, h2⟩ := few_rows R
  refine flat_bound (n := 12) (k := 32768) h1 fun w hw => flat_bound (n := 4) (k := 8192) (h2 w hw) fun r hr => ?_
  have := row_runs h hw hr
  rw [runCells_len]; omega
theorem few_cells' {R : List Row} (h : validR (fewR R) = true) : (regCells (fewR R)).length ≤ 1000000 := by have := few_cells h; omega
theorem few_cellsOf (R : List Row) : (cellsOf (fewR R)).length ≤ 1000000 := by
  unfold cellsOf
  split
  · rename_i h; exact few_cells' h
  · simp
theorem refL_lines (R : List Row) : refL (cellsOf R) = linesOf R := by
  unfold refL cellsOf linesOf
  split
  · rename_i h
    rw [(ref_trk h).1, (ref_trk h).2]
  · simp [upAll]
theorem lines_len {R : List Row} : (linesOf (fewR R)).length ≤ 96 := by
  unfold linesOf
  split
  · rename_i h
    obtain ⟨h1, h2⟩ := few_rows R
    have e1 : (regTrk (fewR R)).length ≤ 12 * (4 * 1) := flat_bound h1 fun w hw => flat_bound (h2 w hw) fun r hr => by unfold trkOf; split <;> simp
    have e2 : (regSng (fewR R)).length ≤ 12 * (4 * 1) := flat_bound h1 fun w hw => flat_bound (h2 w hw) fun r hr => by unfold sngOf; split <;> simp
    have e3 : (upAll (regSng (fewR R))).length ≤ (regSng (fewR R)).length := upAll_len
    rw [List.length_append]; omega
  · simp
theorem lines_cells {R : List Row} : ∀ t ∈ linesOf R, t.cells.length ≤ 8192 := by
  intro t ht
  unfold linesOf at ht
  split at ht
  · rename_i h
    rcases List.mem_append.1 ht with ht | ht
    · simp only [regTrk, rowTrk, List.mem_flatMap] at ht
      obtain ⟨w, hw, r, hr, ht⟩ := ht
      have := row_runs h hw hr
      unfold trkOf at ht
      split at ht
      · simp at ht
      · simp at ht; subst ht; simp only; rw [runCells_len]; omega
    · obtain ⟨c, hc, rfl, _⟩ := upAll_mem (fun c hc => cells_on h (sng_mem h hc)) ht
      have hg := onG_bd (cells_on h (sng_mem h hc))
      have := vN_len (regSng R) (4096 - c.y).toNat c
      simp only [trk, vch]; omega
  · simp at ht
end Go.Proofs.YtagakfaiimaifaaGreat

set_option linter.unusedVariables false
set_option linter.unusedSimpArgs false
set_option maxRecDepth 100000
namespace Go.Proofs.YtagakfaiimaifaaGreat
open Go.Abs

theorem sortCell_px (l : List Cell) (hd : l.Nodup) (hon : ∀ c ∈ l, onG c = true) (hl : l.length ≤ 1000000) : PX Tryz.prog 70 [.hs 0 0 l.length, .d (.fn (.func 71) [])] [(0, ⟨62, 2, dr (l.map Cell.row)⟩)] [(0, 0)] [(0, ⟨62, 2, dr ((sortX l).map Cell.row)⟩)] (.tup []) := by
  have h := sortFunc_all (P := Tryz.prog) sortCell_lays (k := 2) (by decide) (fun w => by kernel_rfl) (fun w => by kernel_rfl) ⟨_, Tryz.func70, by kernel_rfl, by kernel_rfl⟩ (cg := 71) (fun args w => by kernel_rfl) cmpX_ok cfX_ord 62 (rows := l.map Cell.row) (rows' := (sortX l).map Cell.row)
    (fun r hr => by obtain ⟨c, hc, rfl⟩ := List.mem_map.1 hr; exact ⟨c, rfl, hon c hc⟩)
    (fun a ha b hb h1 h2 => by
      obtain ⟨c, hc, rfl⟩ := List.mem_map.1 ha
      obtain ⟨d, hd, rfl⟩ := List.mem_map.1 hb
      rw [cfX_anti h2 h1])
    ((sortX_perm l).map _) (sortX_rows l hd) (by simp; omega)
  simp only [List.length_map] at h
  exact h
theorem sortTrack_px (s l : List Cell) (hp : s.Perm l) (hl : l.Pairwise ltY) (hon : ∀ c ∈ l, onG c = true) (hn : l.length ≤ 1000000) : PX Tryz.prog 73 [.hs 0 0 (upAll s).length, .d (.fn (.func 74) [])] [(0, ⟨61, 3, dr ((upAll s).map Track.row)⟩)] [(0, 0)] [(0, ⟨61, 3, dr ((upAll l).map Track.row)⟩)] (.tup []) := by
  have hs : ∀ c ∈ s, onG c = true := fun c hc => hon c (hp.mem_iff.1 hc)
  have hlen : (upAll s).length ≤ s.length := upAll_len
  have hsl := hp.length_eq
  have h := sortFunc_all (P := Tryz.prog) sortTrack_lays (k := 3) (by decide) (fun w => by kernel_rfl) (fun w => by kernel_rfl) ⟨_, Tryz.func73, by kernel_rfl, by kernel_rfl⟩ (cg := 74) (fun args w => by kernel_rfl) cmpY_ok cfY_ord 61 (rows := (upAll s).map Track.row) (rows' := (upAll l).map Track.row)
    (fun r hr => by obtain ⟨t, ht, rfl⟩ := List.mem_map.1 hr; exact upAll_VT hs ht)
    (fun a ha b hb h1 h2 => by
      obtain ⟨c, hc, rfl⟩ := List.mem_map.1 ha
      obtain ⟨d, hd, rfl⟩ := List.mem_map.1 hb
      rw [upAll_anti hs hc hd h1 h2])
    ((upAll_perm hp.symm).map _) (upAll_rows hl hon) (by simp; omega)
  simp only [List.length_map] at h
  exact h

set_option maxHeartbeats 4000000 in
theorem lines_ok (R : List Row) (hR : smallR R) (hn : validR R = true → (regCells R).length ≤ 1000000) : PC Tryz.prog 34 [.agg (regRow R)] (.p (encTracks (linesOf R))) := by
  have c1 := valid_ok R hR
  have hL : linesOf R = if validR R then regTrk R ++ upAll (regSng R) else [] := rfl
  have hv0 : validR R = validR R := rfl
  generalize hv : validR R = v at c1 hL hn
  refine pc_of_awp cx (fn := Tryz.f34) (c := _) Tryz.func34 rfl rfl (Nat.le_of_ble_eq_true rfl) ?_
  rw [Tryz.ntmps34]; refine Nav.imp ?_
  refine awp_region cx [] fun K hK => ?_
  simp [push_cast]
  repeat (refine And.intro (by clear hK; intros; first | omega | (simp_all; done) | (simp_all <;> omega)) ?_)
  refine hK _ ?_; clear hK K; refine Nav.imp ?_
  refine awp_region cx [(1, .p (.bool v))] fun K hK => ?_
  simp [push_cast, c1]
  repeat (refine And.intro (by clear hK; intros; first | omega | (simp_all; done) | (simp_all <;> omega)) ?_)
  refine hK _ ?_; clear hK K; refine Nav.imp ?_
  refine awp_cond (b := !v) (by simp [push_cast]) (fun hb => ?_) (fun hb => ?_) <;> (refine Nav.imp ?_)
  · simp at hb
    rw [hL, hb]
    refine awp_region cx [] fun K hK => ?_
    simp [push_cast]
    repeat (refine And.intro (by clear hK; intros; first | omega | (simp_all; done) | (simp_all <;> omega)) ?_)
    refine hK _ ?_; clear hK K; refine Nav.imp ?_
    simp [push_cast]
  · simp at hb
    rw [hb] at hv hL
    rw [if_pos rfl] at hL
    have hn := hn hb
    have c2 := wide_ok R hR hv hn
    have hle := reg_le hv
    have c3 := sortCell_px (regSng R) (nodup_of_ltY (sng_pw hv)) (fun c hc => cells_on hv (sng_mem hv hc)) (by omega)
    have hpw := sortX_lt (nodup_of_ltY (sng_pw hv))
    have hon : ∀ c ∈ sortX (regSng R), onG c = true := fun c hc => cells_on hv (sng_mem hv ((sortX_mem c).1 hc))
    have c4 := sortTrack_px (sortX (regSng R)) (regSng R) (sortX_perm _) (sng_pw hv) (fun c hc => cells_on hv (sng_mem hv hc)) (by omega)
    have hsl : (sortX (regSng R)).length = (regSng R).length := (sortX_perm _).length_eq
    have hul : (upAll (regSng R)).length ≤ (regSng R).length := upAll_len
    have hul2 : (upAll (sortX (regSng R))).length = (upAll (regSng R)).length := (upAll_perm (sortX_perm _)).length_eq
    generalize sortX (regSng R) = s at *
    generalize regSng R = q at *
    generalize regTrk R = T at *
    rw [hL]
    clear hL
    refine awp_region2 cx [] (pre := [_]) rfl rfl rfl rfl 1 ⟨[], [.d (.agg (regRow R))], [], [], none, [(1, ⟨61, 3, dr (T.map Track.row)⟩), (2, ⟨62, 2, dr (q.map Cell.row)⟩)], .tup [.hs 1 0 T.length, .hs 2 0 q.length]⟩ [(6, 1), (7, 2)] fun K hK => ?_
    simp [push_cast, effY, freshOk, c2]
    refine hK _ ?_; clear hK K
    refine Nav.imp ?_
    have hq63 : q.length ≤ 1000000 := by omega
    refine awp_region cx [(1, .x ⟨[(0, 7)], [.hs 0 0 q.length, .d (.fn (.func 71) [])], [(0, ⟨62, 2, dr (q.map Cell.row)⟩)], [(0, 0)], none, [(0, ⟨62, 2, dr (s.map Cell.row)⟩)], .tup []⟩)] fun K hK => ?_
    simp [push_cast, c3]
    repeat (refine And.intro (by clear hK; intros; first | omega | (simp_all; done) | (simp_all <;> omega)) ?_)
    refine hK _ ?_; clear hK K; refine Nav.imp ?_
    rw [← hsl]
    refine awp_freeze 7 (s.map Cell.row) rfl (by simp [push_cast]) fun K hK => ?_
    simp [push_cast, St.fz, fzT, fzH, fzO, fz, fzL, fzR, fzR_dr, fzR_app, fzR_set, fzL_map]
    refine hK _ ?_; clear hK K; refine Nav.imp ?_
    refine awp_region cx [] fun K hK => ?_
    simp [push_cast]
    repeat (refine And.intro (by clear hK; intros; first | omega | (simp_all; done) | (simp_all <;> omega)) ?_)
    refine hK _ ?_; clear hK K; refine Nav.imp ?_
    refine awp_region cx [] fun K hK => ?_
    simp [push_cast]
    repeat (refine And.intro (by clear hK; intros; first | omega | (simp_all; done) | (simp_all <;> omega)) ?_)
    refine hK _ ?_; clear hK K; refine Nav.imp ?_
    refine awp_loop (β := Nat × List Track) (fun b => ⟨72, [(3, .hs 6 0 T.length), (4, .d (encCells s)), (5, .hs 7 0 b.2.length), (6, .d (.int .i64 b.1))], [(6, some ⟨61, 3, dr (T.map Track.row)⟩), (7, some ⟨61, 3, dr (b.2.map Track.row)⟩)], 8⟩)
      (fun b => b.1 ≤ s.length ∧ b.2 = (s.take b.1).flatMap (vT s) ∧ ∀ a, s[b.1]? = some a → vst s a = true) (fun b => s.length - b.1) (0, []) ?_ ⟨Nat.zero_le _, by simp, fun a ha => vst_first hpw ha⟩ ?_
    · refine weak_of [(6, some 6), (7, none)] rfl (by simp [upT, up, upL, push_cast]) (by simp [upH, upR, upL, up, push_cast]) (by simp [namesOk, push_cast]) (by simp [olds])
    · rintro ⟨i, U⟩ ⟨hi, hU, hst⟩
      simp only at hi hU hst
      refine Nav.imp ?_
      refine awp_region cx [] fun K hK => ?_
      simp [push_cast]
      repeat (refine And.intro (by clear hK; intros; first | omega | (simp_all; done) | (simp_all <;> omega)) ?_)
      refine hK _ ?_; clear hK K; refine Nav.imp ?_
      refine awp_cond (b := decide ((i : Int) < s.length)) (by simp [push_cast]) (fun hb => ?_) (fun hb => ?_) <;> (refine Nav.imp ?_)
      · have hlt : i < s.length := by simpa using hb
        obtain ⟨a, ha⟩ := getq hlt
        have hv := hst a ha
        have e0 := wrap_i64 (n := (i : Int) + 1) (by omega) (by omega)
        have hUl : U.length ≤ 1000000 := by
          have : U.length ≤ s.length := by rw [hU]; exact take_flat_one (vT_len s) s i
          omega
        have hU40 : (U.length + 1) * 40 ≤ 140737488355328 := by omega
        refine awp_region cx [] fun K hK => ?_
        simp [push_cast, e0]
        repeat (refine And.intro (by clear hK; intros; first | omega | (simp_all; done) | (simp_all <;> omega)) ?_)
        refine hK _ ?_; clear hK K; refine Nav.imp ?_
        refine awp_loop (β := Nat) (fun n => ⟨72, [(3, .hs 6 0 T.length), (4, .d (encCells s)), (5, .hs 7 0 U.length), (6, .d (.int .i64 i)), (7, .d (.int .i64 (i + n)))], [(6, some ⟨61, 3, dr (T.map Track.row)⟩), (7, some ⟨61, 3, dr (U.map Track.row)⟩)], 8⟩)
          (fun n => 0 < n ∧ i + n ≤ s.length ∧ Col s i n a) (fun n => s.length - i - n) 1 ?_ ⟨by omega, by omega, fun j hj => by rw [show j = 0 from by omega]; cases a; simpa using ha⟩ ?_
        · refine weak_of [(6, some 6), (7, some 7)] rfl (by simp [upT, up, upL, push_cast]) (by simp [upH, upR, upL, up, push_cast]) (by simp [namesOk, push_cast]) (by simp [olds])
        · rintro n ⟨hn0, hnl, hcol⟩
          refine Nav.imp ?_
          have hp := hcol (n - 1) (by omega)
          have e1 := wrap_i64 (n := (i : Int) + n - 1) (by omega) (by omega)
          have e2 : ((i : Int) + n).toNat = i + n := by omega
          have e3 : ((i : Int) + n - 1).toNat = i + (n - 1) := by omega
          have e5 : (0 : Int) ≤ (i : Int) + n - 1 := by omega
          have e6 : (0 : Int) ≤ (i : Int) + n := by omega
          have hag := onG_bd (hon _ (List.mem_of_getElem? hp))
          simp only at hag
          have e7 := wrap_i64 (n := a.y + ((n - 1 : Nat) : Int) + 1) (by omega) (by omega)
          have e8 := wrap_i64 (n := (i : Int) + n + 1) (by omega) (by omega)
          have e9 : a.y + ((n - 1 : Nat) : Int) + 1 = a.y + n := by omega
          by_cases hs : Stop s i n a
          · apply cut_
            · intro key
              by_cases hkl : i + n < s.length
              · obtain ⟨b, hb⟩ := getq hkl
                have e4 : (i : Int) + n < s.length := by omega
                have hsb : (b.x == a.x && b.y == a.y + (n : Int)) = false := by
                  rw [Bool.eq_false_iff]
                  intro h
                  simp at h
                  exact hs b hb h
                refine awp_region_draw cx mixed [] fun K hK => ?_
                simp [push_cast, ha, hb, hp, e1, e2, e3, e4, e5, e6, e7]
                repeat (refine And.intro (by clear hK; intros; first | omega | (simp_all; done) | (simp_all <;> omega)) ?_)
                refine hK _ _ (by kernel_rfl) ?_; clear hK K; refine Nav.imp ?_
                refine awp_cond (b := false) (by simp [push_cast, e9, e4, hsb]) (fun hb => ?_) (fun hb => ?_) <;> (refine Nav.imp ?_)
                · simp at hb
                · refine awp_weak (s' := ⟨72, [(3, .hs 6 0 T.length), (4, .d (encCells s)), (5, .hs 7 0 U.length), (6, .d (.int .i64 i)), (7, .d (.int .i64 (i + n)))], [(6, some ⟨61, 3, dr (T.map Track.row)⟩), (7, some ⟨61, 3, dr (U.map Track.row)⟩)], 8⟩) ?_ key.h
                  refine weak_of [(6, some 6), (7, some 7)] rfl (by simp [upT, up, upL, push_cast]) (by simp [upH, upR, upL, up, push_cast]) (by simp [namesOk, push_cast]) (by simp [olds])
              · have e4 : ¬ (i : Int) + n < s.length := by omega
                have hbn : s[i + n]? = none := List.getElem?_eq_none (by omega)
                refine awp_region_draw cx mixed [] fun K hK => ?_
                simp [push_cast, ha, hp, hbn, e1, e2, e3, e4, e5, e6, e7]
                repeat (refine And.intro (by clear hK; intros; first | omega | (simp_all; done) | (simp_all <;> omega)) ?_)
                refine hK _ _ (by kernel_rfl) ?_; clear hK K; refine Nav.imp ?_
                refine awp_cond (b := false) (by simp [push_cast, e4]) (fun hb => ?_) (fun hb => ?_) <;> (refine Nav.imp ?_)
                · simp at hb
                · refine awp_weak (s' := ⟨72, [(3, .hs 6 0 T.length), (4, .d (encCells s)), (5, .hs 7 0 U.length), (6, .d (.int .i64 i)), (7, .d (.int .i64 (i + n)))], [(6, some ⟨61, 3, dr (T.map Track.row)⟩), (7, some ⟨61, 3, dr (U.map Track.row)⟩)], 8⟩) ?_ key.h
                  refine weak_of [(6, some 6), (7, some 7)] rfl (by simp [upT, up, upL, push_cast]) (by simp [upH, upR, upL, up, push_cast]) (by simp [namesOk, push_cast]) (by simp [olds])
            · have hpc := col_piece hpw hon hn0 hcol hs hv
              rw [← hU] at hpc
              have hpl : ((s.drop i).take n).length ≤ 1000000 := by simp; omega
              have c5 : PC Tryz.prog 72 [encCells ((s.drop i).take n)] (.f (.agg (trk ((s.drop i).take n)).row)) := path_ok _ hpl
              have hm : List.drop i (List.take (i + n) (s.map Cell.row)) = ((s.drop i).take n).map Cell.row := by
                rw [List.map_take, List.map_drop, List.drop_take]; simp
              have hm2 : ∀ f : Cell → List D, List.take n (List.drop i (List.map f s)) = ((s.drop i).take n).map f := fun f => by rw [List.map_take, List.map_drop]
              have hnext : ∀ b, s[i + n]? = some b → vst s b = true := fun b hb => col_next hpw hn0 hcol hs hb
              generalize hPd : (s.drop i).take n = Pc at *
              have e4 : (i : Int) ≤ (i : Int) + n := by omega
              refine Nav.imp ?_
              refine awp_region cx [(5, .f (.agg (trk Pc).row))] fun K hK => ?_
              simp [push_cast, c5, e2, e4, e6, hm, hnl, hU40]
              repeat (refine And.intro (by clear hK; intros; first | omega | (simp_all; done) | (simp_all <;> omega)) ?_)
              refine hK _ ?_; clear hK K; refine Nav.imp ?_
              refine awp_region cx [] fun K hK => ?_
              simp [push_cast]
              repeat (refine And.intro (by clear hK; intros; first | omega | (simp_all; done) | (simp_all <;> omega)) ?_)
              refine hK _ ?_; clear hK K; refine Nav.imp ?_
              refine ⟨(i + n, U ++ [trk Pc]), ⟨hnl, hpc.symm, hnext⟩, by simp only; omega, ?_⟩
              refine weak_of [(6, some 6), (7, some 15)] rfl (by simp [upT, up, upL, push_cast, Track.row]) (by simp [upH, upR, upL, up, push_cast, Track.row]) (by simp [namesOk, push_cast]) (by simp [olds])
          · have : ∃ b, s[i + n]? = some b ∧ b.x = a.x ∧ b.y = a.y + n := by
              apply Classical.byContradiction
              intro h
              exact hs fun b hb hx => h ⟨b, hb, hx⟩
            obtain ⟨b, hb, hbx, hby⟩ := this
            have hkl := (List.getElem?_eq_some_iff.1 hb).1
            have e4 : (i : Int) + n < s.length := by omega
            obtain ⟨bx, bY⟩ := b
            simp only at hbx hby
            subst hbx hby
            refine awp_region_draw cx mixed [] fun K hK => ?_
            simp [push_cast, ha, hb, hp, e1, e2, e3, e4, e5, e6, e7]
            repeat (refine And.intro (by clear hK; intros; first | omega | (simp_all; done) | (simp_all <;> omega)) ?_)
            refine hK _ _ (by kernel_rfl) ?_; clear hK K; refine Nav.imp ?_
            refine awp_cond (b := true) (by simp [push_cast, e9, e4]) (fun hb => ?_) (fun hb => ?_) <;> (refine Nav.imp ?_)
            · refine awp_region cx [] fun K hK => ?_
              simp [push_cast, e8]
              repeat (refine And.intro (by clear hK; intros; first | omega | (simp_all; done) | (simp_all <;> omega)) ?_)
              refine hK _ ?_; clear hK K; refine Nav.imp ?_
              refine ⟨n + 1, ⟨by omega, by omega, fun j hj => ?_⟩, by omega, ?_⟩
              · by_cases hjn : j = n
                · subst hjn; exact hb
                · exact hcol j (by omega)
              · refine weak_of [(6, some 6), (7, some 7)] rfl (by simp [upT, up, upL, push_cast, Int.add_assoc]) (by simp [upH, upR, upL, up, push_cast, Int.add_assoc]) (by simp [namesOk, push_cast]) (by simp [olds])
            · simp at hb
      · have hin : i = s.length := by simp at hb; omega
        subst hin
        rw [List.take_length] at hU
        have hU' : U = upAll s := hU
        subst hU'
        clear hU hst
        have hTU : (T.length + (upAll q).length) * 40 ≤ 140737488355328 := by omega
        refine awp_region cx [(1, .x ⟨[(0, 7)], [.hs 0 0 (upAll s).length, .d (.fn (.func 74) [])], [(0, ⟨61, 3, dr ((upAll s).map Track.row)⟩)], [(0, 0)], none, [(0, ⟨61, 3, dr ((upAll q).map Track.row)⟩)], .tup []⟩)] fun K hK => ?_
        simp [push_cast, c4]
        repeat (refine And.intro (by clear hK; intros; first | omega | (simp_all; done) | (simp_all <;> omega)) ?_)
        refine hK _ ?_; clear hK K; refine Nav.imp ?_
        rw [hul2]
        generalize upAll q = V at *
        refine awp_region cx [] fun K hK => ?_
        simp [push_cast, hTU]
        repeat (refine And.intro (by clear hK; intros; first | omega | (simp_all; done) | (simp_all <;> omega)) ?_)
        refine hK _ ?_; clear hK K; refine Nav.imp ?_
        have ht : List.take (T.length + V.length) (T.map Track.row ++ V.map Track.row) = T.map Track.row ++ V.map Track.row := List.take_of_length_le (by simp)
        simp [push_cast, ht]
end Go.Proofs.YtagakfaiimaifaaGreat

set_option linter.unusedVariables false
set_option linter.unusedSimpArgs false
set_option maxRecDepth 100000
namespace Go.Proofs.YtagakfaiimaifaaGreat
open Go.Abs Go.ChangeShapes Go.WideShapes Go.ChangeAt Go.RowKit

def exR : List Row := [⟨0, [⟨0, 3⟩, ⟨5, 6⟩]⟩, ⟨1, [⟨5, 6⟩]⟩]
def exT : List Track := [⟨2, false, [⟨0, 0⟩, ⟨1, 0⟩, ⟨2, 0⟩]⟩, ⟨2, false, [⟨5, 0⟩, ⟨5, 1⟩]⟩]
theorem ex_lines : linesOf exR = exT := by kernel_rfl
theorem awake25_ok : PC Tryz.prog 13 [] (.p (.bool true)) := by
  have c1 := lines_ok exR ⟨by decide, by decide⟩ (fun _ => of_decide_eq_true (by kernel_rfl))
  rw [ex_lines] at c1
  simp only [exR, regRow] at c1
  refine pc_of_awp cx (fn := Tryz.f13) (c := _) Tryz.func13 rfl rfl (Nat.le_of_ble_eq_true rfl) ?_
  rw [Tryz.ntmps13]; refine Nav.imp ?_
  refine awp_region cx [] fun K hK => ?_
  simp [push_cast]
  repeat (refine And.intro (by clear hK; intros; first | omega | (simp_all; done) | (simp_all <;> omega)) ?_)
  refine hK _ ?_; clear hK K; refine Nav.imp ?_
  refine awp_region cx [(2, .f (encRuns [⟨0, 3⟩, ⟨5, 6⟩])), (5, .f (encRuns [⟨5, 6⟩])), (7, .f (encRows exR))] fun K hK => ?_
  simp [push_cast, exR, Row.row, Run.row]
  repeat (refine And.intro (by clear hK; intros; first | omega | (simp_all; done) | (simp_all <;> omega)) ?_)
  refine hK _ ?_; clear hK K; refine Nav.imp ?_
  refine awp_region cx [(1, .p (encTracks exT))] fun K hK => ?_
  simp [push_cast, c1]
  repeat (refine And.intro (by clear hK; intros; first | omega | (simp_all; done) | (simp_all <;> omega)) ?_)
  refine hK _ ?_; clear hK K; refine Nav.imp ?_
  refine awp_region cx [] fun K hK => ?_
  simp [push_cast, exT, Track.row]
  repeat (refine And.intro (by clear hK; intros; first | omega | (simp_all; done) | (simp_all <;> omega)) ?_)
  refine hK _ ?_; clear hK K; refine Nav.imp ?_
  simp [push_cast]


end Go.Proofs.YtagakfaiimaifaaGreat

set_option linter.unusedVariables false
set_option linter.unusedSimpArgs false
set_option maxRecDepth 100000
namespace Go.Proofs.YtagakfaiimaifaaGreat
open Go.Abs

/-! The reference of an operation on two rows: the bounds in their order, and what is kept between them. -/
def InsI (l : List Int) (i : Nat) (Z : List Int) (k : Nat) : Prop :=
  ∃ (P : List Int) (c : Int) (Q T : List Int), Z = P ++ c :: (Q ++ T) ∧ P.length = k ∧ P.length + Q.length = i ∧ Z.Perm l ∧ ((P ++ Q).Pairwise fun a b => a ≤ b) ∧ ∀ q ∈ Q, c ≤ q
def UpI (l : List Int) (i : Nat) (Z : List Int) : Prop := Z.Perm l ∧ ((Z.take i).Pairwise fun a b => a ≤ b)

theorem insI_start {l Z : List Int} {i : Nat} (h : UpI l i Z) (hi : i < Z.length) : InsI l i Z i := by
  refine ⟨Z.take i, Z[i], [], Z.drop (i + 1), ?_, by simp; omega, by simp; omega, h.1, by simpa using h.2, by simp⟩
  conv => lhs; rw [← List.take_append_drop i Z, List.drop_eq_getElem_cons hi]
  simp
theorem insI_end {l Z : List Int} {i k : Nat} (h : InsI l i Z k) (hk : k = 0 ∨ ∃ c p, Z[k]? = some c ∧ Z[k - 1]? = some p ∧ ¬ c < p) : UpI l (i + 1) Z := by
  obtain ⟨P, c, Q, T, rfl, hP, hQ, hp, hs, hq⟩ := h
  refine ⟨hp, ?_⟩
  have e : (P ++ c :: (Q ++ T)).take (i + 1) = P ++ c :: Q := by
    rw [show P ++ c :: (Q ++ T) = (P ++ c :: Q) ++ T from by simp, List.take_left' (by simp; omega)]
  rw [e]
  rw [List.pairwise_append] at hs ⊢
  refine ⟨hs.1, List.pairwise_cons.2 ⟨hq, hs.2.1⟩, fun a ha b hb => ?_⟩
  rcases List.mem_cons.1 hb with rfl | hb
  · rcases hk with hk | ⟨c', p, h1, h2, h3⟩
    · rw [hk] at hP
      rw [List.length_eq_zero_iff.1 hP] at ha
      cases ha
    · have hc : c' = b := by
        rw [List.getElem?_append_right (by omega), hP, Nat.sub_self] at h1
        exact (Option.some.inj h1).symm
      subst hc
      rcases List.eq_nil_or_concat P with rfl | ⟨P', p', rfl⟩
      · cases ha
      · rw [List.concat_eq_append] at *
        have hpp : p' = p := by
          rw [List.append_assoc, List.getElem?_append_right (by simp at hP; omega)] at h2
          simp at hP
          rw [show k - 1 - P'.length = 0 from by omega] at h2
          exact Option.some.inj h2
        subst hpp
        have h4 : p' ≤ c' := by omega
        rcases List.mem_append.1 ha with ha | ha
        · exact Int.le_trans ((List.pairwise_append.1 hs.1).2.2 a ha p' (by simp)) h4
        · simp at ha; subst ha; exact h4
  · exact hs.2.2 a ha b hb
theorem insI_next {l Z : List Int} {i k : Nat} {c p : Int} (h : InsI l i Z (k + 1)) (hc : Z[k + 1]? = some c) (hp : Z[k]? = some p) (hb : c < p) : InsI l i ((Z.set (k + 1) p).set k c) k := by
  obtain ⟨P, c', Q, T, rfl, hP, hQ, hperm, hs, hq⟩ := h
  rcases List.eq_nil_or_concat P with rfl | ⟨P', p', rfl⟩
  · simp at hP
  · rw [List.concat_eq_append] at *
    simp at hP
    have hcc : c' = c := by
      rw [List.getElem?_append_right (by simp; omega)] at hc
      simp [hP] at hc
      exact hc
    have hpp : p' = p := by
      rw [List.append_assoc, List.getElem?_append_right (by omega)] at hp
      simp [hP] at hp
      exact hp
    subst hcc hpp
    have e : (((P' ++ [p']) ++ c' :: (Q ++ T)).set (k + 1) p').set k c' = P' ++ c' :: ((p' :: Q) ++ T) := by
      subst hP
      simp
    rw [e]
    refine ⟨P', c', p' :: Q, T, rfl, hP, by simp at hQ ⊢; omega, ?_, ?_, ?_⟩
    · refine List.Perm.trans ?_ hperm
      simp only [List.append_assoc, List.singleton_append, List.cons_append]
      exact List.Perm.append_left _ (List.Perm.swap _ _ _)
    · simpa using hs
    · intro q hqm
      rcases List.mem_cons.1 hqm with rfl | hqm
      · omega
      · exact hq q hqm
theorem upI_start (l : List Int) : UpI l 1 l := by
  refine ⟨List.Perm.refl l, ?_⟩
  cases l with
  | nil => simp
  | cons a l => simp
theorem asc_uniq : ∀ {l l' : List Int}, l.Perm l' → (l.Pairwise fun a b => a ≤ b) → (l'.Pairwise fun a b => a ≤ b) → l = l'
  | [], l', h, _, _ => by have := h.length_eq; simp at this; exact (List.length_eq_zero_iff.1 this.symm).symm
  | a :: l, [], h, _, _ => by have := h.length_eq; simp at this
  | a :: l, b :: l', h, h2, h3 => by
    have hab : a = b := by
      have ha : a ∈ b :: l' := h.subset (by simp)
      have hb : b ∈ a :: l := h.symm.subset (by simp)
      rcases List.mem_cons.1 ha with e | ha
      · exact e
      · rcases List.mem_cons.1 hb with e | hb
        · exact e.symm
        · have := (List.pairwise_cons.1 h2).1 b hb
          have := (List.pairwise_cons.1 h3).1 a ha
          omega
    subst hab
    rw [asc_uniq h.cons_inv (List.pairwise_cons.1 h2).2 (List.pairwise_cons.1 h3).2]
def ascI (l : List Int) : List Int := l.mergeSort (fun x y => decide (x ≤ y))
theorem ascI_perm (l : List Int) : (ascI l).Perm l := List.mergeSort_perm _ _
theorem ascI_le (l : List Int) : (ascI l).Pairwise (· ≤ ·) := by
  have := List.pairwise_mergeSort (le := fun x y : Int => decide (x ≤ y)) (fun a b c h1 h2 => by simp at *; omega) (fun a b => by simp; omega) l
  exact this.imp fun h => by simpa using h
theorem upI_end {l Z : List Int} {i : Nat} (h : UpI l i Z) (hi : Z.length ≤ i) : Z = ascI l := by
  have h2 := h.2
  rw [List.take_of_length_le (by omega)] at h2
  exact asc_uniq (h.1.trans (ascI_perm l).symm) h2 (ascI_le l)

/-- The bounds of runs. -/
def ends (l : List Run) : List Int := l.flatMap fun r => [r.a, r.b]
theorem ends_len (l : List Run) : (ends l).length = 2 * l.length := by
  induction l with
  | nil => rfl
  | cons r l ih => simp only [ends, List.flatMap_cons, List.length_append] at *; simp only [List.length_cons, List.length_nil]; omega
theorem ends_take {l : List Run} {k : Nat} {r : Run} (h : l[k]? = some r) : ends (l.take (k + 1)) = ends (l.take k) ++ [r.a, r.b] := by
  rw [take_get h]; simp [ends]
def bnds (a b : List Run) : List Int := ascI (ends a ++ ends b)
theorem bnds_len (a b : List Run) : (bnds a b).length = 2 * a.length + 2 * b.length := by
  unfold bnds
  rw [(ascI_perm _).length_eq, List.length_append, ends_len, ends_len]
theorem bnds_mem {a b : List Run} {r : Run} (h : r ∈ a ∨ r ∈ b) : r.a ∈ bnds a b ∧ r.b ∈ bnds a b := by
  unfold bnds
  constructor <;> rw [(ascI_perm _).mem_iff, List.mem_append] <;> rcases h with h | h
  · exact .inl (List.mem_flatMap.2 ⟨r, h, by simp⟩)
  · exact .inr (List.mem_flatMap.2 ⟨r, h, by simp⟩)
  · exact .inl (List.mem_flatMap.2 ⟨r, h, by simp⟩)
  · exact .inr (List.mem_flatMap.2 ⟨r, h, by simp⟩)
/-- All bounds of both lists lie at X or before, or at Y or behind. -/
def Gap (a b : List Run) (X Y : Int) : Prop := ∀ r, r ∈ a ∨ r ∈ b → (r.a ≤ X ∨ Y ≤ r.a) ∧ (r.b ≤ X ∨ Y ≤ r.b)
theorem gap_of {a b : List Run} {i : Nat} {X Y : Int} (hX : (bnds a b)[i]? = some X) (hY : (bnds a b)[i + 1]? = some Y) : Gap a b X Y ∧ X ≤ Y := by
  have hs := ascI_le (ends a ++ ends b)
  have key : ∀ e ∈ bnds a b, e ≤ X ∨ Y ≤ e := fun e he => by
    obtain ⟨k, hk, rfl⟩ := List.mem_iff_getElem.1 he
    obtain ⟨hi, rfl⟩ := List.getElem?_eq_some_iff.1 hX
    obtain ⟨hj, rfl⟩ := List.getElem?_eq_some_iff.1 hY
    rcases Nat.lt_trichotomy k i with h | h | h
    · exact .inl (List.pairwise_iff_getElem.1 hs k i hk hi h)
    · subst h; exact .inl (Int.le_refl _)
    · rcases Nat.lt_or_eq_of_le (show i + 1 ≤ k from h) with h | h
      · exact .inr (List.pairwise_iff_getElem.1 hs (i + 1) k hj hk h)
      · subst h; exact .inr (Int.le_refl _)
  refine ⟨fun r hr => ⟨key _ (bnds_mem hr).1, key _ (bnds_mem hr).2⟩, ?_⟩
  obtain ⟨hi, rfl⟩ := List.getElem?_eq_some_iff.1 hX
  obtain ⟨hj, rfl⟩ := List.getElem?_eq_some_iff.1 hY
  exact List.pairwise_iff_getElem.1 hs i (i + 1) hi hj (by omega)
theorem gap_in {l : List Run} {X Y z : Int} (h : ∀ r ∈ l, (r.a ≤ X ∨ Y ≤ r.a) ∧ (r.b ≤ X ∨ Y ≤ r.b)) (h1 : X ≤ z) (h2 : z < Y) : inR l z = inR l X := by
  rw [Bool.eq_iff_iff, inR_iff, inR_iff]
  constructor
  · rintro ⟨r, hr, h3, h4⟩
    have := h r hr
    exact ⟨r, hr, by omega, by omega⟩
  · rintro ⟨r, hr, h3, h4⟩
    have := h r hr
    exact ⟨r, hr, by omega, by omega⟩
/-- What is known before bound X is looked at. -/
def CombAt (f : Bool → Bool → Bool) (a b : List Run) (X : Int) (out : List Run) : Prop :=
  Apart out ∧ (∀ r ∈ out, r.b ≤ X) ∧ ∀ z, inR out z = (decide (z < X) && f (inR a z) (inR b z))
theorem inR_none {l : List Run} {z : Int} (h : ∀ r ∈ l, z < r.a ∨ r.b ≤ z) : inR l z = false := by
  rw [Bool.eq_false_iff]; intro h2
  obtain ⟨r, hr, h3, h4⟩ := inR_iff.1 h2
  have := h r hr
  omega
theorem comb_start {f : Bool → Bool → Bool} (hf : f false false = false) {a b : List Run} {X : Int} (hX : (bnds a b)[0]? = some X) : CombAt f a b X [] := by
  have hs := ascI_le (ends a ++ ends b)
  obtain ⟨hi, rfl⟩ := List.getElem?_eq_some_iff.1 hX
  have key : ∀ e ∈ bnds a b, (bnds a b)[0] ≤ e := fun e he => by
    obtain ⟨k, hk, rfl⟩ := List.mem_iff_getElem.1 he
    rcases Nat.eq_zero_or_pos k with h | h
    · subst h; exact Int.le_refl _
    · exact List.pairwise_iff_getElem.1 hs 0 k hi hk h
  refine ⟨⟨by simp, by simp⟩, by simp, fun z => ?_⟩
  by_cases hz : z < (bnds a b)[0]
  · rw [inR_none (l := a) fun r hr => .inl (by have := key _ (bnds_mem (.inl hr)).1; omega), inR_none (l := b) fun r hr => .inl (by have := key _ (bnds_mem (.inr hr)).1; omega), hf]
    simp [inR]
  · simp [inR, hz]
theorem comb_skip {f : Bool → Bool → Bool} {a b : List Run} {X Y : Int} {out : List Run} (h : CombAt f a b X out) (hg : Gap a b X Y) (hXY : X ≤ Y) (hk : X = Y ∨ f (inR a X) (inR b X) = false) : CombAt f a b Y out := by
  obtain ⟨h1, h2, h3⟩ := h
  refine ⟨h1, fun r hr => Int.le_trans (h2 r hr) hXY, fun z => ?_⟩
  rw [h3]
  by_cases hz : z < X
  · rw [decide_eq_true hz, decide_eq_true (show z < Y by omega)]
  · rw [decide_eq_false hz]
    by_cases hy : z < Y
    · rcases hk with hk | hk
      · omega
      · rw [gap_in (fun r hr => hg r (.inl hr)) (by omega) hy, gap_in (fun r hr => hg r (.inr hr)) (by omega) hy, hk]; simp
    · rw [decide_eq_false hy]
theorem comb_val {f : Bool → Bool → Bool} {a b : List Run} {X Y : Int} (hg : Gap a b X Y) (hXY : X ≤ Y) (hk : f (inR a X) (inR b X) = true) (z : Int) :
    (decide (z < Y) && f (inR a z) (inR b z)) = ((decide (z < X) && f (inR a z) (inR b z)) || (decide (X ≤ z) && decide (z < Y))) := by
  by_cases hz : z < X
  · rw [decide_eq_true hz, decide_eq_true (show z < Y by omega), decide_eq_false (show ¬ X ≤ z by omega)]; simp
  · rw [decide_eq_false hz, decide_eq_true (show X ≤ z by omega)]
    by_cases hy : z < Y
    · rw [gap_in (fun r hr => hg r (.inl hr)) (by omega) hy, gap_in (fun r hr => hg r (.inr hr)) (by omega) hy, hk]; simp
    · rw [decide_eq_false hy]; simp
theorem comb_app {f : Bool → Bool → Bool} {a b : List Run} {X Y : Int} {out : List Run} (h : CombAt f a b X out) (hg : Gap a b X Y) (hXY : X < Y) (hk : f (inR a X) (inR b X) = true) (hl : ∀ r, out[out.length - 1]? = some r → r.b ≠ X) : CombAt f a b Y (out ++ [⟨X, Y⟩]) := by
  obtain ⟨h1, h2, h3⟩ := h
  refine ⟨⟨fun r hr => ?_, ?_⟩, fun r hr => ?_, fun z => ?_⟩
  · rcases List.mem_append.1 hr with hr | hr
    · exact h1.1 r hr
    · simp at hr; subst hr; exact hXY
  · rw [List.pairwise_append]
    refine ⟨h1.2, by simp, fun r hr s hs => ?_⟩
    simp at hs; subst hs
    have hle := h2 r hr
    rcases List.eq_nil_or_concat out with rfl | ⟨o, q, rfl⟩
    · cases hr
    · rw [List.concat_eq_append] at *
      have hq := hl q (by simp)
      have hqX := h2 q (by simp)
      rcases List.mem_append.1 hr with hr | hr
      · have hw := (List.pairwise_append.1 h1.2).2.2 r hr q (by simp)
        have hqq := h1.1 q (by simp)
        simp only; omega
      · simp at hr; subst hr; simp only; omega
  · rcases List.mem_append.1 hr with hr | hr
    · exact Int.le_trans (h2 r hr) (by omega)
    · simp at hr; subst hr; exact Int.le_refl _
  · rw [inR_app, h3, comb_val hg (by omega) hk]
theorem comb_join {f : Bool → Bool → Bool} {a b : List Run} {X Y : Int} {o : List Run} {q : Run} (h : CombAt f a b X (o ++ [q])) (hg : Gap a b X Y) (hXY : X < Y) (hk : f (inR a X) (inR b X) = true) (hq : q.b = X) : CombAt f a b Y (o ++ [⟨q.a, Y⟩]) := by
  obtain ⟨h1, h2, h3⟩ := h
  have hqq := h1.1 q (by simp)
  have hp := List.pairwise_append.1 h1.2
  refine ⟨⟨fun r hr => ?_, ?_⟩, fun r hr => ?_, fun z => ?_⟩
  · rcases List.mem_append.1 hr with hr | hr
    · exact h1.1 r (by simp [hr])
    · simp at hr; subst hr; simp only; omega
  · rw [List.pairwise_append]
    refine ⟨hp.1, by simp, fun r hr s hs => ?_⟩
    simp at hs; subst hs
    exact hp.2.2 r hr q (by simp)
  · rcases List.mem_append.1 hr with hr | hr
    · have := h2 r (by simp [hr]); omega
    · simp at hr; subst hr; exact Int.le_refl _
  · rw [comb_val hg (by omega) hk, ← h3, inR_app, inR_app, Bool.or_assoc]
    congr 1
    rw [Bool.eq_iff_iff]
    simp
    omega
theorem comb_end {f : Bool → Bool → Bool} (hf : f false false = false) {a b : List Run} (ha : rvalid a = true) (hb : rvalid b = true) {n : Nat} {X : Int} {out : List Run} (hn : (bnds a b).length = n + 1) (hX : (bnds a b)[n]? = some X) (h : CombAt f a b X out) : out = sweep f a b := by
  obtain ⟨h1, h2, h3⟩ := h
  obtain ⟨s1, s2⟩ := sweep_facts hf ha hb
  refine apart_uniq h1 s1 fun z => ?_
  rw [h3, s2]
  have hs := ascI_le (ends a ++ ends b)
  obtain ⟨hi, rfl⟩ := List.getElem?_eq_some_iff.1 hX
  have key : ∀ e ∈ bnds a b, e ≤ (bnds a b)[n] := fun e he => by
    obtain ⟨k, hk, rfl⟩ := List.mem_iff_getElem.1 he
    rcases Nat.lt_or_eq_of_le (show k ≤ n by omega) with h | h
    · exact List.pairwise_iff_getElem.1 hs k n hk hi h
    · subst h; exact Int.le_refl _
  by_cases hz : z < (bnds a b)[n]
  · rw [decide_eq_true hz]; simp
  · rw [decide_eq_false hz, inR_none (l := a) fun r hr => .inr (by have := key _ (bnds_mem (.inl hr)).2; omega), inR_none (l := b) fun r hr => .inr (by have := key _ (bnds_mem (.inr hr)).2; omega), hf]; rfl
theorem sweep_nil {f : Bool → Bool → Bool} (hf : f false false = false) {a b : List Run} (ha : rvalid a = true) (hb : rvalid b = true) (hn : (bnds a b).length = 0) : sweep f a b = [] := by
  rw [bnds_len] at hn
  have h1 : a = [] := List.eq_nil_of_length_eq_zero (by omega)
  have h2 : b = [] := List.eq_nil_of_length_eq_zero (by omega)
  subst h1 h2
  obtain ⟨s1, s2⟩ := sweep_facts hf ha hb
  exact apart_uniq s1 ⟨by simp, by simp⟩ fun z => by rw [s2]; simp [inR, hf]

/-! The reference of an operation on two regions: row by row. -/
def stepI (R : List Row) (i : Nat) (y : Int) : Nat := match R[i]? with
  | some v => if v.y = y then i + 1 else i
  | none => i
def runsAt (R : List Row) (i : Nat) (y : Int) : List Run := match R[i]? with
  | some v => if v.y = y then v.runs else []
  | none => []
def nextY (a b : List Row) (i k : Nat) : Int := match a[i]?, b[k]? with
  | some v, some w => if v.y ≤ w.y then v.y else w.y
  | some v, none => v.y
  | none, some w => w.y
  | none, none => 0
theorem side {R : List Row} (hR : validR R = true) {i : Nat} {y : Int} {ys : List Int} (h1 : ∀ w ∈ R.take i, w.y ∈ ys) (h0 : ∀ z ∈ ys, z < y) (h2 : ∀ w ∈ R.drop i, y ≤ w.y) :
    rowOf R y = runsAt R i y ∧ (∀ w ∈ R.take (stepI R i y), w.y ∈ ys ++ [y]) ∧ (∀ z ∈ ys ++ [y], ∀ w ∈ R.drop (stepI R i y), z < w.y) := by
  unfold stepI runsAt
  have hno : ∀ w ∈ R.take i, w.y ≠ y := fun w hw e => by have := h0 _ (h1 w hw); omega
  cases h : R[i]? with
  | none =>
    have hl : R.length ≤ i := List.getElem?_eq_none_iff.1 h
    rw [List.take_of_length_le hl] at hno h1
    simp only
    refine ⟨?_, fun w hw => ?_, fun z hz w hw => ?_⟩
    · rcases rowOf_cases hR y with ⟨w, hw, e, _⟩ | ⟨_, e⟩
      · exact absurd e (hno w hw)
      · exact e
    · exact List.mem_append_left _ (h1 w (List.mem_of_mem_take hw))
    · rw [List.drop_eq_nil_of_le hl] at hw; cases hw
  | some v =>
    obtain ⟨hi, hv⟩ := List.getElem?_eq_some_iff.1 h
    have hd : R.drop i = v :: R.drop (i + 1) := by rw [List.drop_eq_getElem_cons hi, hv]
    have hvR : v ∈ R := List.mem_of_getElem? h
    have hp := rows_pw hR
    rw [← List.take_append_drop i R, hd] at hp
    have hgt := (List.pairwise_cons.1 (List.pairwise_append.1 hp).2.1).1
    have hvy := h2 v (by rw [hd]; simp)
    simp only
    by_cases e : v.y = y
    · rw [if_pos e, if_pos e]
      refine ⟨by rw [← e]; exact rowOf_mem hR hvR, fun w hw => ?_, fun z hz w hw => ?_⟩
      · rw [take_get h] at hw
        rcases List.mem_append.1 hw with hw | hw
        · exact List.mem_append_left _ (h1 w hw)
        · simp at hw; subst hw; simp [e]
      · have := hgt w hw
        rcases List.mem_append.1 hz with hz | hz
        · have := h0 z hz; omega
        · simp at hz; subst hz; omega
    · rw [if_neg e, if_neg e]
      refine ⟨?_, fun w hw => List.mem_append_left _ (h1 w hw), fun z hz w hw => ?_⟩
      · rcases rowOf_cases hR y with ⟨w, hw, e', _⟩ | ⟨_, e'⟩
        · rw [← List.take_append_drop i R, hd] at hw
          rcases List.mem_append.1 hw with hw | hw
          · exact absurd e' (hno w hw)
          · rcases List.mem_cons.1 hw with rfl | hw
            · exact absurd e' e
            · have := hgt w hw; omega
        · exact e'
      · have hw' : y < w.y := by
          rw [hd] at hw
          rcases List.mem_cons.1 hw with rfl | hw
          · omega
          · have := hgt w hw; omega
        rcases List.mem_append.1 hz with hz | hz
        · have := h0 z hz; omega
        · simp at hz; subst hz; exact hw'
def OpAt (f : Bool → Bool → Bool) (a b : List Row) (i k : Nat) (out : List Row) : Prop :=
  i ≤ a.length ∧ k ≤ b.length ∧ ∃ ys : List Int, ys.Pairwise (· < ·) ∧ out = opOn f a b ys ∧ ys.length ≤ i + k ∧ (∀ w ∈ a.take i, w.y ∈ ys) ∧ (∀ w ∈ b.take k, w.y ∈ ys) ∧ (∀ z ∈ ys, ∀ w ∈ a.drop i, z < w.y) ∧ (∀ z ∈ ys, ∀ w ∈ b.drop k, z < w.y)
theorem opAt_start (f : Bool → Bool → Bool) (a b : List Row) : OpAt f a b 0 0 [] :=
  ⟨Nat.zero_le _, Nat.zero_le _, [], by simp, by simp [opOn], by simp, by simp, by simp, by simp, by simp⟩
theorem drop_min {R : List Row} (hR : validR R = true) {i : Nat} {v : Row} (h : R[i]? = some v) : (∀ w ∈ R.drop i, v.y ≤ w.y) ∧ v ∈ R.drop i := by
  obtain ⟨hi, hv⟩ := List.getElem?_eq_some_iff.1 h
  have hd : R.drop i = v :: R.drop (i + 1) := by rw [List.drop_eq_getElem_cons hi, hv]
  have hp := rows_pw hR
  rw [← List.take_append_drop i R, hd] at hp
  have hgt := (List.pairwise_cons.1 (List.pairwise_append.1 hp).2.1).1
  rw [hd]
  refine ⟨fun w hw => ?_, by simp⟩
  rcases List.mem_cons.1 hw with rfl | hw
  · exact Int.le_refl _
  · have := hgt w hw; omega
theorem stepI_le {R : List Row} {i : Nat} {y : Int} (h : i ≤ R.length) : stepI R i y ≤ R.length ∧ i ≤ stepI R i y ∧ stepI R i y ≤ i + 1 := by
  unfold stepI
  cases e : R[i]? with
  | none => exact ⟨h, Nat.le_refl _, Nat.le_succ _⟩
  | some v =>
    have := (List.getElem?_eq_some_iff.1 e).1
    simp only
    split <;> omega
theorem drop_none {R : List Row} {i : Nat} (h : R[i]? = none) : R.drop i = [] := List.drop_eq_nil_of_le (List.getElem?_eq_none_iff.1 h)
theorem opAt_step {f : Bool → Bool → Bool} {a b : List Row} (ha : validR a = true) (hb : validR b = true) {i k : Nat} {out : List Row} (h : OpAt f a b i k out) (hn : i < a.length ∨ k < b.length) :
    rowOf a (nextY a b i k) = runsAt a i (nextY a b i k) ∧ rowOf b (nextY a b i k) = runsAt b k (nextY a b i k) ∧ OpAt f a b (stepI a i (nextY a b i k)) (stepI b k (nextY a b i k)) (out ++ opRow f a b (nextY a b i k)) ∧ i + k < stepI a i (nextY a b i k) + stepI b k (nextY a b i k) := by
  obtain ⟨hi, hk, ys, p1, p2, p3, p4, p5, p6, p7⟩ := h
  have key : ∃ y, nextY a b i k = y ∧ (∀ w ∈ a.drop i, y ≤ w.y) ∧ (∀ w ∈ b.drop k, y ≤ w.y) ∧ (∀ z ∈ ys, z < y) ∧ i + k < stepI a i y + stepI b k y := by
    have m1 := @stepI_le a i
    have m2 := @stepI_le b k
    unfold nextY
    cases e1 : a[i]? with
    | none =>
      cases e2 : b[k]? with
      | none =>
        have := List.getElem?_eq_none_iff.1 e1
        have := List.getElem?_eq_none_iff.1 e2
        omega
      | some w =>
        obtain ⟨q1, q2⟩ := drop_min hb e2
        refine ⟨w.y, rfl, by rw [drop_none e1]; simp, q1, fun z hz => p7 z hz w q2, ?_⟩
        have : stepI b k w.y = k + 1 := by simp [stepI, e2]
        have := (m1 (y := w.y) hi).2.1; omega
    | some v =>
      obtain ⟨r1, r2⟩ := drop_min ha e1
      cases e2 : b[k]? with
      | none =>
        refine ⟨v.y, rfl, r1, by rw [drop_none e2]; simp, fun z hz => p6 z hz v r2, ?_⟩
        have : stepI a i v.y = i + 1 := by simp [stepI, e1]
        have := (m2 (y := v.y) hk).2.1; omega
      | some w =>
        obtain ⟨q1, q2⟩ := drop_min hb e2
        by_cases hvw : v.y ≤ w.y
        · refine ⟨v.y, by simp [hvw], r1, fun u hu => Int.le_trans hvw (q1 u hu), fun z hz => p6 z hz v r2, ?_⟩
          have : stepI a i v.y = i + 1 := by simp [stepI, e1]
          have := (m2 (y := v.y) hk).2.1; omega
        · refine ⟨w.y, by simp [hvw], fun u hu => Int.le_trans (by omega) (r1 u hu), q1, fun z hz => p7 z hz w q2, ?_⟩
          have : stepI b k w.y = k + 1 := by simp [stepI, e2]
          have := (m1 (y := w.y) hi).2.1; omega
  obtain ⟨y, e, h1, h2, h0, hprog⟩ := key
  rw [e]
  obtain ⟨s1, s2, s3⟩ := side ha p4 h0 h1
  obtain ⟨t1, t2, t3⟩ := side hb p5 h0 h2
  refine ⟨s1, t1, ⟨(stepI_le hi).1, (stepI_le hk).1, ys ++ [y], ?_, ?_, ?_, s2, t2, s3, t3⟩, hprog⟩
  · rw [List.pairwise_append]
    refine ⟨p1, by simp, fun z hz u hu => ?_⟩
    simp at hu; subst hu; exact h0 z hz
  · rw [p2]; simp [opOn]
  · simp; omega
theorem opAt_len {f : Bool → Bool → Bool} {a b : List Row} {i k : Nat} {out : List Row} (h : OpAt f a b i k out) : out.length ≤ a.length + b.length := by
  obtain ⟨hi, hk, ys, p1, p2, p3, p4, p5, p6, p7⟩ := h
  have : ∀ l : List Int, (opOn f a b l).length ≤ l.length := fun l => by
    induction l with
    | nil => simp [opOn]
    | cons y l ih =>
      simp only [opOn, List.flatMap_cons, List.length_append, List.length_cons] at *
      have : (opRow f a b y).length ≤ 1 := by unfold opRow; split <;> simp
      omega
  have := this ys
  rw [← p2] at this; omega
theorem opAt_end {f : Bool → Bool → Bool} (hf : f false false = false) {a b : List Row} (ha : validR a = true) (hb : validR b = true) {out : List Row} (h : OpAt f a b a.length b.length out) : out = opR f a b := by
  obtain ⟨hi, hk, ys, p1, p2, p3, p4, p5, p6, p7⟩ := h
  rw [List.take_length] at p4 p5
  rw [p2]
  exact opR_on hf ha hb p1 fun w hw => hw.elim (p4 w) (p5 w)
end Go.Proofs.YtagakfaiimaifaaGreat
