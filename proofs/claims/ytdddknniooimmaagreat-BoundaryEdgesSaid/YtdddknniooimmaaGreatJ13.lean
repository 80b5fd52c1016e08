/-
  Texts of this seat put together: L0, BW15.
-/
import Derived.Test.YtdddknniooimmaaGreatJ4
import Derived.Test.YtdddknniooimmaaGreatJ3
import Derived.Test.YtdddknniooimmaaGreatJ6
import Derived.Test.YtdddknniooimmaaGreatJ5
import Derived.Test.YtdddknniooimmaaGreatChecked
set_option linter.unusedVariables false
set_option linter.unusedSimpArgs false
set_option maxRecDepth 100000
namespace Go.Proofs.YtdddknniooimmaaGreat
open Go.Abs

theorem run_of {f : Nat} {ds : List D} (h : hasT Tryz.prog (f + 2) 85 ds) : ∃ c : Run, ds = c.row := by
  obtain ⟨hl, hp⟩ := hasT_struct (n := 2) (ts := [3, 3]) Tryz.underlying85 (by kernel_rfl) rfl (by kernel_rfl) h
  obtain ⟨d0, r0, e0, h0, hp0⟩ := parts_one (by kernel_rfl) hp (by simp_all <;> omega)
  subst e0
  obtain ⟨d1, r1, e1, h1, hp1⟩ := parts_one (by kernel_rfl) hp0 (by simp_all <;> omega)
  subst e1
  simp only [parts] at hp1
  subst hp1
  obtain ⟨n0, e0, w0⟩ := hasT_int Tryz.underlying3 h0
  cases e0
  obtain ⟨n1, e1, w1⟩ := hasT_int Tryz.underlying3 h1
  cases e1
  exact ⟨⟨n0, n1⟩, rfl⟩
theorem runs_of {f : Nat} {d : D} (h : hasT Tryz.prog (f + 3) 63 [d]) : ∃ l : List Run, d = encRuns l := by
  obtain ⟨rows, he, _, hr⟩ := hasT_slice Tryz.underlying63 h
  cases he
  obtain ⟨l, rfl⟩ := rows_of (row := Run.row) fun r hr' => run_of (hr r hr')
  exact ⟨l, rfl⟩
theorem regrows_of {f : Nat} {d : D} (h : hasT Tryz.prog (f + 5) 22 [d]) : ∃ l : List Row, d = encRows l := by
  obtain ⟨rows, he, _, hr⟩ := hasT_slice Tryz.underlying22 h
  cases he
  obtain ⟨l, rfl⟩ := rows_of (row := Row.row) fun r hr' => by
    obtain ⟨hl, hp⟩ := hasT_struct (n := 2) (ts := [3, 63]) Tryz.underlying65 (by kernel_rfl) rfl (by kernel_rfl) (hr r hr')
    obtain ⟨d0, r0, e0, h0, hp0⟩ := parts_one (by kernel_rfl) hp (by simp_all <;> omega)
    subst e0
    obtain ⟨d1, r1, e1, h1, hp1⟩ := parts_one (by kernel_rfl) hp0 (by simp_all <;> omega)
    subst e1
    simp only [parts] at hp1
    subst hp1
    obtain ⟨n0, e0, w0⟩ := hasT_int Tryz.underlying3 h0
    cases e0
    obtain ⟨c, rfl⟩ := runs_of h1
    exact ⟨⟨n0, c⟩, rfl⟩
  exact ⟨l, rfl⟩
theorem region_of {f : Nat} {ds : List D} (h : hasT Tryz.prog (f + 6) 24 ds) : ∃ l : List Row, ds = regRow l := by
  obtain ⟨hl, hp⟩ := hasT_struct (n := 1) (ts := [22]) Tryz.underlying24 (by kernel_rfl) rfl (by kernel_rfl) h
  obtain ⟨d0, r0, e0, h0, hp0⟩ := parts_one (by kernel_rfl) hp (by simp_all <;> omega)
  subst e0
  simp only [parts] at hp0
  subst hp0
  obtain ⟨c, rfl⟩ := regrows_of h0
  exact ⟨c, rfl⟩

theorem arg_region {x : D} (h : hasV Tryz.prog 24 x) : ∃ R : List Row, x = .agg (regRow R) := by
  simp only [hasV, Tryz.underlying24] at h
  obtain ⟨cs, rfl, h⟩ := h
  obtain ⟨s, rfl⟩ := region_of (f := 24) h
  exact ⟨s, rfl⟩
theorem own : ownKnob Tryz.prog.godebug = none := by kernel_rfl
theorem laidOut : laidOutB Tryz.prog = true := by kernel_rfl
def zeroCell : Value := .agg #[.int .i64 0, .int .i64 0]
def zeroReg : Value := .agg #[.slice none 0 0]
end Go.Proofs.YtdddknniooimmaaGreat

namespace Go.Proofs.YtdddknniooimmaaGreat
open Go.Abs

def cut20 (x : Run) : Run := if x.a < x.b ∧ -4097 < x.a ∧ x.b < 4097 ∧ x.a < x.b - 20 then ⟨x.a, x.a + 20⟩ else x
def fewW (w : Row) : Row := ⟨w.y, (w.runs.take 4).map cut20⟩
def fewR (R : List Row) : List Row := (R.take 12).map fewW

theorem few_small (R : List Row) : smallR (fewR R) := by
  refine ⟨by simp [fewR]; omega, fun w hw => ?_⟩
  obtain ⟨v, _, rfl⟩ := List.mem_map.1 hw
  simp [fewW]; omega

theorem cut20_le (x : Run) (h : -4096 ≤ (cut20 x).a ∧ (cut20 x).b ≤ 4096) : ((cut20 x).b - (cut20 x).a).toNat ≤ 20 := by
  unfold cut20 at *
  split
  · simp only; omega
  · rename_i hc
    rw [if_neg hc] at h
    by_cases h1 : x.a < x.b
    · have : ¬ x.a < x.b - 20 := fun h2 => hc ⟨h1, by omega, by omega, h2⟩
      omega
    · omega
theorem flat_cap {α β : Type} (f : α → List β) (n : Nat) : ∀ l : List α, (∀ a ∈ l, (f a).length ≤ n) → (l.flatMap f).length ≤ n * l.length
  | [], _ => by simp
  | a :: l, h => by
    have h1 := h a (by simp)
    have h2 := flat_cap f n l fun b hb => h b (by simp [hb])
    rw [List.flatMap_cons, List.length_append, List.length_cons, Nat.mul_add]
    omega
theorem few_cells22 {R : List Row} (h : validR (fewR R) = true) : (regCells (fewR R)).length ≤ 960 := by
  have h1 : (fewR R).length ≤ 12 := by simp [fewR]; omega
  have h2 := flat_cap rowCells 80 (fewR R) fun w hw => by
    have hf := (row_fine h hw).2
    obtain ⟨v, _, rfl⟩ := List.mem_map.1 hw
    obtain ⟨_, ha, hb⟩ := fine_apart.1 hf
    have hl : (fewW v).runs.length ≤ 4 := by simp [fewW]; omega
    have h3 := flat_cap (runCells (fewW v).y) 20 (fewW v).runs fun r hr => by
      rw [runCells_len]
      have hrb := hb r hr
      obtain ⟨x, _, rfl⟩ := List.mem_map.1 hr
      exact cut20_le x hrb
    unfold rowCells
    omega
  unfold regCells
  omega
set_option maxHeartbeats 4000000 in
theorem few22_ok (R : List Row) : PC Tryz.prog 30 [.agg (regRow R)] (.p (.agg (regRow (fewR R)))) := by
  refine pc_of_awp cx (fn := Tryz.f30) (c := _) Tryz.func30 rfl rfl (Nat.le_of_ble_eq_true rfl) ?_
  rw [Tryz.ntmps30]; refine Nav.imp ?_
  refine awp_region cx [] fun K hK => ?_
  simp [push_cast]
  repeat (refine And.intro (by clear hK; intros; first | omega | (simp_all; done) | (simp_all <;> omega)) ?_)
  refine hK _ ?_; clear hK K; refine Nav.imp ?_
  refine awp_region cx [] fun K hK => ?_
  simp [push_cast]
  repeat (refine And.intro (by clear hK; intros; first | omega | (simp_all; done) | (simp_all <;> omega)) ?_)
  refine hK _ ?_; clear hK K; refine Nav.imp ?_
  refine awp_region cx [] fun K hK => ?_
  simp [push_cast]
  repeat (refine And.intro (by clear hK; intros; first | omega | (simp_all; done) | (simp_all <;> omega)) ?_)
  refine hK _ ?_; clear hK K; refine Nav.imp ?_
  refine awp_loop (β := Nat × List Row) (fun b => ⟨86, [(1, .ptr 0 0 0), (2, .ptr 1 0 0), (3, .ptr 2 0 0), (4, .d (.int .i64 b.1))], [(0, some ⟨24, 1, [(regRow R).map .d]⟩), (1, some ⟨24, 1, [[.nl]]⟩), (2, some ⟨24, 1, [[.hs 3 0 b.2.length]]⟩), (3, some ⟨65, 2, dr (b.2.map Row.row)⟩)], 4⟩) (fun b => b.1 ≤ R.length ∧ b.1 ≤ 12 ∧ b.2 = (R.take b.1).map fewW) (fun b => R.length - b.1) (0, []) ?_ ⟨Nat.zero_le _, by omega, by simp⟩ ?_
  · refine weak_of [(0, some 0), (1, some 1), (2, some 2), (3, none)] rfl (by simp [upT, up, upL, push_cast]) (by simp [upH, upR, upL, up, push_cast]) (by simp [namesOk, push_cast]) (by simp [olds])
  · rintro ⟨k, out⟩ ⟨hk, hk2, hout⟩
    simp only at hk hk2 hout
    refine Nav.imp ?_
    refine awp_region cx [] fun K hK => ?_
    simp [push_cast]
    repeat (refine And.intro (by clear hK; intros; first | omega | (simp_all; done) | (simp_all <;> omega)) ?_)
    refine hK _ ?_; clear hK K; refine Nav.imp ?_
    refine awp_cond (by simp [push_cast] <;> exact rfl) (fun hb => ?_) (fun hb => ?_) <;> (refine Nav.imp ?_)
    · simp at hb
      obtain ⟨hlt, h12⟩ := hb
      obtain ⟨w, hw⟩ := getq hlt
      have e0 := wrap_i64 (n := (k : Int) + 1) (by omega) (by omega)
      have hnext : (R.take (k + 1)).map fewW = (R.take k).map fewW ++ [fewW w] := by rw [take_get hw]; simp
      have hol : out.length ≤ 12 := by rw [hout]; simp; omega
      have ho40 : (out.length + 1) * 32 ≤ 140737488355328 := by omega
      obtain ⟨y, ru⟩ := w
      refine awp_region cx [] fun K hK => ?_
      simp [push_cast, hw, Row.row]
      repeat (refine And.intro (by clear hK; intros; first | omega | (simp_all; done) | (simp_all <;> omega)) ?_)
      refine hK _ ?_; clear hK K; refine Nav.imp ?_
      refine awp_region cx [] fun K hK => ?_
      simp [push_cast, Row.row]
      repeat (refine And.intro (by clear hK; intros; first | omega | (simp_all; done) | (simp_all <;> omega)) ?_)
      refine hK _ ?_; clear hK K; refine Nav.imp ?_
      apply cut_
      · intro key
        refine awp_cond (b := decide (4 < (ru.length : Int))) (by simp [push_cast]) (fun hb => ?_) (fun hb => ?_) <;> (refine Nav.imp ?_)
        · have hb : 4 < ru.length := by simp at hb; omega
          have h4 : 4 ≤ ru.length := by omega
          refine awp_region cx [] fun K hK => ?_
          simp [push_cast, Row.row, h4]
          repeat (refine And.intro (by clear hK; intros; first | omega | (simp_all; done) | (simp_all <;> omega)) ?_)
          refine hK _ ?_; clear hK K; refine Nav.imp ?_
          refine awp_weak (s' := ⟨86, [(1, .ptr 0 0 0), (2, .ptr 1 0 0), (3, .ptr 2 0 0), (4, .d (.int .i64 k)), (5, .ptr 4 0 0)], [(0, some ⟨24, 1, [(regRow R).map .d]⟩), (1, some ⟨24, 1, [[.nl]]⟩), (2, some ⟨24, 1, [[.hs 3 0 out.length]]⟩), (3, some ⟨65, 2, dr (out.map Row.row)⟩), (4, some ⟨65, 2, [(Row.row ⟨y, ru.take 4⟩).map .d]⟩)], 5⟩) ?_ key.h
          refine weak_of [(0, some 0), (1, some 1), (2, some 2), (3, some 3), (4, some 18)] rfl (by simp [upT, up, upL, push_cast, Row.row]) (by simp [upH, upR, upL, up, push_cast, Row.row]) (by simp [namesOk, push_cast]) (by simp [olds])
        · have hb : ru.take 4 = ru := List.take_of_length_le (by simp at hb; omega)
          refine awp_weak (s' := ⟨86, [(1, .ptr 0 0 0), (2, .ptr 1 0 0), (3, .ptr 2 0 0), (4, .d (.int .i64 k)), (5, .ptr 4 0 0)], [(0, some ⟨24, 1, [(regRow R).map .d]⟩), (1, some ⟨24, 1, [[.nl]]⟩), (2, some ⟨24, 1, [[.hs 3 0 out.length]]⟩), (3, some ⟨65, 2, dr (out.map Row.row)⟩), (4, some ⟨65, 2, [(Row.row ⟨y, ru.take 4⟩).map .d]⟩)], 5⟩) ?_ key.h
          rw [hb]
          refine weak_of [(0, some 0), (1, some 1), (2, some 2), (3, some 3), (4, some 18)] rfl (by simp [upT, up, upL, push_cast, Row.row]) (by simp [upH, upR, upL, up, push_cast, Row.row]) (by simp [namesOk, push_cast]) (by simp [olds])
      · have hW : fewW ⟨y, ru⟩ = ⟨y, (ru.take 4).map cut20⟩ := rfl
        rw [hW] at hnext
        have hl4 : (ru.take 4).length ≤ 4 := by simp; omega
        generalize ru.take 4 = l at *
        refine Nav.imp ?_
        refine awp_region cx [] fun K hK => ?_
        simp [push_cast]
        repeat (refine And.intro (by clear hK; intros; first | omega | (simp_all; done) | (simp_all <;> omega)) ?_)
        refine hK _ ?_; clear hK K; refine Nav.imp ?_
        refine awp_region cx [] fun K hK => ?_
        simp [push_cast]
        repeat (refine And.intro (by clear hK; intros; first | omega | (simp_all; done) | (simp_all <;> omega)) ?_)
        refine hK _ ?_; clear hK K; refine Nav.imp ?_
        refine awp_loop (β := Nat × List Run) (fun b => ⟨86, [(1, .ptr 0 0 0), (2, .ptr 1 0 0), (3, .ptr 2 0 0), (4, .d (.int .i64 k)), (5, .ptr 4 0 0), (6, .hs 5 0 b.2.length), (7, .d (.int .i64 b.1))], [(0, some ⟨24, 1, [(regRow R).map .d]⟩), (1, some ⟨24, 1, [[.nl]]⟩), (2, some ⟨24, 1, [[.hs 3 0 out.length]]⟩), (3, some ⟨65, 2, dr (out.map Row.row)⟩), (4, some ⟨65, 2, [(Row.row ⟨y, l⟩).map .d]⟩), (5, some ⟨85, 2, dr (b.2.map Run.row)⟩)], 6⟩) (fun b => b.1 ≤ l.length ∧ b.2 = (l.take b.1).map cut20) (fun b => l.length - b.1) (0, []) ?_ ⟨Nat.zero_le _, by simp⟩ ?_
        · refine weak_of [(0, some 0), (1, some 1), (2, some 2), (3, some 3), (4, some 4), (5, none)] rfl (by simp [upT, up, upL, push_cast, Row.row]) (by simp [upH, upR, upL, up, push_cast, Row.row]) (by simp [namesOk, push_cast]) (by simp [olds])
        · rintro ⟨j, L⟩ ⟨hj, hL⟩
          simp only at hj hL
          refine Nav.imp ?_
          refine awp_region cx [] fun K hK => ?_
          simp [push_cast, Row.row]
          repeat (refine And.intro (by clear hK; intros; first | omega | (simp_all; done) | (simp_all <;> omega)) ?_)
          refine hK _ ?_; clear hK K; refine Nav.imp ?_
          refine awp_cond (b := decide ((j : Int) < l.length)) (by simp [push_cast]) (fun hb => ?_) (fun hb => ?_) <;> (refine Nav.imp ?_)
          · have hjl : j < l.length := by simpa using hb
            obtain ⟨x, hx⟩ := getq hjl
            have e1 := wrap_i64 (n := (j : Int) + 1) (by omega) (by omega)
            have hLl : L.length ≤ 4 := by rw [hL]; simp; omega
            have hL16 : (L.length + 1) * 16 ≤ 140737488355328 := by omega
            have hnx : (l.take (j + 1)).map cut20 = (l.take j).map cut20 ++ [cut20 x] := by rw [take_get hx]; simp
            have hcx : cut20 x = if x.a < x.b ∧ -4097 < x.a ∧ x.b < 4097 ∧ x.a < x.b - 20 then ⟨x.a, x.a + 20⟩ else x := rfl
            rw [← hL] at hnx
            obtain ⟨xa, xb⟩ := x
            simp only at hcx
            refine awp_region cx [] fun K hK => ?_
            simp [push_cast, hx, Row.row, Run.row]
            repeat (refine And.intro (by clear hK; intros; first | omega | (simp_all; done) | (simp_all <;> omega)) ?_)
            refine hK _ ?_; clear hK K; refine Nav.imp ?_
            refine awp_region cx [] fun K hK => ?_
            simp [push_cast, Run.row]
            repeat (refine And.intro (by clear hK; intros; first | omega | (simp_all; done) | (simp_all <;> omega)) ?_)
            refine hK _ ?_; clear hK K; refine Nav.imp ?_
            apply cut_
            · intro ky
              refine awp_cond (by simp [push_cast] <;> exact rfl) (fun hb => ?_) (fun hb => ?_) <;> (refine Nav.imp ?_)
              · simp at hb
                obtain ⟨⟨⟨b1, b4⟩, b2⟩, b3⟩ := hb
                have e2 := wrap_i64 (n := xb - 20) (by omega) (by omega)
                rw [e2] at b4
                have e3 := wrap_i64 (n := xa + 20) (by omega) (by omega)
                have hc : cut20 ⟨xa, xb⟩ = ⟨xa, xa + 20⟩ := by rw [hcx, if_pos ⟨b1, by omega, b3, b4⟩]
                refine awp_region cx [] fun K hK => ?_
                simp [push_cast, Run.row, e3]
                repeat (refine And.intro (by clear hK; intros; first | omega | (simp_all; done) | (simp_all <;> omega)) ?_)
                refine hK _ ?_; clear hK K; refine Nav.imp ?_
                refine awp_weak (s' := ⟨86, [(1, .ptr 0 0 0), (2, .ptr 1 0 0), (3, .ptr 2 0 0), (4, .d (.int .i64 k)), (5, .ptr 4 0 0), (6, .hs 5 0 L.length), (7, .d (.int .i64 j)), (8, .ptr 6 0 0)], [(0, some ⟨24, 1, [(regRow R).map .d]⟩), (1, some ⟨24, 1, [[.nl]]⟩), (2, some ⟨24, 1, [[.hs 3 0 out.length]]⟩), (3, some ⟨65, 2, dr (out.map Row.row)⟩), (4, some ⟨65, 2, [(Row.row ⟨y, l⟩).map .d]⟩), (5, some ⟨85, 2, dr (L.map Run.row)⟩), (6, some ⟨85, 2, [(cut20 ⟨xa, xb⟩).row.map .d]⟩)], 7⟩) ?_ ky.h
                rw [hc]
                refine weak_of [(0, some 0), (1, some 1), (2, some 2), (3, some 3), (4, some 4), (5, some 5), (6, some 16)] rfl (by simp [upT, up, upL, push_cast, Row.row, Run.row]) (by simp [upH, upR, upL, up, push_cast, Row.row, Run.row]) (by simp [namesOk, push_cast]) (by simp [olds])
              · simp at hb
                have hc : cut20 ⟨xa, xb⟩ = ⟨xa, xb⟩ := by
                  rw [hcx, if_neg]
                  rintro ⟨b1, b2, b3, b4⟩
                  have e2 := wrap_i64 (n := xb - 20) (by omega) (by omega)
                  have := hb b1 (by rw [e2]; exact b4) (by omega)
                  omega
                refine awp_weak (s' := ⟨86, [(1, .ptr 0 0 0), (2, .ptr 1 0 0), (3, .ptr 2 0 0), (4, .d (.int .i64 k)), (5, .ptr 4 0 0), (6, .hs 5 0 L.length), (7, .d (.int .i64 j)), (8, .ptr 6 0 0)], [(0, some ⟨24, 1, [(regRow R).map .d]⟩), (1, some ⟨24, 1, [[.nl]]⟩), (2, some ⟨24, 1, [[.hs 3 0 out.length]]⟩), (3, some ⟨65, 2, dr (out.map Row.row)⟩), (4, some ⟨65, 2, [(Row.row ⟨y, l⟩).map .d]⟩), (5, some ⟨85, 2, dr (L.map Run.row)⟩), (6, some ⟨85, 2, [(cut20 ⟨xa, xb⟩).row.map .d]⟩)], 7⟩) ?_ ky.h
                rw [hc]
                refine weak_of [(0, some 0), (1, some 1), (2, some 2), (3, some 3), (4, some 4), (5, some 5), (6, some 16)] rfl (by simp [upT, up, upL, push_cast, Row.row, Run.row]) (by simp [upH, upR, upL, up, push_cast, Row.row, Run.row]) (by simp [namesOk, push_cast]) (by simp [olds])
            · generalize cut20 ⟨xa, xb⟩ = c at *
              obtain ⟨ca, cb⟩ := c
              refine Nav.imp ?_
              refine awp_region cx [] fun K hK => ?_
              simp [push_cast, Run.row, hL16]
              repeat (refine And.intro (by clear hK; intros; first | omega | (simp_all; done) | (simp_all <;> omega)) ?_)
              refine hK _ ?_; clear hK K; refine Nav.imp ?_
              refine awp_region cx [] fun K hK => ?_
              simp [push_cast, e1]
              repeat (refine And.intro (by clear hK; intros; first | omega | (simp_all; done) | (simp_all <;> omega)) ?_)
              refine hK _ ?_; clear hK K; refine Nav.imp ?_
              refine ⟨(j + 1, L ++ [⟨ca, cb⟩]), ⟨hjl, hnx.symm⟩, by simp only; omega, ?_⟩
              refine weak_of [(0, some 0), (1, some 1), (2, some 2), (3, some 3), (4, some 4), (5, some 10)] rfl (by simp [upT, up, upL, push_cast, Row.row, Run.row]) (by simp [upH, upR, upL, up, push_cast, Row.row, Run.row]) (by simp [namesOk, push_cast]) (by simp [olds])
          · have hjn : j = l.length := by simp at hb; omega
            subst hjn
            rw [List.take_length] at hL
            have hcl : (⟨y, l.map cut20⟩ : Row) = ⟨y, L⟩ := by rw [hL]
            rw [hcl, ← hout] at hnext
            refine awp_freeze 5 (L.map Run.row) rfl (by simp [push_cast, Run.row]) fun K hK => ?_
            simp [push_cast, St.fz, fzT, fzH, fzO, fz, fzL, fzR, fzR_dr, fzR_app, fzR_set, fzL_map, Run.row]
            refine hK _ ?_; clear hK K; refine Nav.imp ?_
            refine awp_region cx [] fun K hK => ?_
            simp [push_cast, Row.row, ho40]
            repeat (refine And.intro (by clear hK; intros; first | omega | (simp_all; done) | (simp_all <;> omega)) ?_)
            refine hK _ ?_; clear hK K; refine Nav.imp ?_
            refine awp_region cx [] fun K hK => ?_
            simp [push_cast, e0]
            repeat (refine And.intro (by clear hK; intros; first | omega | (simp_all; done) | (simp_all <;> omega)) ?_)
            refine hK _ ?_; clear hK K; refine Nav.imp ?_
            refine ⟨(k + 1, out ++ [⟨y, L⟩]), ⟨hlt, by simp only; omega, hnext.symm⟩, by simp only; omega, ?_⟩
            refine weak_of [(0, some 0), (1, some 1), (2, some 2), (3, some 18)] rfl (by simp [upT, up, upL, push_cast, Row.row]) (by simp [upH, upR, upL, up, push_cast, Row.row]) (by simp [namesOk, push_cast]) (by simp [olds])
    · simp at hb
      have hf : fewR R = out := by
        rw [hout]
        unfold fewR
        congr 1
        by_cases h : k < R.length
        · rw [show k = 12 from by have := hb h; omega]
        · rw [List.take_of_length_le (by omega), List.take_of_length_le (by omega)]
      rw [hf]
      clear hf hout
      refine awp_freeze 3 (out.map Row.row) rfl (by simp [push_cast, Row.row]) fun K hK => ?_
      simp [push_cast, St.fz, fzT, fzH, fzO, fz, fzL, fzR, fzR_dr, fzR_app, fzR_set, fzL_map, Row.row]
      refine hK _ ?_; clear hK K; refine Nav.imp ?_
      refine awp_region cx [] fun K hK => ?_
      simp [push_cast]
      repeat (refine And.intro (by clear hK; intros; first | omega | (simp_all; done) | (simp_all <;> omega)) ?_)
      refine hK _ ?_; clear hK K; refine Nav.imp ?_
      simp [push_cast]

end Go.Proofs.YtdddknniooimmaaGreat
