/-
  Texts of this seat put together: N3, N4, L0, B7, D1, Y1, Y2, Y3.
-/
import Derived.Test.YtknelhiejjdioaaGreatJ9
import Derived.Test.YtknelhiejjdioaaGreatJ5
import Derived.Test.YtknelhiejjdioaaGreatJ8
import Derived.Test.YtknelhiejjdioaaGreatJ4
import Derived.Test.YtknelhiejjdioaaGreatJ3
import Derived.Test.YtknelhiejjdioaaGreatJ7
import Derived.Test.YtknelhiejjdioaaGreatChecked
set_option linter.unusedVariables false
set_option linter.unusedSimpArgs false
set_option maxRecDepth 100000
namespace Go.Proofs.YtknelhiejjdioaaGreat
open Go.Abs

/-! The reference: cells that are not near. -/
def hitRun (k x : Int) (r : Run) : Bool := decide (r.a ≤ x + k) && decide (x - k < r.b)
def hitRow (k : Int) (c : Cell) (w : Row) : Bool := decide (c.y - k ≤ w.y) && decide (w.y ≤ c.y + k) && w.runs.any (hitRun k c.x)
def nearB (R : List Row) (c : Cell) (k : Int) : Bool := R.any (hitRow k c)
theorem nearB_iff {R : List Row} {c : Cell} {K : Nat} : nearB R c K = true ↔ nearP R K c.y c.x := by
  unfold nearB nearP
  rw [List.any_eq_true]
  refine exists_congr fun w => and_congr_right fun _ => ?_
  simp only [hitRow, Bool.and_eq_true, decide_eq_true_eq, List.any_eq_true, hitRun]
  constructor
  · rintro ⟨⟨h1, h2⟩, r, hr, h3, h4⟩; exact ⟨by omega, by omega, r, hr, by omega, by omega⟩
  · rintro ⟨h1, h2, r, hr, h3, h4⟩; exact ⟨⟨by omega, by omega⟩, r, hr, by omega, by omega⟩
theorem any_take {α : Type} {p : α → Bool} {l : List α} {k : Nat} {x : α} (h : l[k]? = some x) : (l.take (k + 1)).any p = ((l.take k).any p || p x) := by rw [take_get h]; simp


theorem filter_take {α : Type} {p : α → Bool} {l : List α} {k : Nat} {x : α} (h : l[k]? = some x) : (l.take (k + 1)).filter p = (l.take k).filter p ++ (if p x then [x] else []) := by
  rw [take_get h, List.filter_append]
  congr 1
  cases hx : p x <;> simp [hx]
/-- The cells of a valid region, in order: the region of them is that region. -/
theorem ofR_cells {R : List Row} (hv : validR R = true) {l : List Cell} (hp : l.Pairwise ltY) (hm : ∀ c, c ∈ l ↔ c ∈ regCells R) : ofR l = R := by
  have e : l = regCells R := ltY_uniq hp (cells_pw hv) hm
  subst e
  unfold ofR
  rw [if_pos (List.all_eq_true.2 fun c hc => cells_on hv hc), sortY_cells hv (List.Perm.refl _), build_cells hv]
theorem ofE_cells {R : List Row} (hv : validR R = true) {l : List Cell} (hm : ∀ c ∈ l, c ∈ regCells R) : ofE l = 0 := by
  unfold ofE
  rw [if_pos (List.all_eq_true.2 fun c hc => cells_on hv (hm c hc))]
theorem miss_ref {S M : List Row} {k : Int} (h : missB S M k = true) : ofR ((regCells S).filter fun c => !nearB M c k) = missR S M k := by
  obtain ⟨h1, h2⟩ := miss_facts h
  simp only [missB, Bool.and_eq_true, decide_eq_true_eq] at h
  obtain ⟨⟨⟨v1, v2⟩, k1⟩, k2⟩ := h
  obtain ⟨K, rfl⟩ : ∃ K : Nat, k = K := ⟨k.toNat, by omega⟩
  refine ofR_cells h1 ((cells_pw v1).filter _) fun c => ?_
  rw [h2, List.mem_filter, Int.toNat_natCast, ← nearB_iff]
  simp

end Go.Proofs.YtknelhiejjdioaaGreat

set_option linter.unusedVariables false
set_option linter.unusedSimpArgs false
set_option maxRecDepth 100000
namespace Go.Proofs.YtknelhiejjdioaaGreat
open Go.Abs

/-! What is too large to be examined. -/
def lensW (R : List Row) (i : Nat) : Int := (R.take i).foldl (fun n w => IntKind.i64.wrap (n + (w.runs.length : Int))) 0
theorem lensW_succ {R : List Row} {i : Nat} {w : Row} (h : R[i]? = some w) : lensW R (i + 1) = IntKind.i64.wrap (lensW R i + (w.runs.length : Int)) := by simp [lensW, take_get h]
def heavyB (R : List Row) : Bool := decide (200 < R.length) || decide (400 < lensW R (min R.length 300)) || decide (1000 < countR R)
theorem heavy_facts {R : List Row} (h : heavyB R = false) : R.length ≤ 200 ∧ (validR R = true → (regCells R).length ≤ 1000) := by
  simp only [heavyB, Bool.or_eq_false_iff, decide_eq_false_iff_not] at h
  refine ⟨by omega, fun hv => ?_⟩
  have := h.2
  unfold countR at this
  rw [if_pos hv] at this
  omega


set_option maxHeartbeats 2000000 in
theorem heavy30_ok (R : List Row) (hR : bigR R) : PC Tryz.prog 11 [.agg (regRow R)] (.p (.bool (heavyB R))) := by
  have c1 := rcount_big R hR fun h => small_valid h
  have hl := hR.1
  refine pc_of_awp cx (fn := Tryz.f11) (c := _) Tryz.func11 rfl rfl (Nat.le_of_ble_eq_true rfl) ?_
  rw [Tryz.ntmps11]; refine Nav.imp ?_
  refine awp_region cx [] fun K hK => ?_
  simp [push_cast]
  repeat (refine And.intro (by clear hK; intros; first | omega | (simp_all; done) | (simp_all <;> omega)) ?_)
  refine hK _ ?_; clear hK K; refine Nav.imp ?_
  refine awp_region cx [] fun K hK => ?_
  simp [push_cast]
  repeat (refine And.intro (by clear hK; intros; first | omega | (simp_all; done) | (simp_all <;> omega)) ?_)
  refine hK _ ?_; clear hK K; refine Nav.imp ?_
  refine awp_region cx [] fun K hK => ?_
  simp [push_cast]
  repeat (refine And.intro (by clear hK; intros; first | omega | (simp_all; done) | (simp_all <;> omega)) ?_)
  refine hK _ ?_; clear hK K; refine Nav.imp ?_
  refine awp_loop (β := Nat) (fun i => ⟨38, [(1, .ptr 0 0 0), (3, .d (.int .i64 (lensW R i))), (4, .d (.int .i64 i))], [(0, some ⟨24, 1, [(regRow R).map .d]⟩)], 1⟩) (fun i => i ≤ min R.length 300) (fun i => min R.length 300 - i) 0 ?_ (Nat.zero_le _) ?_
  · refine weak_of [(0, some 0)] rfl (by simp [upT, up, upL, push_cast, lensW]) (by simp [upH, upR, upL, up, push_cast, lensW]) (by simp [namesOk, push_cast]) (by simp [olds])
  · intro i hi
    replace hi : i ≤ min R.length 300 := hi
    refine Nav.imp ?_
    by_cases hlt : i < min R.length 300
    · obtain ⟨w, hw⟩ := getq (l := R) (k := i) (by omega)
      have e0 := wrap_i64 (n := (i : Int) + 1) (by omega) (by omega)
      have q1 : i < R.length := by omega
      have q2 : (i : Int) < 300 := by omega
      have hs := lensW_succ hw
      generalize hd : lensW R (i + 1) = n' at *
      generalize hn : lensW R i = n0 at *
      rw [eq_comm] at hs
      refine awp_region cx [] fun K hK => ?_
      simp [push_cast, q1, q2]
      repeat (refine And.intro (by clear hK; intros; first | omega | (simp_all; done) | (simp_all <;> omega)) ?_)
      refine hK _ ?_; clear hK K; refine Nav.imp ?_
      refine awp_cond (b := true) (by simp [push_cast, q1, q2]) (fun hb => ?_) (fun hb => ?_) <;> (refine Nav.imp ?_)
      · refine awp_region cx [] fun K hK => ?_
        simp [push_cast, hw, Row.row, hs]
        repeat (refine And.intro (by clear hK; intros; first | omega | (simp_all; done) | (simp_all <;> omega)) ?_)
        refine hK _ ?_; clear hK K; refine Nav.imp ?_
        refine awp_region cx [] fun K hK => ?_
        simp [push_cast, e0]
        repeat (refine And.intro (by clear hK; intros; first | omega | (simp_all; done) | (simp_all <;> omega)) ?_)
        refine hK _ ?_; clear hK K; refine Nav.imp ?_
        refine ⟨i + 1, by show i + 1 ≤ _; omega, by show _ - (i + 1) < _ - i; omega, ?_⟩
        refine weak_of [(0, some 0)] rfl (by simp [upT, up, upL, push_cast, hs, hd]) (by simp [upH, upR, upL, up, push_cast, hs, hd]) (by simp [namesOk, push_cast]) (by simp [olds])
      · simp at hb
    · have hie : i = min R.length 300 := by omega
      subst hie
      apply cut_
      · intro key
        by_cases hq : min R.length 300 < R.length
        · have q2 : (300 : Int) ≤ ((min R.length 300 : Nat) : Int) := by omega
          refine awp_region cx [] fun K hK => ?_
          simp [push_cast, hq, q2]
          repeat (refine And.intro (by clear hK; intros; first | omega | (simp_all; done) | (simp_all <;> omega)) ?_)
          refine hK _ ?_; clear hK K; refine Nav.imp ?_
          refine awp_cond (b := false) (by simp [push_cast, hq, q2]) (fun hb => ?_) (fun hb => ?_) <;> (refine Nav.imp ?_)
          · simp at hb
          · refine awp_weak (s' := ⟨38, [(1, .ptr 0 0 0), (3, .d (.int .i64 (lensW R (min R.length 300))))], [(0, some ⟨24, 1, [(regRow R).map .d]⟩)], 1⟩) ?_ key.h
            refine weak_of [(0, some 0)] rfl (by simp [upT, up, upL, push_cast]) (by simp [upH, upR, upL, up, push_cast]) (by simp [namesOk, push_cast]) (by simp [olds])
        · refine awp_region cx [] fun K hK => ?_
          simp [push_cast, hq]
          repeat (refine And.intro (by clear hK; intros; first | omega | (simp_all; done) | (simp_all <;> omega)) ?_)
          refine hK _ ?_; clear hK K; refine Nav.imp ?_
          refine awp_cond (b := false) (by simp [push_cast, hq]) (fun hb => ?_) (fun hb => ?_) <;> (refine Nav.imp ?_)
          · simp at hb
          · refine awp_weak (s' := ⟨38, [(1, .ptr 0 0 0), (3, .d (.int .i64 (lensW R (min R.length 300))))], [(0, some ⟨24, 1, [(regRow R).map .d]⟩)], 1⟩) ?_ key.h
            refine weak_of [(0, some 0)] rfl (by simp [upT, up, upL, push_cast]) (by simp [upH, upR, upL, up, push_cast]) (by simp [namesOk, push_cast]) (by simp [olds])
      · refine Nav.imp ?_
        by_cases h1 : 200 < R.length
        · have e1 : (200 : Int) < (R.length : Int) := by omega
          refine awp_region cx [(10, .skip)] fun K hK => ?_
          simp [push_cast, e1, h1]
          repeat (refine And.intro (by clear hK; intros; first | omega | (simp_all; done) | (simp_all <;> omega)) ?_)
          refine hK _ ?_; clear hK K; refine Nav.imp ?_
          simp [push_cast, heavyB, h1]
        · by_cases h2 : 400 < lensW R (min R.length 300)
          · have e1 : ¬ (200 : Int) < (R.length : Int) := by omega
            refine awp_region cx [(10, .skip)] fun K hK => ?_
            simp [push_cast, e1, h1, h2]
            repeat (refine And.intro (by clear hK; intros; first | omega | (simp_all; done) | (simp_all <;> omega)) ?_)
            refine hK _ ?_; clear hK K; refine Nav.imp ?_
            simp [push_cast, heavyB, h1, h2]
          · have e1 : ¬ (200 : Int) < (R.length : Int) := by omega
            have e3 : decide ((1000 : Int) < ((countR R : Nat) : Int)) = decide (1000 < countR R) := by simp; omega
            refine awp_region cx [(10, .p (.int .i64 (countR R)))] fun K hK => ?_
            simp [push_cast, e1, h1, h2, c1]
            repeat (refine And.intro (by clear hK; intros; first | omega | (simp_all; done) | (simp_all <;> omega)) ?_)
            refine hK _ ?_; clear hK K; refine Nav.imp ?_
            simp [push_cast, heavyB, h1, h2, e1, e3]
end Go.Proofs.YtknelhiejjdioaaGreat

set_option linter.unusedVariables false
set_option linter.unusedSimpArgs false
set_option maxRecDepth 100000
namespace Go.Proofs.YtknelhiejjdioaaGreat
open Go.Abs

/-! What the laws are called with. -/
theorem cell_of {f : Nat} {ds : List D} (h : hasT Tryz.prog (f + 2) 49 ds) : ∃ c : Cell, ds = c.row := by
  obtain ⟨hl, hp⟩ := hasT_struct (n := 2) (ts := [3, 3]) Tryz.underlying49 (by kernel_rfl) rfl (by kernel_rfl) h
  obtain ⟨d0, r0, e0, h0, hp0⟩ := parts_one (by kernel_rfl) hp (by simp_all <;> omega)
  subst e0
  obtain ⟨d1, r1, e1, h1, hp1⟩ := parts_one (by kernel_rfl) hp0 (by simp_all <;> omega)
  subst e1
  simp only [parts] at hp1
  subst hp1
  obtain ⟨n0, e0, w0⟩ := hasT_int Tryz.underlying3 h0
  cases e0
  obtain ⟨n1, e1, w1⟩ := hasT_int Tryz.underlying3 h1
  cases e1
  exact ⟨⟨n0, n1⟩, rfl⟩
theorem cells_of {f : Nat} {d : D} (h : hasT Tryz.prog (f + 3) 45 [d]) : ∃ l : List Cell, d = encCells l := by
  obtain ⟨rows, he, _, hr⟩ := hasT_slice Tryz.underlying45 h
  cases he
  obtain ⟨l, rfl⟩ := rows_of (row := Cell.row) fun r hr' => cell_of (hr r hr')
  exact ⟨l, rfl⟩
theorem run_of {f : Nat} {ds : List D} (h : hasT Tryz.prog (f + 2) 42 ds) : ∃ c : Run, ds = c.row := by
  obtain ⟨hl, hp⟩ := hasT_struct (n := 2) (ts := [3, 3]) Tryz.underlying42 (by kernel_rfl) rfl (by kernel_rfl) h
  obtain ⟨d0, r0, e0, h0, hp0⟩ := parts_one (by kernel_rfl) hp (by simp_all <;> omega)
  subst e0
  obtain ⟨d1, r1, e1, h1, hp1⟩ := parts_one (by kernel_rfl) hp0 (by simp_all <;> omega)
  subst e1
  simp only [parts] at hp1
  subst hp1
  obtain ⟨n0, e0, w0⟩ := hasT_int Tryz.underlying3 h0
  cases e0
  obtain ⟨n1, e1, w1⟩ := hasT_int Tryz.underlying3 h1
  cases e1
  exact ⟨⟨n0, n1⟩, rfl⟩
theorem runs_of {f : Nat} {d : D} (h : hasT Tryz.prog (f + 3) 38 [d]) : ∃ l : List Run, d = encRuns l := by
  obtain ⟨rows, he, _, hr⟩ := hasT_slice Tryz.underlying38 h
  cases he
  obtain ⟨l, rfl⟩ := rows_of (row := Run.row) fun r hr' => run_of (hr r hr')
  exact ⟨l, rfl⟩
theorem regrows_of {f : Nat} {d : D} (h : hasT Tryz.prog (f + 5) 22 [d]) : ∃ l : List Row, d = encRows l := by
  obtain ⟨rows, he, _, hr⟩ := hasT_slice Tryz.underlying22 h
  cases he
  obtain ⟨l, rfl⟩ := rows_of (row := Row.row) fun r hr' => by
    obtain ⟨hl, hp⟩ := hasT_struct (n := 2) (ts := [3, 38]) Tryz.underlying40 (by kernel_rfl) rfl (by kernel_rfl) (hr r hr')
    obtain ⟨d0, r0, e0, h0, hp0⟩ := parts_one (by kernel_rfl) hp (by simp_all <;> omega)
    subst e0
    obtain ⟨d1, r1, e1, h1, hp1⟩ := parts_one (by kernel_rfl) hp0 (by simp_all <;> omega)
    subst e1
    simp only [parts] at hp1
    subst hp1
    obtain ⟨n0, e0, w0⟩ := hasT_int Tryz.underlying3 h0
    cases e0
    obtain ⟨c, rfl⟩ := runs_of h1
    exact ⟨⟨n0, c⟩, rfl⟩
  exact ⟨l, rfl⟩
theorem region_of {f : Nat} {ds : List D} (h : hasT Tryz.prog (f + 6) 24 ds) : ∃ l : List Row, ds = regRow l := by
  obtain ⟨hl, hp⟩ := hasT_struct (n := 1) (ts := [22]) Tryz.underlying24 (by kernel_rfl) rfl (by kernel_rfl) h
  obtain ⟨d0, r0, e0, h0, hp0⟩ := parts_one (by kernel_rfl) hp (by simp_all <;> omega)
  subst e0
  simp only [parts] at hp0
  subst hp0
  obtain ⟨c, rfl⟩ := regrows_of h0
  exact ⟨c, rfl⟩

theorem arg_region {x : D} (h : hasV Tryz.prog 24 x) : ∃ R : List Row, x = .agg (regRow R) := by
  simp only [hasV, Tryz.underlying24] at h
  obtain ⟨cs, rfl, h⟩ := h
  obtain ⟨s, rfl⟩ := region_of (f := 24) h
  exact ⟨s, rfl⟩
theorem arg_cells {x : D} (h : hasV Tryz.prog 45 x) : ∃ l : List Cell, x = encCells l := by
  simp only [hasV, Tryz.underlying45] at h
  exact cells_of (f := 27) h
theorem arg_cell {x : D} (h : hasV Tryz.prog 49 x) : ∃ c : Cell, x = .agg c.row := by
  simp only [hasV, Tryz.underlying49] at h
  obtain ⟨cs, rfl, h⟩ := h
  obtain ⟨s, rfl⟩ := cell_of (f := 28) h
  exact ⟨s, rfl⟩
theorem arg_int {x : D} (h : hasV Tryz.prog 3 x) : ∃ n : Int, x = .int .i64 n := by
  obtain ⟨n, rfl, _⟩ := hasV_int Tryz.underlying3 h
  exact ⟨n, rfl⟩

theorem own : ownKnob Tryz.prog.godebug = none := by kernel_rfl
theorem laidOut : laidOutB Tryz.prog = true := by kernel_rfl
def zeroCell : Value := .agg #[.int .i64 0, .int .i64 0]
def zeroReg : Value := .agg #[.slice none 0 0]
end Go.Proofs.YtknelhiejjdioaaGreat

set_option linter.unusedVariables false
set_option linter.unusedSimpArgs false
set_option maxRecDepth 100000
namespace Go.Proofs.YtknelhiejjdioaaGreat
open Go.Abs Go.ChangeShapes Go.WideShapes Go.ChangeAt Go.RowKit

theorem big_rows {f : Nat} {d : D} (h : hasT Tryz.prog (f + 5) 22 [d]) : ∃ l : List Row, d = encRows l ∧ bigR l := by
  obtain ⟨rows, e, hlen, hr⟩ := hasT_slice Tryz.underlying22 h
  have hrow : ∀ r ∈ rows, ∃ w : Row, r = w.row ∧ w.runs.length ≤ 9223372036854775807 := fun r hr' => by
    obtain ⟨hl, hp⟩ := hasT_struct (n := 2) (ts := [3, 38]) Tryz.underlying40 (by kernel_rfl) (by kernel_rfl) (by kernel_rfl) (hr r hr')
    obtain ⟨d0, r0, e0, h0, hp0⟩ := parts_one (by kernel_rfl) hp (by omega)
    subst e0
    obtain ⟨d1, r1, e1, h1, hp1⟩ := parts_one (by kernel_rfl) hp0 (by simp at hl ⊢; omega)
    subst e1
    simp only [parts] at hp1
    subst hp1
    obtain ⟨n, en, _⟩ := hasT_int Tryz.underlying3 h0
    cases en
    obtain ⟨rr, er, hrl, hrr⟩ := hasT_slice Tryz.underlying38 h1
    cases er
    obtain ⟨l, rfl⟩ := rows_of (row := Run.row) fun x hx => run_of (f := f) (hrr x hx)
    exact ⟨⟨n, l⟩, rfl, by simpa [maxLen] using hrl⟩
  have key : ∀ rows : List (List D), (∀ r ∈ rows, ∃ w : Row, r = w.row ∧ w.runs.length ≤ 9223372036854775807) → ∃ l : List Row, rows = l.map Row.row ∧ ∀ w ∈ l, w.runs.length ≤ 9223372036854775807 := by
    intro rows
    induction rows with
    | nil => intro _; exact ⟨[], rfl, by simp⟩
    | cons r rows ih =>
      intro h
      obtain ⟨w, hw, hwl⟩ := h r (by simp)
      obtain ⟨l, hl, hll⟩ := ih fun x hx => h x (by simp [hx])
      exact ⟨w :: l, by rw [hw, hl]; rfl, fun v hv => by rcases List.mem_cons.1 hv with rfl | hv; exact hwl; exact hll v hv⟩
  obtain ⟨l, rfl, hl⟩ := key rows hrow
  cases e
  exact ⟨l, rfl, by simpa [maxLen] using hlen, hl⟩
theorem big_region {f : Nat} {ds : List D} (h : hasT Tryz.prog (f + 6) 24 ds) : ∃ l : List Row, ds = regRow l ∧ bigR l := by
  obtain ⟨hl, hp⟩ := hasT_struct (n := 1) (ts := [22]) Tryz.underlying24 (by kernel_rfl) (by kernel_rfl) (by kernel_rfl) h
  obtain ⟨d0, r0, e0, h0, hp0⟩ := parts_one (by kernel_rfl) hp (by omega)
  subst e0
  simp only [parts] at hp0
  subst hp0
  obtain ⟨l, rfl, hb⟩ := big_rows (f := f) h0
  exact ⟨l, rfl, hb⟩
theorem arg_regionB {x : D} (h : hasV Tryz.prog 24 x) : ∃ R : {R : List Row // bigR R}, x = .agg (regRow R.1) := by
  unfold hasV at h
  rw [Tryz.underlying24] at h
  obtain ⟨cs, rfl, h⟩ := h
  obtain ⟨l, rfl, hb⟩ := big_region (f := 24) h
  exact ⟨⟨l, hb⟩, rfl⟩

def oneRow (a b : Int) : List Row := [⟨0, [⟨a, b⟩]⟩]
theorem row30_ok (a b : Int) : PC Tryz.prog 28 [.int .i64 a, .int .i64 b] (.p (.agg (regRow (oneRow a b)))) := by
  refine pc_of_awp cx (fn := Tryz.f28) (c := _) Tryz.func28 rfl rfl (Nat.le_of_ble_eq_true rfl) ?_
  rw [Tryz.ntmps28]; refine Nav.imp ?_
  refine awp_region cx [] fun K hK => ?_
  simp [push_cast]
  repeat (refine And.intro (by clear hK; intros; first | omega | (simp_all; done) | (simp_all <;> omega)) ?_)
  refine hK _ ?_; clear hK K; refine Nav.imp ?_
  refine awp_region cx [(3, .f (.sl [[.int .i64 a, .int .i64 b]])), (5, .f (.sl [[.int .i64 0, .sl [[.int .i64 a, .int .i64 b]]]]))] fun K hK => ?_
  simp [push_cast]
  repeat (refine And.intro (by clear hK; intros; first | omega | (simp_all; done) | (simp_all <;> omega)) ?_)
  refine hK _ ?_; clear hK K; refine Nav.imp ?_
  simp [push_cast, oneRow, Row.row, Run.row]

def ends0 : List Row := [⟨0, [⟨0, 1⟩, ⟨4, 5⟩]⟩]
def t05 : List Row := [⟨0, [⟨0, 1⟩]⟩, ⟨1, [⟨0, 1⟩]⟩, ⟨2, [⟨0, 1⟩]⟩, ⟨3, [⟨0, 1⟩]⟩, ⟨4, [⟨0, 1⟩]⟩]
def tEnds : List Row := [⟨0, [⟨0, 1⟩]⟩, ⟨4, [⟨0, 1⟩]⟩]
theorem aw_turn {R T : List Row} (hR : validR R = true) (hT : validR T = true) (h : ∀ c : Cell, c ∈ regCells T ↔ xc c ∈ regCells R) : turnR R = T :=
  region_uniq (turn_facts hR).1 hT fun c => by rw [(turn_facts hR).2.1, h]
theorem aw_t05 : turnR (oneRow 0 5) = t05 := aw_turn (by decide +kernel) (by decide +kernel) fun c => by
  obtain ⟨x, y⟩ := c
  rw [mem_regCells, mem_regCells]
  simp [t05, oneRow, xc]
  omega
theorem aw_tE : turnR ends0 = tEnds := aw_turn (by decide +kernel) (by decide +kernel) fun c => by
  obtain ⟨x, y⟩ := c
  rw [mem_regCells, mem_regCells]
  simp [tEnds, ends0, xc]
  omega
theorem aw_t01 : turnR (oneRow 0 1) = oneRow 0 1 := aw_turn (by decide +kernel) (by decide +kernel) fun c => by
  obtain ⟨x, y⟩ := c
  rw [mem_regCells, mem_regCells]
  simp [oneRow, xc]
  omega
theorem on_rows {f : Bool → Bool → Bool} (hf : f false false = false) {a b : List Row} {ys : List Int} {T : List Row} (ha : validR a = true) (hb : validR b = true) (hp : ys.Pairwise (· < ·)) (hys : ∀ w, w ∈ a ∨ w ∈ b → w.y ∈ ys) (h : opOn f a b ys = T) : opR f a b = T := by
  rw [← opR_on hf ha hb hp hys, h]
theorem aw_d1 : opR fD (oneRow 0 5) ends0 = oneRow 1 4 := on_rows (ys := [0]) rfl (by decide +kernel) (by decide +kernel) (by decide) (fun w hw => by simp [oneRow, ends0] at hw; rcases hw with rfl | rfl <;> simp) (by decide +kernel)
theorem aw_i1 : opR fI (oneRow 0 5) ends0 = ends0 := on_rows (ys := [0]) rfl (by decide +kernel) (by decide +kernel) (by decide) (fun w hw => by simp [oneRow, ends0] at hw; rcases hw with rfl | rfl <;> simp) (by decide +kernel)
theorem aw_d2 : opR fD (oneRow 0 5) (oneRow 0 1) = oneRow 1 5 := on_rows (ys := [0]) rfl (by decide +kernel) (by decide +kernel) (by decide) (fun w hw => by simp [oneRow] at hw; rcases hw with rfl | rfl <;> simp) (by decide +kernel)
theorem aw_i2 : opR fI (oneRow 0 5) (oneRow 0 1) = oneRow 0 1 := on_rows (ys := [0]) rfl (by decide +kernel) (by decide +kernel) (by decide) (fun w hw => by simp [oneRow] at hw; rcases hw with rfl | rfl <;> simp) (by decide +kernel)
theorem aw_s1 : spansL (oneRow 0 5) ends0 = [[⟨1, 0⟩, ⟨2, 0⟩, ⟨3, 0⟩]] := by
  unfold spansL
  rw [aw_d1, aw_i1]
  decide +kernel
theorem aw_s2 : spansL (oneRow 0 5) (oneRow 0 1) = [] := by
  unfold spansL
  rw [aw_d2, aw_i2]
  decide +kernel
theorem aw_ys {w : Row} (hw : w ∈ t05 ∨ w ∈ tEnds ∨ w ∈ oneRow 0 1) : w.y ∈ ([0, 1, 2, 3, 4] : List Int) := by
  simp [t05, tEnds, oneRow] at hw
  rcases hw with (rfl | rfl | rfl | rfl | rfl) | (rfl | rfl) | rfl <;> simp
theorem aw_s3 : spansL t05 tEnds = [] := by
  unfold spansL
  rw [on_rows (T := [⟨1, [⟨0, 1⟩]⟩, ⟨2, [⟨0, 1⟩]⟩, ⟨3, [⟨0, 1⟩]⟩]) (ys := [0, 1, 2, 3, 4]) (f := fD) rfl (by decide +kernel) (by decide +kernel) (by decide) (fun w hw => aw_ys (hw.imp id .inl)) (by decide +kernel),
    on_rows (T := tEnds) (ys := [0, 1, 2, 3, 4]) (f := fI) rfl (by decide +kernel) (by decide +kernel) (by decide) (fun w hw => aw_ys (hw.imp id .inl)) (by decide +kernel)]
  decide +kernel
theorem aw_s4 : spansL t05 (oneRow 0 1) = [] := by
  unfold spansL
  rw [on_rows (T := [⟨1, [⟨0, 1⟩]⟩, ⟨2, [⟨0, 1⟩]⟩, ⟨3, [⟨0, 1⟩]⟩, ⟨4, [⟨0, 1⟩]⟩]) (ys := [0, 1, 2, 3, 4]) (f := fD) rfl (by decide +kernel) (by decide +kernel) (by decide) (fun w hw => aw_ys (hw.imp id .inr)) (by decide +kernel),
    on_rows (T := oneRow 0 1) (ys := [0, 1, 2, 3, 4]) (f := fI) rfl (by decide +kernel) (by decide +kernel) (by decide) (fun w hw => aw_ys (hw.imp id .inr)) (by decide +kernel)]
  decide +kernel
theorem aw_u : spansU (oneRow 0 5) ends0 true = [] ∧ spansU (oneRow 0 5) (oneRow 0 1) true = [] := by
  constructor
  · show (spansL (turnR (oneRow 0 5)) (turnR ends0)).map (·.map xc) = []
    rw [aw_t05, aw_tE, aw_s3]; rfl
  · show (spansL (turnR (oneRow 0 5)) (turnR (oneRow 0 1))).map (·.map xc) = []
    rw [aw_t05, aw_t01, aw_s4]; rfl
theorem aw_r : spansU (oneRow 0 5) ends0 false = [[⟨1, 0⟩, ⟨2, 0⟩, ⟨3, 0⟩]] ∧ spansU (oneRow 0 5) (oneRow 0 1) false = [] := ⟨aw_s1, aw_s2⟩
theorem aw_c1 : coverR [[⟨1, 0⟩, ⟨2, 0⟩, ⟨3, 0⟩]] = oneRow 1 4 := by
  have hv : validR (oneRow 1 4) = true := by decide +kernel
  have e : ([[⟨1, 0⟩, ⟨2, 0⟩, ⟨3, 0⟩]] : List (List Cell)).flatten = regCells (oneRow 1 4) := by decide +kernel
  unfold coverR
  rw [e]
  exact ofR_cells hv (cells_pw hv) fun c => Iff.rfl
theorem aw_c0 : coverR [] = [] := by
  have hv : validR [] = true := rfl
  exact ofR_cells (l := []) hv (by simp) fun c => by simp [regCells]
theorem aw_m : moreUp (oneRow 0 5) ends0 = false ∧ moreUp (oneRow 0 5) (oneRow 0 1) = false := by
  unfold moreUp
  rw [aw_u.1, aw_u.2, aw_r.1, aw_r.2, aw_c1, aw_c0]
  decide +kernel
theorem aw_b1 : brL (oneRow 0 5) ends0 = [[⟨1, 0⟩, ⟨2, 0⟩, ⟨3, 0⟩]] ∧ brRest (oneRow 0 5) ends0 = [] := by
  have h : brL (oneRow 0 5) ends0 = [[⟨1, 0⟩, ⟨2, 0⟩, ⟨3, 0⟩]] := by
    unfold brL
    rw [if_pos (by decide +kernel), aw_m.1, aw_r.1]
  refine ⟨h, ?_⟩
  unfold brRest
  rw [if_pos (by decide +kernel), h, aw_c1, aw_d1]
  exact on_rows (ys := [0]) rfl (by decide +kernel) (by decide +kernel) (by decide) (fun w hw => by simp [oneRow] at hw; rcases hw with rfl | rfl <;> simp) (by decide +kernel)
theorem aw_b2 : brL (oneRow 0 5) (oneRow 0 1) = [] ∧ brRest (oneRow 0 5) (oneRow 0 1) = oneRow 1 5 := by
  have h : brL (oneRow 0 5) (oneRow 0 1) = [] := by
    unfold brL
    rw [if_pos (by decide +kernel), aw_m.2, aw_r.2]
  refine ⟨h, ?_⟩
  unfold brRest
  rw [if_pos (by decide +kernel), h, aw_c0, aw_d2]
  exact on_rows (ys := [0]) rfl (by decide +kernel) (by decide +kernel) (by decide) (fun w hw => by simp [oneRow] at hw; rcases hw with rfl | hw <;> simp) (by decide +kernel)
theorem aw_a1 : anchR (oneRow 0 5) ends0 false = oneRow 1 4 := by
  unfold anchR
  rw [if_pos (by decide +kernel), aw_r.1, aw_c1]
theorem aw_a2 : anchR (oneRow 0 5) ends0 true = [] := by
  unfold anchR
  rw [if_pos (by decide +kernel), aw_u.1, aw_c0]
theorem few_one (a b : Int) (h : b - a ≤ 100) : fewC (oneRow a b) := ⟨⟨by simp [oneRow], by simp [oneRow]⟩, fun _ => by simp [oneRow, regCells, rowCells, runCells_len]; omega⟩
theorem few_ends : fewC ends0 := ⟨⟨by simp [ends0], by simp [ends0]⟩, fun _ => by decide +kernel⟩
theorem small_one (a b : Int) : smallR (oneRow a b) := ⟨by simp [oneRow], by simp [oneRow]⟩
set_option maxHeartbeats 16000000 in
theorem awake30_ok : PC Tryz.prog 12 [] (.p (.bool true)) := by
  have r1 := row30_ok
  have f1 := few_one 0 5 (by decide)
  have f2 := few_one 0 1 (by decide)
  have c1 := bridges_ok (oneRow 0 5) ends0 f1 few_ends
  have c2 := bridges_ok (oneRow 0 5) (oneRow 0 1) f1 f2
  rw [aw_b1.1, aw_b1.2] at c1
  rw [aw_b2.1, aw_b2.2] at c2
  have c3 := bloose_ok (oneRow 0 5) ends0 f1.1 few_ends.1
  rw [aw_d1] at c3
  have c4 := anchored_ok (oneRow 0 5) ends0 false f1 few_ends
  have c5 := anchored_ok (oneRow 0 5) ends0 true f1 few_ends
  rw [aw_a1] at c4
  rw [aw_a2] at c5
  have c6 := rsame_ok (oneRow 1 4) (oneRow 1 4) (small_one _ _)
  rw [decide_eq_true rfl] at c6
  have c7 := rcount_ok (oneRow 1 5) (small_one _ _)
  rw [show countR (oneRow 1 5) = 4 from by decide +kernel] at c7
  simp only [encTracks, List.map_cons, List.map_nil, brT, Track.row, encCells, Cell.row] at c1 c2
  have he : regRow ends0 = [.sl [[.int .i64 0, .sl [[.int .i64 0, .int .i64 1], [.int .i64 4, .int .i64 5]]]]] := rfl
  rw [he] at c1 c3 c4 c5
  refine pc_of_awp cx (fn := Tryz.f12) (c := _) Tryz.func12 rfl rfl (Nat.le_of_ble_eq_true rfl) ?_
  rw [Tryz.ntmps12]; refine Nav.imp ?_
  refine awp_region cx [] fun K hK => ?_
  simp [push_cast]
  repeat (refine And.intro (by clear hK; intros; first | omega | (simp_all; done) | (simp_all <;> omega)) ?_)
  refine hK _ ?_; clear hK K; refine Nav.imp ?_
  refine awp_region cx [(2, .f (.sl [[.int .i64 0, .int .i64 1], [.int .i64 4, .int .i64 5]])), (4, .f (.sl [[.int .i64 0, .sl [[.int .i64 0, .int .i64 1], [.int .i64 4, .int .i64 5]]]]))] fun K hK => ?_
  simp [push_cast]
  repeat (refine And.intro (by clear hK; intros; first | omega | (simp_all; done) | (simp_all <;> omega)) ?_)
  refine hK _ ?_; clear hK K; refine Nav.imp ?_
  refine awp_region_draw cx mixed [(0, .p (.agg (regRow (oneRow 0 5)))), (2, .p (.tup [.sl [[.int .i64 5, .bool false, .sl [[.int .i64 1, .int .i64 0], [.int .i64 2, .int .i64 0], [.int .i64 3, .int .i64 0]]]], .agg (regRow [])]))] fun K hK => ?_
  simp [push_cast, r1, c1]
  repeat (refine And.intro (by clear hK; intros; first | omega | (simp_all; done) | (simp_all <;> omega)) ?_)
  refine hK _ _ (by kernel_rfl) ?_; clear hK K; refine Nav.imp ?_
  refine awp_region cx [(0, .p (.agg (regRow (oneRow 0 5)))), (1, .p (.agg (regRow (oneRow 0 1)))), (2, .p (.tup [.sl [], .agg (regRow (oneRow 1 5))]))] fun K hK => ?_
  simp [push_cast, r1, c2]
  repeat (refine And.intro (by clear hK; intros; first | omega | (simp_all; done) | (simp_all <;> omega)) ?_)
  refine hK _ ?_; clear hK K; refine Nav.imp ?_
  refine awp_region_draw cx mixed [(0, .p (.agg (regRow (oneRow 0 5)))), (2, .p (.agg (regRow (oneRow 1 4)))), (3, .p (.agg (regRow (oneRow 1 4)))), (4, .p (.bool true)), (6, .p (.agg (regRow (oneRow 0 5)))), (8, .p (.agg (regRow (oneRow 1 4)))), (9, .p (.agg (regRow (oneRow 1 4)))), (10, .p (.bool true)), (13, .p (.agg (regRow (oneRow 0 5)))), (15, .p (.agg (regRow []))), (63, .p (.int .i64 4))] fun K hK => ?_
  simp [push_cast, r1, c3, c4, c5, c6, c7]
  repeat (refine And.intro (by clear hK; intros; first | omega | (simp_all; done) | (simp_all <;> omega)) ?_)
  refine hK _ _ (by kernel_rfl) ?_; clear hK K; refine Nav.imp ?_
  simp [push_cast]


theorem few_of {R : List Row} (hR : bigR R) (h : heavyB R = false) : fewC R := ⟨hR, fun hv => by have := (heavy_facts h).2 hv; omega⟩
theorem few_valid {R : List Row} (hv : validR R = true) (hn : (regCells R).length ≤ 1000000) : fewC R := ⟨big_of (small_valid hv), fun _ => hn⟩
end Go.Proofs.YtknelhiejjdioaaGreat

set_option linter.unusedVariables false
set_option linter.unusedSimpArgs false
set_option maxRecDepth 100000
namespace Go.Proofs.YtknelhiejjdioaaGreat
open Go.Abs

/-! The spans as the reference finds them: cells in order, put together while each is beside the one before. -/
def grp (dx dy : Int) (s : List (List Cell) × Option (List Cell)) (c : Cell) : List (List Cell) × Option (List Cell) :=
  match s.2 with
  | none => (s.1, some [c])
  | some l => match l[l.length - 1]? with
    | some e => if e.x + dx = c.x ∧ e.y + dy = c.y then (s.1, some (l ++ [c])) else (s.1 ++ [l], some [c])
    | none => (s.1 ++ [l], some [c])
def allG (s : List (List Cell) × Option (List Cell)) : List (List Cell) := s.1 ++ s.2.toList
def runL (p : Int × Run) : List Cell := runCells p.1 p.2
def runsOf (D : List Row) : List (Int × Run) := D.flatMap fun w => w.runs.map fun q => (w.y, q)
def runLt (p q : Int × Run) : Prop := p.1 < q.1 ∨ (p.1 = q.1 ∧ p.2.b < q.2.a)

theorem last_run {y : Int} {r : Run} (h : r.a < r.b) : (runCells y r)[(runCells y r).length - 1]? = some ⟨r.b - 1, y⟩ := by
  rw [runCells_len, runCells_get _ _ (by omega)]
  simp; omega
theorem grp_run {P : List (List Cell)} {o : Option (List Cell)} {y : Int} {r : Run} (h : r.a < r.b) (ho : ∀ l, o = some l → ∃ e, l[l.length - 1]? = some e ∧ ¬ (e.x + 1 = r.a ∧ e.y = y)) : (runCells y r).foldl (grp 1 0) (P, o) = (allG (P, o), some (runCells y r)) := by
  have key : ∀ j, j < (r.b - r.a).toNat → ((runCells y r).take (j + 1)).foldl (grp 1 0) (P, o) = (allG (P, o), some ((runCells y r).take (j + 1))) := by
    intro j
    induction j with
    | zero =>
      intro hj
      have h1 := runCells_take y r hj
      rw [List.take_zero, List.nil_append] at h1
      rw [h1]
      simp only [List.foldl_cons, List.foldl_nil]
      cases o with
      | none => simp [grp, allG]
      | some l =>
        obtain ⟨e, he, hne⟩ := ho l rfl
        have hne2 : ¬ (e.x + 1 = r.a + ((0 : Nat) : Int) ∧ e.y + 0 = y) := by simpa using hne
        simp only [grp, he]
        rw [if_neg hne2]; rfl
    | succ j ih =>
      intro hj
      have ih := ih (by omega)
      have h1 := runCells_take y r hj
      rw [h1, List.foldl_append, ih]
      have hl : ((runCells y r).take (j + 1)).length = j + 1 := by rw [List.length_take, runCells_len]; omega
      have he : ((runCells y r).take (j + 1))[((runCells y r).take (j + 1)).length - 1]? = some ⟨r.a + j, y⟩ := by
        rw [hl, List.getElem?_take, if_pos (by omega), Nat.add_sub_cancel]
        exact runCells_get y r (by omega)
      simp only [List.foldl_cons, List.foldl_nil, grp, he]
      rw [if_pos (by omega)]
  have h2 := key ((r.b - r.a).toNat - 1) (by omega)
  rw [Nat.sub_add_cancel (by omega)] at h2
  rw [show (r.b - r.a).toNat = (runCells y r).length from (runCells_len y r).symm, List.take_length] at h2
  exact h2
theorem grp_runs : ∀ (rl : List (Int × Run)) (P : List (List Cell)) (p0 : Int × Run), p0.2.a < p0.2.b → (∀ p ∈ rl, p.2.a < p.2.b) → (p0 :: rl).Pairwise runLt → allG ((rl.flatMap runL).foldl (grp 1 0) (P, some (runL p0))) = P ++ (p0 :: rl).map runL
  | [], P, p0, _, _, _ => by simp [allG]
  | q :: rl, P, p0, h0, h, hp => by
    have hq := h q (by simp)
    have hp2 := List.pairwise_cons.1 hp
    have hlt := hp2.1 q (by simp)
    rw [List.flatMap_cons, List.foldl_append, show runL q = runCells q.1 q.2 from rfl, grp_run hq fun l hl => by
      cases hl
      refine ⟨_, last_run h0, ?_⟩
      simp only
      rcases hlt with h1 | ⟨h1, h2⟩ <;> omega]
    have := grp_runs rl (allG (P, some (runL p0))) q hq (fun p hp => h p (by simp [hp])) hp2.2
    rw [show runL q = runCells q.1 q.2 from rfl] at this
    rw [this]
    simp [allG]
theorem runsOf_pw {D : List Row} (hv : validR D = true) : (runsOf D).Pairwise runLt := by
  unfold runsOf
  rw [List.pairwise_flatMap]
  constructor
  · intro w hw
    rw [List.pairwise_map]
    obtain ⟨_, h1, _⟩ := fine_apart.1 (row_fine hv hw).2
    exact h1.2.imp fun {a b} h => .inr ⟨rfl, by omega⟩
  · refine (validR_pw.1 hv).2.imp fun {a b} h => ?_
    intro x hx y hy
    obtain ⟨_, _, rfl⟩ := List.mem_map.1 hx
    obtain ⟨_, _, rfl⟩ := List.mem_map.1 hy
    exact .inl h
theorem runs_cells (D : List Row) : (runsOf D).flatMap runL = regCells D := by
  unfold runsOf regCells
  rw [List.flatMap_assoc]
  refine flat_congr fun w _ => ?_
  rw [List.flatMap_map]; rfl
theorem runs_ok {D : List Row} (hv : validR D = true) : ∀ p ∈ runsOf D, p.2.a < p.2.b := fun p hp => by
  obtain ⟨w, hw, hq⟩ := List.mem_flatMap.1 hp
  obtain ⟨q, hq2, rfl⟩ := List.mem_map.1 hq
  exact (row_runs hv hw hq2).2.1
theorem grp_all {D : List Row} (hv : validR D = true) : allG ((regCells D).foldl (grp 1 0) ([], none)) = (runsOf D).map runL := by
  have h1 := runsOf_pw hv
  have h2 := runs_ok hv
  rw [← runs_cells]
  generalize runsOf D = rl at *
  cases rl with
  | nil => rfl
  | cons q rl =>
    rw [List.flatMap_cons, List.foldl_append, show runL q = runCells q.1 q.2 from rfl, grp_run (h2 q (by simp)) fun l hl => by cases hl]
    have := grp_runs rl (allG ([], none)) q (h2 q (by simp)) (fun p hp => h2 p (by simp [hp])) h1
    rw [show runL q = runCells q.1 q.2 from rfl] at this
    rw [this]
    rfl
def mapS (s : List (List Cell) × Option (List Cell)) : List (List Cell) × Option (List Cell) := (s.1.map (·.map xc), s.2.map (·.map xc))
theorem grp_xc (s : List (List Cell) × Option (List Cell)) (c : Cell) : grp 0 1 (mapS s) (xc c) = mapS (grp 1 0 s c) := by
  obtain ⟨P, o⟩ := s
  cases o with
  | none => simp [grp, mapS]
  | some l =>
    simp only [grp, mapS, Option.map_some, List.length_map, List.getElem?_map]
    cases h : l[l.length - 1]? with
    | none => simp
    | some e =>
      simp only [Option.map_some]
      have hiff : ((xc e).x + 0 = (xc c).x ∧ (xc e).y + 1 = (xc c).y) ↔ (e.x + 1 = c.x ∧ e.y + 0 = c.y) := ⟨fun h => ⟨h.2, h.1⟩, fun h => ⟨h.2, h.1⟩⟩
      by_cases hc : e.x + 1 = c.x ∧ e.y + 0 = c.y
      · rw [if_pos (hiff.2 hc), if_pos hc]; simp
      · rw [if_neg (fun h => hc (hiff.1 h)), if_neg hc]; simp
theorem fold_xc : ∀ (l : List Cell) (s : List (List Cell) × Option (List Cell)), (l.map xc).foldl (grp 0 1) (mapS s) = mapS (l.foldl (grp 1 0) s)
  | [], s => rfl
  | c :: l, s => by simp only [List.map_cons, List.foldl_cons, grp_xc, fold_xc l]
theorem allG_map (s : List (List Cell) × Option (List Cell)) : allG (mapS s) = (allG s).map (·.map xc) := by
  obtain ⟨P, o⟩ := s
  cases o <;> simp [allG, mapS]

def heldB (H : List Row) (dx dy : Int) (l : List Cell) : Bool :=
  match l[0]?, l[l.length - 1]? with
  | some a, some b => decide ((⟨a.x - dx, a.y - dy⟩ : Cell) ∈ regCells H) && decide ((⟨b.x + dx, b.y + dy⟩ : Cell) ∈ regCells H)
  | _, _ => false
theorem held_run {H : List Row} {y : Int} {q : Run} (h : q.a < q.b) : heldB H 1 0 (runCells y q) = anch H y q := by
  unfold heldB
  rw [runCells_get y q (show 0 < _ by omega), last_run h]
  simp [anch]
theorem held_xc {H : List Row} (hH : validR H = true) (l : List Cell) : heldB H 0 1 (l.map xc) = heldB (turnR H) 1 0 l := by
  unfold heldB
  rw [List.length_map, List.getElem?_map, List.getElem?_map]
  cases h0 : l[0]? <;> cases h1 : l[l.length - 1]? <;> simp [(turn_facts hH).2.1, xc]
theorem filter_runs {D H : List Row} (hv : validR D = true) : ((runsOf D).map runL).filter (heldB H 1 0) = spanR D H := by
  have key : ∀ (rl : List (Int × Run)), (∀ p ∈ rl, p.2.a < p.2.b) → (rl.map runL).filter (heldB H 1 0) = rl.flatMap fun p => spanRun H p.1 p.2 := by
    intro rl
    induction rl with
    | nil => intro _; rfl
    | cons p rl ih =>
      intro h
      rw [List.map_cons, List.filter_cons, List.flatMap_cons, ← ih fun q hq => h q (by simp [hq]), show heldB H 1 0 (runL p) = anch H p.1 p.2 from held_run (h p (by simp))]
      unfold spanRun
      split <;> rfl
  rw [key _ (runs_ok hv)]
  unfold runsOf spanR
  rw [List.flatMap_assoc]
  refine flat_congr fun w _ => ?_
  rw [List.flatMap_map]; rfl

def ordL (D : List Row) (up : Bool) : List Cell := if up then (regCells (turnR D)).map xc else regCells D
def dxB (up : Bool) : Int := if up then 0 else 1
def dyB (up : Bool) : Int := if up then 1 else 0
def rspans (r b : List Row) (up : Bool) : List (List Cell) := if validR r && validR b then spansU r b up else []
theorem opR_bad2 {f : Bool → Bool → Bool} {a b : List Row} (h : (validR a && validR b) = false) : opR f a b = [] := by
  unfold opR
  rw [h]; rfl
theorem opR_valid {f : Bool → Bool → Bool} (hf : f false false = false) (a b : List Row) : validR (opR f a b) = true := by
  cases hv : (validR a && validR b) with
  | false => rw [opR_bad2 hv]; rfl
  | true =>
    simp only [Bool.and_eq_true] at hv
    exact (opR_facts hf hv.1 hv.2).1
theorem turn_op {f : Bool → Bool → Bool} (hf : f false false = false) {a b : List Row} (ha : validR a = true) (hb : validR b = true) : turnR (opR f a b) = opR f (turnR a) (turnR b) := by
  obtain ⟨h1, h2⟩ := opR_facts hf ha hb
  obtain ⟨t1, m1, _⟩ := turn_facts ha
  obtain ⟨t2, m2, _⟩ := turn_facts hb
  obtain ⟨h3, h4⟩ := opR_facts hf t1 t2
  refine region_uniq (turn_facts h1).1 h3 fun c => ?_
  rw [(turn_facts h1).2.1, ← decide_eq_true_iff (p := xc c ∈ _), h2, ← decide_eq_true_iff (p := c ∈ regCells (opR f (turnR a) (turnR b))), h4]
  simp only [m1, m2]
theorem spans_ref (r b : List Row) (up : Bool) : (allG ((ordL (opR fD r b) up).foldl (grp (dxB up) (dyB up)) ([], none))).filter (heldB (opR fI r b) (dxB up) (dyB up)) = rspans r b up := by
  have hD := opR_valid (f := fD) rfl r b
  have hI := opR_valid (f := fI) rfl r b
  cases hv : (validR r && validR b) with
  | false =>
    have e : rspans r b up = [] := by unfold rspans; rw [hv]; rfl
    rw [e, opR_bad2 (f := fD) hv]
    have e2 : ordL [] up = [] := by cases up <;> simp [ordL, regCells, show turnR [] = [] from aw_c0]
    rw [e2]; rfl
  | true =>
    have e : rspans r b up = spansU r b up := by unfold rspans; rw [if_pos hv]
    rw [e]
    simp only [Bool.and_eq_true] at hv
    cases up with
    | false =>
      show (allG ((regCells (opR fD r b)).foldl (grp 1 0) ([], none))).filter (heldB (opR fI r b) 1 0) = spanR _ _
      rw [grp_all hD, filter_runs hD]
    | true =>
      show (allG (((regCells (turnR (opR fD r b))).map xc).foldl (grp 0 1) (mapS ([], none)))).filter (heldB (opR fI r b) 0 1) = (spanR (opR fD (turnR r) (turnR b)) (opR fI (turnR r) (turnR b))).map (·.map xc)
      have hT := (turn_facts hD).1
      rw [fold_xc, allG_map, grp_all hT, List.filter_map, show (heldB (opR fI r b) 0 1 ∘ fun l => l.map xc) = heldB (turnR (opR fI r b)) 1 0 from funext fun l => held_xc hI l, filter_runs hT, turn_op rfl hv.1 hv.2, turn_op rfl hv.1 hv.2]
end Go.Proofs.YtknelhiejjdioaaGreat

set_option linter.unusedVariables false
set_option linter.unusedSimpArgs false
namespace Go.Proofs.YtknelhiejjdioaaGreat
open Go.Abs

/-! The reference of an operation on two rows: the bounds in their order, and what is kept between them. -/
def InsI (l : List Int) (i : Nat) (Z : List Int) (k : Nat) : Prop :=
  ∃ (P : List Int) (c : Int) (Q T : List Int), Z = P ++ c :: (Q ++ T) ∧ P.length = k ∧ P.length + Q.length = i ∧ Z.Perm l ∧ ((P ++ Q).Pairwise fun a b => a ≤ b) ∧ ∀ q ∈ Q, c ≤ q
def UpI (l : List Int) (i : Nat) (Z : List Int) : Prop := Z.Perm l ∧ ((Z.take i).Pairwise fun a b => a ≤ b)

theorem insI_start {l Z : List Int} {i : Nat} (h : UpI l i Z) (hi : i < Z.length) : InsI l i Z i := by
  refine ⟨Z.take i, Z[i], [], Z.drop (i + 1), ?_, by simp; omega, by simp; omega, h.1, by simpa using h.2, by simp⟩
  conv => lhs; rw [← List.take_append_drop i Z, List.drop_eq_getElem_cons hi]
  simp
theorem insI_end {l Z : List Int} {i k : Nat} (h : InsI l i Z k) (hk : k = 0 ∨ ∃ c p, Z[k]? = some c ∧ Z[k - 1]? = some p ∧ ¬ c < p) : UpI l (i + 1) Z := by
  obtain ⟨P, c, Q, T, rfl, hP, hQ, hp, hs, hq⟩ := h
  refine ⟨hp, ?_⟩
  have e : (P ++ c :: (Q ++ T)).take (i + 1) = P ++ c :: Q := by
    rw [show P ++ c :: (Q ++ T) = (P ++ c :: Q) ++ T from by simp, List.take_left' (by simp; omega)]
  rw [e]
  rw [List.pairwise_append] at hs ⊢
  refine ⟨hs.1, List.pairwise_cons.2 ⟨hq, hs.2.1⟩, fun a ha b hb => ?_⟩
  rcases List.mem_cons.1 hb with rfl | hb
  · rcases hk with hk | ⟨c', p, h1, h2, h3⟩
    · rw [hk] at hP
      rw [List.length_eq_zero_iff.1 hP] at ha
      cases ha
    · have hc : c' = b := by
        rw [List.getElem?_append_right (by omega), hP, Nat.sub_self] at h1
        exact (Option.some.inj h1).symm
      subst hc
      rcases List.eq_nil_or_concat P with rfl | ⟨P', p', rfl⟩
      · cases ha
      · rw [List.concat_eq_append] at *
        have hpp : p' = p := by
          rw [List.append_assoc, List.getElem?_append_right (by simp at hP; omega)] at h2
          simp at hP
          rw [show k - 1 - P'.length = 0 from by omega] at h2
          exact Option.some.inj h2
        subst hpp
        have h4 : p' ≤ c' := by omega
        rcases List.mem_append.1 ha with ha | ha
        · exact Int.le_trans ((List.pairwise_append.1 hs.1).2.2 a ha p' (by simp)) h4
        · simp at ha; subst ha; exact h4
  · exact hs.2.2 a ha b hb
theorem insI_next {l Z : List Int} {i k : Nat} {c p : Int} (h : InsI l i Z (k + 1)) (hc : Z[k + 1]? = some c) (hp : Z[k]? = some p) (hb : c < p) : InsI l i ((Z.set (k + 1) p).set k c) k := by
  obtain ⟨P, c', Q, T, rfl, hP, hQ, hperm, hs, hq⟩ := h
  rcases List.eq_nil_or_concat P with rfl | ⟨P', p', rfl⟩
  · simp at hP
  · rw [List.concat_eq_append] at *
    simp at hP
    have hcc : c' = c := by
      rw [List.getElem?_append_right (by simp; omega)] at hc
      simp [hP] at hc
      exact hc
    have hpp : p' = p := by
      rw [List.append_assoc, List.getElem?_append_right (by omega)] at hp
      simp [hP] at hp
      exact hp
    subst hcc hpp
    have e : (((P' ++ [p']) ++ c' :: (Q ++ T)).set (k + 1) p').set k c' = P' ++ c' :: ((p' :: Q) ++ T) := by
      subst hP
      simp
    rw [e]
    refine ⟨P', c', p' :: Q, T, rfl, hP, by simp at hQ ⊢; omega, ?_, ?_, ?_⟩
    · refine List.Perm.trans ?_ hperm
      simp only [List.append_assoc, List.singleton_append, List.cons_append]
      exact List.Perm.append_left _ (List.Perm.swap _ _ _)
    · simpa using hs
    · intro q hqm
      rcases List.mem_cons.1 hqm with rfl | hqm
      · omega
      · exact hq q hqm
theorem upI_start (l : List Int) : UpI l 1 l := by
  refine ⟨List.Perm.refl l, ?_⟩
  cases l with
  | nil => simp
  | cons a l => simp
theorem asc_uniq : ∀ {l l' : List Int}, l.Perm l' → (l.Pairwise fun a b => a ≤ b) → (l'.Pairwise fun a b => a ≤ b) → l = l'
  | [], l', h, _, _ => by have := h.length_eq; simp at this; exact (List.length_eq_zero_iff.1 this.symm).symm
  | a :: l, [], h, _, _ => by have := h.length_eq; simp at this
  | a :: l, b :: l', h, h2, h3 => by
    have hab : a = b := by
      have ha : a ∈ b :: l' := h.subset (by simp)
      have hb : b ∈ a :: l := h.symm.subset (by simp)
      rcases List.mem_cons.1 ha with e | ha
      · exact e
      · rcases List.mem_cons.1 hb with e | hb
        · exact e.symm
        · have := (List.pairwise_cons.1 h2).1 b hb
          have := (List.pairwise_cons.1 h3).1 a ha
          omega
    subst hab
    rw [asc_uniq h.cons_inv (List.pairwise_cons.1 h2).2 (List.pairwise_cons.1 h3).2]
def ascI (l : List Int) : List Int := l.mergeSort (fun x y => decide (x ≤ y))
theorem ascI_perm (l : List Int) : (ascI l).Perm l := List.mergeSort_perm _ _
theorem ascI_le (l : List Int) : (ascI l).Pairwise (· ≤ ·) := by
  have := List.pairwise_mergeSort (le := fun x y : Int => decide (x ≤ y)) (fun a b c h1 h2 => by simp at *; omega) (fun a b => by simp; omega) l
  exact this.imp fun h => by simpa using h
theorem upI_end {l Z : List Int} {i : Nat} (h : UpI l i Z) (hi : Z.length ≤ i) : Z = ascI l := by
  have h2 := h.2
  rw [List.take_of_length_le (by omega)] at h2
  exact asc_uniq (h.1.trans (ascI_perm l).symm) h2 (ascI_le l)

/-- The bounds of runs. -/
def ends (l : List Run) : List Int := l.flatMap fun r => [r.a, r.b]
theorem ends_len (l : List Run) : (ends l).length = 2 * l.length := by
  induction l with
  | nil => rfl
  | cons r l ih => simp only [ends, List.flatMap_cons, List.length_append] at *; simp only [List.length_cons, List.length_nil]; omega
theorem ends_take {l : List Run} {k : Nat} {r : Run} (h : l[k]? = some r) : ends (l.take (k + 1)) = ends (l.take k) ++ [r.a, r.b] := by
  rw [take_get h]; simp [ends]
def bnds (a b : List Run) : List Int := ascI (ends a ++ ends b)
theorem bnds_len (a b : List Run) : (bnds a b).length = 2 * a.length + 2 * b.length := by
  unfold bnds
  rw [(ascI_perm _).length_eq, List.length_append, ends_len, ends_len]
theorem bnds_mem {a b : List Run} {r : Run} (h : r ∈ a ∨ r ∈ b) : r.a ∈ bnds a b ∧ r.b ∈ bnds a b := by
  unfold bnds
  constructor <;> rw [(ascI_perm _).mem_iff, List.mem_append] <;> rcases h with h | h
  · exact .inl (List.mem_flatMap.2 ⟨r, h, by simp⟩)
  · exact .inr (List.mem_flatMap.2 ⟨r, h, by simp⟩)
  · exact .inl (List.mem_flatMap.2 ⟨r, h, by simp⟩)
  · exact .inr (List.mem_flatMap.2 ⟨r, h, by simp⟩)
/-- All bounds of both lists lie at X or before, or at Y or behind. -/
def Gap (a b : List Run) (X Y : Int) : Prop := ∀ r, r ∈ a ∨ r ∈ b → (r.a ≤ X ∨ Y ≤ r.a) ∧ (r.b ≤ X ∨ Y ≤ r.b)
theorem gap_of {a b : List Run} {i : Nat} {X Y : Int} (hX : (bnds a b)[i]? = some X) (hY : (bnds a b)[i + 1]? = some Y) : Gap a b X Y ∧ X ≤ Y := by
  have hs := ascI_le (ends a ++ ends b)
  have key : ∀ e ∈ bnds a b, e ≤ X ∨ Y ≤ e := fun e he => by
    obtain ⟨k, hk, rfl⟩ := List.mem_iff_getElem.1 he
    obtain ⟨hi, rfl⟩ := List.getElem?_eq_some_iff.1 hX
    obtain ⟨hj, rfl⟩ := List.getElem?_eq_some_iff.1 hY
    rcases Nat.lt_trichotomy k i with h | h | h
    · exact .inl (List.pairwise_iff_getElem.1 hs k i hk hi h)
    · subst h; exact .inl (Int.le_refl _)
    · rcases Nat.lt_or_eq_of_le (show i + 1 ≤ k from h) with h | h
      · exact .inr (List.pairwise_iff_getElem.1 hs (i + 1) k hj hk h)
      · subst h; exact .inr (Int.le_refl _)
  refine ⟨fun r hr => ⟨key _ (bnds_mem hr).1, key _ (bnds_mem hr).2⟩, ?_⟩
  obtain ⟨hi, rfl⟩ := List.getElem?_eq_some_iff.1 hX
  obtain ⟨hj, rfl⟩ := List.getElem?_eq_some_iff.1 hY
  exact List.pairwise_iff_getElem.1 hs i (i + 1) hi hj (by omega)
theorem gap_in {l : List Run} {X Y z : Int} (h : ∀ r ∈ l, (r.a ≤ X ∨ Y ≤ r.a) ∧ (r.b ≤ X ∨ Y ≤ r.b)) (h1 : X ≤ z) (h2 : z < Y) : inR l z = inR l X := by
  rw [Bool.eq_iff_iff, inR_iff, inR_iff]
  constructor
  · rintro ⟨r, hr, h3, h4⟩
    have := h r hr
    exact ⟨r, hr, by omega, by omega⟩
  · rintro ⟨r, hr, h3, h4⟩
    have := h r hr
    exact ⟨r, hr, by omega, by omega⟩
/-- What is known before bound X is looked at. -/
def CombAt (f : Bool → Bool → Bool) (a b : List Run) (X : Int) (out : List Run) : Prop :=
  Apart out ∧ (∀ r ∈ out, r.b ≤ X) ∧ ∀ z, inR out z = (decide (z < X) && f (inR a z) (inR b z))
theorem inR_none {l : List Run} {z : Int} (h : ∀ r ∈ l, z < r.a ∨ r.b ≤ z) : inR l z = false := by
  rw [Bool.eq_false_iff]; intro h2
  obtain ⟨r, hr, h3, h4⟩ := inR_iff.1 h2
  have := h r hr
  omega
theorem comb_start {f : Bool → Bool → Bool} (hf : f false false = false) {a b : List Run} {X : Int} (hX : (bnds a b)[0]? = some X) : CombAt f a b X [] := by
  have hs := ascI_le (ends a ++ ends b)
  obtain ⟨hi, rfl⟩ := List.getElem?_eq_some_iff.1 hX
  have key : ∀ e ∈ bnds a b, (bnds a b)[0] ≤ e := fun e he => by
    obtain ⟨k, hk, rfl⟩ := List.mem_iff_getElem.1 he
    rcases Nat.eq_zero_or_pos k with h | h
    · subst h; exact Int.le_refl _
    · exact List.pairwise_iff_getElem.1 hs 0 k hi hk h
  refine ⟨⟨by simp, by simp⟩, by simp, fun z => ?_⟩
  by_cases hz : z < (bnds a b)[0]
  · rw [inR_none (l := a) fun r hr => .inl (by have := key _ (bnds_mem (.inl hr)).1; omega), inR_none (l := b) fun r hr => .inl (by have := key _ (bnds_mem (.inr hr)).1; omega), hf]
    simp [inR]
  · simp [inR, hz]
theorem comb_skip {f : Bool → Bool → Bool} {a b : List Run} {X Y : Int} {out : List Run} (h : CombAt f a b X out) (hg : Gap a b X Y) (hXY : X ≤ Y) (hk : X = Y ∨ f (inR a X) (inR b X) = false) : CombAt f a b Y out := by
  obtain ⟨h1, h2, h3⟩ := h
  refine ⟨h1, fun r hr => Int.le_trans (h2 r hr) hXY, fun z => ?_⟩
  rw [h3]
  by_cases hz : z < X
  · rw [decide_eq_true hz, decide_eq_true (show z < Y by omega)]
  · rw [decide_eq_false hz]
    by_cases hy : z < Y
    · rcases hk with hk | hk
      · omega
      · rw [gap_in (fun r hr => hg r (.inl hr)) (by omega) hy, gap_in (fun r hr => hg r (.inr hr)) (by omega) hy, hk]; simp
    · rw [decide_eq_false hy]
theorem comb_val {f : Bool → Bool → Bool} {a b : List Run} {X Y : Int} (hg : Gap a b X Y) (hXY : X ≤ Y) (hk : f (inR a X) (inR b X) = true) (z : Int) :
    (decide (z < Y) && f (inR a z) (inR b z)) = ((decide (z < X) && f (inR a z) (inR b z)) || (decide (X ≤ z) && decide (z < Y))) := by
  by_cases hz : z < X
  · rw [decide_eq_true hz, decide_eq_true (show z < Y by omega), decide_eq_false (show ¬ X ≤ z by omega)]; simp
  · rw [decide_eq_false hz, decide_eq_true (show X ≤ z by omega)]
    by_cases hy : z < Y
    · rw [gap_in (fun r hr => hg r (.inl hr)) (by omega) hy, gap_in (fun r hr => hg r (.inr hr)) (by omega) hy, hk]; simp
    · rw [decide_eq_false hy]; simp
theorem comb_app {f : Bool → Bool → Bool} {a b : List Run} {X Y : Int} {out : List Run} (h : CombAt f a b X out) (hg : Gap a b X Y) (hXY : X < Y) (hk : f (inR a X) (inR b X) = true) (hl : ∀ r, out[out.length - 1]? = some r → r.b ≠ X) : CombAt f a b Y (out ++ [⟨X, Y⟩]) := by
  obtain ⟨h1, h2, h3⟩ := h
  refine ⟨⟨fun r hr => ?_, ?_⟩, fun r hr => ?_, fun z => ?_⟩
  · rcases List.mem_append.1 hr with hr | hr
    · exact h1.1 r hr
    · simp at hr; subst hr; exact hXY
  · rw [List.pairwise_append]
    refine ⟨h1.2, by simp, fun r hr s hs => ?_⟩
    simp at hs; subst hs
    have hle := h2 r hr
    rcases List.eq_nil_or_concat out with rfl | ⟨o, q, rfl⟩
    · cases hr
    · rw [List.concat_eq_append] at *
      have hq := hl q (by simp)
      have hqX := h2 q (by simp)
      rcases List.mem_append.1 hr with hr | hr
      · have hw := (List.pairwise_append.1 h1.2).2.2 r hr q (by simp)
        have hqq := h1.1 q (by simp)
        simp only; omega
      · simp at hr; subst hr; simp only; omega
  · rcases List.mem_append.1 hr with hr | hr
    · exact Int.le_trans (h2 r hr) (by omega)
    · simp at hr; subst hr; exact Int.le_refl _
  · rw [inR_app, h3, comb_val hg (by omega) hk]
theorem comb_join {f : Bool → Bool → Bool} {a b : List Run} {X Y : Int} {o : List Run} {q : Run} (h : CombAt f a b X (o ++ [q])) (hg : Gap a b X Y) (hXY : X < Y) (hk : f (inR a X) (inR b X) = true) (hq : q.b = X) : CombAt f a b Y (o ++ [⟨q.a, Y⟩]) := by
  obtain ⟨h1, h2, h3⟩ := h
  have hqq := h1.1 q (by simp)
  have hp := List.pairwise_append.1 h1.2
  refine ⟨⟨fun r hr => ?_, ?_⟩, fun r hr => ?_, fun z => ?_⟩
  · rcases List.mem_append.1 hr with hr | hr
    · exact h1.1 r (by simp [hr])
    · simp at hr; subst hr; simp only; omega
  · rw [List.pairwise_append]
    refine ⟨hp.1, by simp, fun r hr s hs => ?_⟩
    simp at hs; subst hs
    exact hp.2.2 r hr q (by simp)
  · rcases List.mem_append.1 hr with hr | hr
    · have := h2 r (by simp [hr]); omega
    · simp at hr; subst hr; exact Int.le_refl _
  · rw [comb_val hg (by omega) hk, ← h3, inR_app, inR_app, Bool.or_assoc]
    congr 1
    rw [Bool.eq_iff_iff]
    simp
    omega
theorem comb_end {f : Bool → Bool → Bool} (hf : f false false = false) {a b : List Run} (ha : rvalid a = true) (hb : rvalid b = true) {n : Nat} {X : Int} {out : List Run} (hn : (bnds a b).length = n + 1) (hX : (bnds a b)[n]? = some X) (h : CombAt f a b X out) : out = sweep f a b := by
  obtain ⟨h1, h2, h3⟩ := h
  obtain ⟨s1, s2⟩ := sweep_facts hf ha hb
  refine apart_uniq h1 s1 fun z => ?_
  rw [h3, s2]
  have hs := ascI_le (ends a ++ ends b)
  obtain ⟨hi, rfl⟩ := List.getElem?_eq_some_iff.1 hX
  have key : ∀ e ∈ bnds a b, e ≤ (bnds a b)[n] := fun e he => by
    obtain ⟨k, hk, rfl⟩ := List.mem_iff_getElem.1 he
    rcases Nat.lt_or_eq_of_le (show k ≤ n by omega) with h | h
    · exact List.pairwise_iff_getElem.1 hs k n hk hi h
    · subst h; exact Int.le_refl _
  by_cases hz : z < (bnds a b)[n]
  · rw [decide_eq_true hz]; simp
  · rw [decide_eq_false hz, inR_none (l := a) fun r hr => .inr (by have := key _ (bnds_mem (.inl hr)).2; omega), inR_none (l := b) fun r hr => .inr (by have := key _ (bnds_mem (.inr hr)).2; omega), hf]; rfl
theorem sweep_nil {f : Bool → Bool → Bool} (hf : f false false = false) {a b : List Run} (ha : rvalid a = true) (hb : rvalid b = true) (hn : (bnds a b).length = 0) : sweep f a b = [] := by
  rw [bnds_len] at hn
  have h1 : a = [] := List.eq_nil_of_length_eq_zero (by omega)
  have h2 : b = [] := List.eq_nil_of_length_eq_zero (by omega)
  subst h1 h2
  obtain ⟨s1, s2⟩ := sweep_facts hf ha hb
  exact apart_uniq s1 ⟨by simp, by simp⟩ fun z => by rw [s2]; simp [inR, hf]

/-! The reference of an operation on two regions: row by row. -/
def stepI (R : List Row) (i : Nat) (y : Int) : Nat := match R[i]? with
  | some v => if v.y = y then i + 1 else i
  | none => i
def runsAt (R : List Row) (i : Nat) (y : Int) : List Run := match R[i]? with
  | some v => if v.y = y then v.runs else []
  | none => []
def nextY (a b : List Row) (i k : Nat) : Int := match a[i]?, b[k]? with
  | some v, some w => if v.y ≤ w.y then v.y else w.y
  | some v, none => v.y
  | none, some w => w.y
  | none, none => 0
theorem side {R : List Row} (hR : validR R = true) {i : Nat} {y : Int} {ys : List Int} (h1 : ∀ w ∈ R.take i, w.y ∈ ys) (h0 : ∀ z ∈ ys, z < y) (h2 : ∀ w ∈ R.drop i, y ≤ w.y) :
    rowOf R y = runsAt R i y ∧ (∀ w ∈ R.take (stepI R i y), w.y ∈ ys ++ [y]) ∧ (∀ z ∈ ys ++ [y], ∀ w ∈ R.drop (stepI R i y), z < w.y) := by
  unfold stepI runsAt
  have hno : ∀ w ∈ R.take i, w.y ≠ y := fun w hw e => by have := h0 _ (h1 w hw); omega
  cases h : R[i]? with
  | none =>
    have hl : R.length ≤ i := List.getElem?_eq_none_iff.1 h
    rw [List.take_of_length_le hl] at hno h1
    simp only
    refine ⟨?_, fun w hw => ?_, fun z hz w hw => ?_⟩
    · rcases rowOf_cases hR y with ⟨w, hw, e, _⟩ | ⟨_, e⟩
      · exact absurd e (hno w hw)
      · exact e
    · exact List.mem_append_left _ (h1 w (List.mem_of_mem_take hw))
    · rw [List.drop_eq_nil_of_le hl] at hw; cases hw
  | some v =>
    obtain ⟨hi, hv⟩ := List.getElem?_eq_some_iff.1 h
    have hd : R.drop i = v :: R.drop (i + 1) := by rw [List.drop_eq_getElem_cons hi, hv]
    have hvR : v ∈ R := List.mem_of_getElem? h
    have hp := rows_pw hR
    rw [← List.take_append_drop i R, hd] at hp
    have hgt := (List.pairwise_cons.1 (List.pairwise_append.1 hp).2.1).1
    have hvy := h2 v (by rw [hd]; simp)
    simp only
    by_cases e : v.y = y
    · rw [if_pos e, if_pos e]
      refine ⟨by rw [← e]; exact rowOf_mem hR hvR, fun w hw => ?_, fun z hz w hw => ?_⟩
      · rw [take_get h] at hw
        rcases List.mem_append.1 hw with hw | hw
        · exact List.mem_append_left _ (h1 w hw)
        · simp at hw; subst hw; simp [e]
      · have := hgt w hw
        rcases List.mem_append.1 hz with hz | hz
        · have := h0 z hz; omega
        · simp at hz; subst hz; omega
    · rw [if_neg e, if_neg e]
      refine ⟨?_, fun w hw => List.mem_append_left _ (h1 w hw), fun z hz w hw => ?_⟩
      · rcases rowOf_cases hR y with ⟨w, hw, e', _⟩ | ⟨_, e'⟩
        · rw [← List.take_append_drop i R, hd] at hw
          rcases List.mem_append.1 hw with hw | hw
          · exact absurd e' (hno w hw)
          · rcases List.mem_cons.1 hw with rfl | hw
            · exact absurd e' e
            · have := hgt w hw; omega
        · exact e'
      · have hw' : y < w.y := by
          rw [hd] at hw
          rcases List.mem_cons.1 hw with rfl | hw
          · omega
          · have := hgt w hw; omega
        rcases List.mem_append.1 hz with hz | hz
        · have := h0 z hz; omega
        · simp at hz; subst hz; exact hw'
def OpAt (f : Bool → Bool → Bool) (a b : List Row) (i k : Nat) (out : List Row) : Prop :=
  i ≤ a.length ∧ k ≤ b.length ∧ ∃ ys : List Int, ys.Pairwise (· < ·) ∧ out = opOn f a b ys ∧ ys.length ≤ i + k ∧ (∀ w ∈ a.take i, w.y ∈ ys) ∧ (∀ w ∈ b.take k, w.y ∈ ys) ∧ (∀ z ∈ ys, ∀ w ∈ a.drop i, z < w.y) ∧ (∀ z ∈ ys, ∀ w ∈ b.drop k, z < w.y)
theorem opAt_start (f : Bool → Bool → Bool) (a b : List Row) : OpAt f a b 0 0 [] :=
  ⟨Nat.zero_le _, Nat.zero_le _, [], by simp, by simp [opOn], by simp, by simp, by simp, by simp, by simp⟩
theorem drop_min {R : List Row} (hR : validR R = true) {i : Nat} {v : Row} (h : R[i]? = some v) : (∀ w ∈ R.drop i, v.y ≤ w.y) ∧ v ∈ R.drop i := by
  obtain ⟨hi, hv⟩ := List.getElem?_eq_some_iff.1 h
  have hd : R.drop i = v :: R.drop (i + 1) := by rw [List.drop_eq_getElem_cons hi, hv]
  have hp := rows_pw hR
  rw [← List.take_append_drop i R, hd] at hp
  have hgt := (List.pairwise_cons.1 (List.pairwise_append.1 hp).2.1).1
  rw [hd]
  refine ⟨fun w hw => ?_, by simp⟩
  rcases List.mem_cons.1 hw with rfl | hw
  · exact Int.le_refl _
  · have := hgt w hw; omega
theorem stepI_le {R : List Row} {i : Nat} {y : Int} (h : i ≤ R.length) : stepI R i y ≤ R.length ∧ i ≤ stepI R i y ∧ stepI R i y ≤ i + 1 := by
  unfold stepI
  cases e : R[i]? with
  | none => exact ⟨h, Nat.le_refl _, Nat.le_succ _⟩
  | some v =>
    have := (List.getElem?_eq_some_iff.1 e).1
    simp only
    split <;> omega
theorem drop_none {R : List Row} {i : Nat} (h : R[i]? = none) : R.drop i = [] := List.drop_eq_nil_of_le (List.getElem?_eq_none_iff.1 h)
theorem opAt_step {f : Bool → Bool → Bool} {a b : List Row} (ha : validR a = true) (hb : validR b = true) {i k : Nat} {out : List Row} (h : OpAt f a b i k out) (hn : i < a.length ∨ k < b.length) :
    rowOf a (nextY a b i k) = runsAt a i (nextY a b i k) ∧ rowOf b (nextY a b i k) = runsAt b k (nextY a b i k) ∧ OpAt f a b (stepI a i (nextY a b i k)) (stepI b k (nextY a b i k)) (out ++ opRow f a b (nextY a b i k)) ∧ i + k < stepI a i (nextY a b i k) + stepI b k (nextY a b i k) := by
  obtain ⟨hi, hk, ys, p1, p2, p3, p4, p5, p6, p7⟩ := h
  have key : ∃ y, nextY a b i k = y ∧ (∀ w ∈ a.drop i, y ≤ w.y) ∧ (∀ w ∈ b.drop k, y ≤ w.y) ∧ (∀ z ∈ ys, z < y) ∧ i + k < stepI a i y + stepI b k y := by
    have m1 := @stepI_le a i
    have m2 := @stepI_le b k
    unfold nextY
    cases e1 : a[i]? with
    | none =>
      cases e2 : b[k]? with
      | none =>
        have := List.getElem?_eq_none_iff.1 e1
        have := List.getElem?_eq_none_iff.1 e2
        omega
      | some w =>
        obtain ⟨q1, q2⟩ := drop_min hb e2
        refine ⟨w.y, rfl, by rw [drop_none e1]; simp, q1, fun z hz => p7 z hz w q2, ?_⟩
        have : stepI b k w.y = k + 1 := by simp [stepI, e2]
        have := (m1 (y := w.y) hi).2.1; omega
    | some v =>
      obtain ⟨r1, r2⟩ := drop_min ha e1
      cases e2 : b[k]? with
      | none =>
        refine ⟨v.y, rfl, r1, by rw [drop_none e2]; simp, fun z hz => p6 z hz v r2, ?_⟩
        have : stepI a i v.y = i + 1 := by simp [stepI, e1]
        have := (m2 (y := v.y) hk).2.1; omega
      | some w =>
        obtain ⟨q1, q2⟩ := drop_min hb e2
        by_cases hvw : v.y ≤ w.y
        · refine ⟨v.y, by simp [hvw], r1, fun u hu => Int.le_trans hvw (q1 u hu), fun z hz => p6 z hz v r2, ?_⟩
          have : stepI a i v.y = i + 1 := by simp [stepI, e1]
          have := (m2 (y := v.y) hk).2.1; omega
        · refine ⟨w.y, by simp [hvw], fun u hu => Int.le_trans (by omega) (r1 u hu), q1, fun z hz => p7 z hz w q2, ?_⟩
          have : stepI b k w.y = k + 1 := by simp [stepI, e2]
          have := (m1 (y := w.y) hi).2.1; omega
  obtain ⟨y, e, h1, h2, h0, hprog⟩ := key
  rw [e]
  obtain ⟨s1, s2, s3⟩ := side ha p4 h0 h1
  obtain ⟨t1, t2, t3⟩ := side hb p5 h0 h2
  refine ⟨s1, t1, ⟨(stepI_le hi).1, (stepI_le hk).1, ys ++ [y], ?_, ?_, ?_, s2, t2, s3, t3⟩, hprog⟩
  · rw [List.pairwise_append]
    refine ⟨p1, by simp, fun z hz u hu => ?_⟩
    simp at hu; subst hu; exact h0 z hz
  · rw [p2]; simp [opOn]
  · simp; omega
theorem opAt_len {f : Bool → Bool → Bool} {a b : List Row} {i k : Nat} {out : List Row} (h : OpAt f a b i k out) : out.length ≤ a.length + b.length := by
  obtain ⟨hi, hk, ys, p1, p2, p3, p4, p5, p6, p7⟩ := h
  have : ∀ l : List Int, (opOn f a b l).length ≤ l.length := fun l => by
    induction l with
    | nil => simp [opOn]
    | cons y l ih =>
      simp only [opOn, List.flatMap_cons, List.length_append, List.length_cons] at *
      have : (opRow f a b y).length ≤ 1 := by unfold opRow; split <;> simp
      omega
  have := this ys
  rw [← p2] at this; omega
theorem opAt_end {f : Bool → Bool → Bool} (hf : f false false = false) {a b : List Row} (ha : validR a = true) (hb : validR b = true) {out : List Row} (h : OpAt f a b a.length b.length out) : out = opR f a b := by
  obtain ⟨hi, hk, ys, p1, p2, p3, p4, p5, p6, p7⟩ := h
  rw [List.take_length] at p4 p5
  rw [p2]
  exact opR_on hf ha hb p1 fun w hw => hw.elim (p4 w) (p5 w)
end Go.Proofs.YtknelhiejjdioaaGreat

set_option linter.unusedVariables false
set_option linter.unusedSimpArgs false
set_option maxRecDepth 100000
namespace Go.Proofs.YtknelhiejjdioaaGreat
open Go.Abs

theorem keptU (x y : Bool) : PC Tryz.prog 113 [.int .i64 0, .bool x, .bool y] (.p (.bool (fU x y))) := by
  cases x <;> cases y
  · refine pc_of_awp cx (fn := Tryz.f113) (c := _) Tryz.func113 rfl rfl (Nat.le_of_ble_eq_true rfl) ?_
    rw [Tryz.ntmps113]; refine Nav.imp ?_
    refine awp_region cx [] fun K hK => ?_
    simp [push_cast]
    repeat (refine And.intro (by clear hK; intros; first | omega | (simp_all; done) | (simp_all <;> omega)) ?_)
    refine hK _ ?_; clear hK K; refine Nav.imp ?_
    refine awp_region cx [] fun K hK => ?_
    simp [push_cast]
    repeat (refine And.intro (by clear hK; intros; first | omega | (simp_all; done) | (simp_all <;> omega)) ?_)
    refine hK _ ?_; clear hK K; refine Nav.imp ?_
    refine awp_region cx [] fun K hK => ?_
    simp [push_cast]
    repeat (refine And.intro (by clear hK; intros; first | omega | (simp_all; done) | (simp_all <;> omega)) ?_)
    refine hK _ ?_; clear hK K; refine Nav.imp ?_
    refine awp_cond (b := true) (by simp [push_cast]) (fun hb => ?_) (fun hb => ?_) <;> (refine Nav.imp ?_)
    · refine awp_region cx [] fun K hK => ?_
      simp [push_cast]
      repeat (refine And.intro (by clear hK; intros; first | omega | (simp_all; done) | (simp_all <;> omega)) ?_)
      refine hK _ ?_; clear hK K; refine Nav.imp ?_
      simp [push_cast, fU]
    · simp at hb
  · refine pc_of_awp cx (fn := Tryz.f113) (c := _) Tryz.func113 rfl rfl (Nat.le_of_ble_eq_true rfl) ?_
    rw [Tryz.ntmps113]; refine Nav.imp ?_
    refine awp_region cx [] fun K hK => ?_
    simp [push_cast]
    repeat (refine And.intro (by clear hK; intros; first | omega | (simp_all; done) | (simp_all <;> omega)) ?_)
    refine hK _ ?_; clear hK K; refine Nav.imp ?_
    refine awp_region cx [] fun K hK => ?_
    simp [push_cast]
    repeat (refine And.intro (by clear hK; intros; first | omega | (simp_all; done) | (simp_all <;> omega)) ?_)
    refine hK _ ?_; clear hK K; refine Nav.imp ?_
    refine awp_region cx [] fun K hK => ?_
    simp [push_cast]
    repeat (refine And.intro (by clear hK; intros; first | omega | (simp_all; done) | (simp_all <;> omega)) ?_)
    refine hK _ ?_; clear hK K; refine Nav.imp ?_
    refine awp_cond (b := true) (by simp [push_cast]) (fun hb => ?_) (fun hb => ?_) <;> (refine Nav.imp ?_)
    · refine awp_region cx [] fun K hK => ?_
      simp [push_cast]
      repeat (refine And.intro (by clear hK; intros; first | omega | (simp_all; done) | (simp_all <;> omega)) ?_)
      refine hK _ ?_; clear hK K; refine Nav.imp ?_
      simp [push_cast, fU]
    · simp at hb
  · refine pc_of_awp cx (fn := Tryz.f113) (c := _) Tryz.func113 rfl rfl (Nat.le_of_ble_eq_true rfl) ?_
    rw [Tryz.ntmps113]; refine Nav.imp ?_
    refine awp_region cx [] fun K hK => ?_
    simp [push_cast]
    repeat (refine And.intro (by clear hK; intros; first | omega | (simp_all; done) | (simp_all <;> omega)) ?_)
    refine hK _ ?_; clear hK K; refine Nav.imp ?_
    refine awp_region cx [] fun K hK => ?_
    simp [push_cast]
    repeat (refine And.intro (by clear hK; intros; first | omega | (simp_all; done) | (simp_all <;> omega)) ?_)
    refine hK _ ?_; clear hK K; refine Nav.imp ?_
    refine awp_region cx [] fun K hK => ?_
    simp [push_cast]
    repeat (refine And.intro (by clear hK; intros; first | omega | (simp_all; done) | (simp_all <;> omega)) ?_)
    refine hK _ ?_; clear hK K; refine Nav.imp ?_
    refine awp_cond (b := true) (by simp [push_cast]) (fun hb => ?_) (fun hb => ?_) <;> (refine Nav.imp ?_)
    · refine awp_region cx [] fun K hK => ?_
      simp [push_cast]
      repeat (refine And.intro (by clear hK; intros; first | omega | (simp_all; done) | (simp_all <;> omega)) ?_)
      refine hK _ ?_; clear hK K; refine Nav.imp ?_
      simp [push_cast, fU]
    · simp at hb
  · refine pc_of_awp cx (fn := Tryz.f113) (c := _) Tryz.func113 rfl rfl (Nat.le_of_ble_eq_true rfl) ?_
    rw [Tryz.ntmps113]; refine Nav.imp ?_
    refine awp_region cx [] fun K hK => ?_
    simp [push_cast]
    repeat (refine And.intro (by clear hK; intros; first | omega | (simp_all; done) | (simp_all <;> omega)) ?_)
    refine hK _ ?_; clear hK K; refine Nav.imp ?_
    refine awp_region cx [] fun K hK => ?_
    simp [push_cast]
    repeat (refine And.intro (by clear hK; intros; first | omega | (simp_all; done) | (simp_all <;> omega)) ?_)
    refine hK _ ?_; clear hK K; refine Nav.imp ?_
    refine awp_region cx [] fun K hK => ?_
    simp [push_cast]
    repeat (refine And.intro (by clear hK; intros; first | omega | (simp_all; done) | (simp_all <;> omega)) ?_)
    refine hK _ ?_; clear hK K; refine Nav.imp ?_
    refine awp_cond (b := true) (by simp [push_cast]) (fun hb => ?_) (fun hb => ?_) <;> (refine Nav.imp ?_)
    · refine awp_region cx [] fun K hK => ?_
      simp [push_cast]
      repeat (refine And.intro (by clear hK; intros; first | omega | (simp_all; done) | (simp_all <;> omega)) ?_)
      refine hK _ ?_; clear hK K; refine Nav.imp ?_
      simp [push_cast, fU]
    · simp at hb
theorem keptI (x y : Bool) : PC Tryz.prog 113 [.int .i64 1, .bool x, .bool y] (.p (.bool (fI x y))) := by
  cases x <;> cases y
  · refine pc_of_awp cx (fn := Tryz.f113) (c := _) Tryz.func113 rfl rfl (Nat.le_of_ble_eq_true rfl) ?_
    rw [Tryz.ntmps113]; refine Nav.imp ?_
    refine awp_region cx [] fun K hK => ?_
    simp [push_cast]
    repeat (refine And.intro (by clear hK; intros; first | omega | (simp_all; done) | (simp_all <;> omega)) ?_)
    refine hK _ ?_; clear hK K; refine Nav.imp ?_
    refine awp_region cx [] fun K hK => ?_
    simp [push_cast]
    repeat (refine And.intro (by clear hK; intros; first | omega | (simp_all; done) | (simp_all <;> omega)) ?_)
    refine hK _ ?_; clear hK K; refine Nav.imp ?_
    refine awp_region cx [] fun K hK => ?_
    simp [push_cast]
    repeat (refine And.intro (by clear hK; intros; first | omega | (simp_all; done) | (simp_all <;> omega)) ?_)
    refine hK _ ?_; clear hK K; refine Nav.imp ?_
    refine awp_cond (b := false) (by simp [push_cast]) (fun hb => ?_) (fun hb => ?_) <;> (refine Nav.imp ?_)
    · simp at hb
    · refine awp_region cx [] fun K hK => ?_
      simp [push_cast]
      repeat (refine And.intro (by clear hK; intros; first | omega | (simp_all; done) | (simp_all <;> omega)) ?_)
      refine hK _ ?_; clear hK K; refine Nav.imp ?_
      refine awp_cond (b := true) (by simp [push_cast]) (fun hb => ?_) (fun hb => ?_) <;> (refine Nav.imp ?_)
      · refine awp_region cx [] fun K hK => ?_
        simp [push_cast]
        repeat (refine And.intro (by clear hK; intros; first | omega | (simp_all; done) | (simp_all <;> omega)) ?_)
        refine hK _ ?_; clear hK K; refine Nav.imp ?_
        simp [push_cast, fI]
      · simp at hb
  · refine pc_of_awp cx (fn := Tryz.f113) (c := _) Tryz.func113 rfl rfl (Nat.le_of_ble_eq_true rfl) ?_
    rw [Tryz.ntmps113]; refine Nav.imp ?_
    refine awp_region cx [] fun K hK => ?_
    simp [push_cast]
    repeat (refine And.intro (by clear hK; intros; first | omega | (simp_all; done) | (simp_all <;> omega)) ?_)
    refine hK _ ?_; clear hK K; refine Nav.imp ?_
    refine awp_region cx [] fun K hK => ?_
    simp [push_cast]
    repeat (refine And.intro (by clear hK; intros; first | omega | (simp_all; done) | (simp_all <;> omega)) ?_)
    refine hK _ ?_; clear hK K; refine Nav.imp ?_
    refine awp_region cx [] fun K hK => ?_
    simp [push_cast]
    repeat (refine And.intro (by clear hK; intros; first | omega | (simp_all; done) | (simp_all <;> omega)) ?_)
    refine hK _ ?_; clear hK K; refine Nav.imp ?_
    refine awp_cond (b := false) (by simp [push_cast]) (fun hb => ?_) (fun hb => ?_) <;> (refine Nav.imp ?_)
    · simp at hb
    · refine awp_region cx [] fun K hK => ?_
      simp [push_cast]
      repeat (refine And.intro (by clear hK; intros; first | omega | (simp_all; done) | (simp_all <;> omega)) ?_)
      refine hK _ ?_; clear hK K; refine Nav.imp ?_
      refine awp_cond (b := true) (by simp [push_cast]) (fun hb => ?_) (fun hb => ?_) <;> (refine Nav.imp ?_)
      · refine awp_region cx [] fun K hK => ?_
        simp [push_cast]
        repeat (refine And.intro (by clear hK; intros; first | omega | (simp_all; done) | (simp_all <;> omega)) ?_)
        refine hK _ ?_; clear hK K; refine Nav.imp ?_
        simp [push_cast, fI]
      · simp at hb
  · refine pc_of_awp cx (fn := Tryz.f113) (c := _) Tryz.func113 rfl rfl (Nat.le_of_ble_eq_true rfl) ?_
    rw [Tryz.ntmps113]; refine Nav.imp ?_
    refine awp_region cx [] fun K hK => ?_
    simp [push_cast]
    repeat (refine And.intro (by clear hK; intros; first | omega | (simp_all; done) | (simp_all <;> omega)) ?_)
    refine hK _ ?_; clear hK K; refine Nav.imp ?_
    refine awp_region cx [] fun K hK => ?_
    simp [push_cast]
    repeat (refine And.intro (by clear hK; intros; first | omega | (simp_all; done) | (simp_all <;> omega)) ?_)
    refine hK _ ?_; clear hK K; refine Nav.imp ?_
    refine awp_region cx [] fun K hK => ?_
    simp [push_cast]
    repeat (refine And.intro (by clear hK; intros; first | omega | (simp_all; done) | (simp_all <;> omega)) ?_)
    refine hK _ ?_; clear hK K; refine Nav.imp ?_
    refine awp_cond (b := false) (by simp [push_cast]) (fun hb => ?_) (fun hb => ?_) <;> (refine Nav.imp ?_)
    · simp at hb
    · refine awp_region cx [] fun K hK => ?_
      simp [push_cast]
      repeat (refine And.intro (by clear hK; intros; first | omega | (simp_all; done) | (simp_all <;> omega)) ?_)
      refine hK _ ?_; clear hK K; refine Nav.imp ?_
      refine awp_cond (b := true) (by simp [push_cast]) (fun hb => ?_) (fun hb => ?_) <;> (refine Nav.imp ?_)
      · refine awp_region cx [] fun K hK => ?_
        simp [push_cast]
        repeat (refine And.intro (by clear hK; intros; first | omega | (simp_all; done) | (simp_all <;> omega)) ?_)
        refine hK _ ?_; clear hK K; refine Nav.imp ?_
        simp [push_cast, fI]
      · simp at hb
  · refine pc_of_awp cx (fn := Tryz.f113) (c := _) Tryz.func113 rfl rfl (Nat.le_of_ble_eq_true rfl) ?_
    rw [Tryz.ntmps113]; refine Nav.imp ?_
    refine awp_region cx [] fun K hK => ?_
    simp [push_cast]
    repeat (refine And.intro (by clear hK; intros; first | omega | (simp_all; done) | (simp_all <;> omega)) ?_)
    refine hK _ ?_; clear hK K; refine Nav.imp ?_
    refine awp_region cx [] fun K hK => ?_
    simp [push_cast]
    repeat (refine And.intro (by clear hK; intros; first | omega | (simp_all; done) | (simp_all <;> omega)) ?_)
    refine hK _ ?_; clear hK K; refine Nav.imp ?_
    refine awp_region cx [] fun K hK => ?_
    simp [push_cast]
    repeat (refine And.intro (by clear hK; intros; first | omega | (simp_all; done) | (simp_all <;> omega)) ?_)
    refine hK _ ?_; clear hK K; refine Nav.imp ?_
    refine awp_cond (b := false) (by simp [push_cast]) (fun hb => ?_) (fun hb => ?_) <;> (refine Nav.imp ?_)
    · simp at hb
    · refine awp_region cx [] fun K hK => ?_
      simp [push_cast]
      repeat (refine And.intro (by clear hK; intros; first | omega | (simp_all; done) | (simp_all <;> omega)) ?_)
      refine hK _ ?_; clear hK K; refine Nav.imp ?_
      refine awp_cond (b := true) (by simp [push_cast]) (fun hb => ?_) (fun hb => ?_) <;> (refine Nav.imp ?_)
      · refine awp_region cx [] fun K hK => ?_
        simp [push_cast]
        repeat (refine And.intro (by clear hK; intros; first | omega | (simp_all; done) | (simp_all <;> omega)) ?_)
        refine hK _ ?_; clear hK K; refine Nav.imp ?_
        simp [push_cast, fI]
      · simp at hb
theorem keptD (x y : Bool) : PC Tryz.prog 113 [.int .i64 2, .bool x, .bool y] (.p (.bool (fD x y))) := by
  cases x <;> cases y
  · refine pc_of_awp cx (fn := Tryz.f113) (c := _) Tryz.func113 rfl rfl (Nat.le_of_ble_eq_true rfl) ?_
    rw [Tryz.ntmps113]; refine Nav.imp ?_
    refine awp_region cx [] fun K hK => ?_
    simp [push_cast]
    repeat (refine And.intro (by clear hK; intros; first | omega | (simp_all; done) | (simp_all <;> omega)) ?_)
    refine hK _ ?_; clear hK K; refine Nav.imp ?_
    refine awp_region cx [] fun K hK => ?_
    simp [push_cast]
    repeat (refine And.intro (by clear hK; intros; first | omega | (simp_all; done) | (simp_all <;> omega)) ?_)
    refine hK _ ?_; clear hK K; refine Nav.imp ?_
    refine awp_region cx [] fun K hK => ?_
    simp [push_cast]
    repeat (refine And.intro (by clear hK; intros; first | omega | (simp_all; done) | (simp_all <;> omega)) ?_)
    refine hK _ ?_; clear hK K; refine Nav.imp ?_
    refine awp_cond (b := false) (by simp [push_cast]) (fun hb => ?_) (fun hb => ?_) <;> (refine Nav.imp ?_)
    · simp at hb
    · refine awp_region cx [] fun K hK => ?_
      simp [push_cast]
      repeat (refine And.intro (by clear hK; intros; first | omega | (simp_all; done) | (simp_all <;> omega)) ?_)
      refine hK _ ?_; clear hK K; refine Nav.imp ?_
      refine awp_cond (b := false) (by simp [push_cast]) (fun hb => ?_) (fun hb => ?_) <;> (refine Nav.imp ?_)
      · simp at hb
      · refine awp_region cx [] fun K hK => ?_
        simp [push_cast]
        repeat (refine And.intro (by clear hK; intros; first | omega | (simp_all; done) | (simp_all <;> omega)) ?_)
        refine hK _ ?_; clear hK K; refine Nav.imp ?_
        simp [push_cast, fD]
  · refine pc_of_awp cx (fn := Tryz.f113) (c := _) Tryz.func113 rfl rfl (Nat.le_of_ble_eq_true rfl) ?_
    rw [Tryz.ntmps113]; refine Nav.imp ?_
    refine awp_region cx [] fun K hK => ?_
    simp [push_cast]
    repeat (refine And.intro (by clear hK; intros; first | omega | (simp_all; done) | (simp_all <;> omega)) ?_)
    refine hK _ ?_; clear hK K; refine Nav.imp ?_
    refine awp_region cx [] fun K hK => ?_
    simp [push_cast]
    repeat (refine And.intro (by clear hK; intros; first | omega | (simp_all; done) | (simp_all <;> omega)) ?_)
    refine hK _ ?_; clear hK K; refine Nav.imp ?_
    refine awp_region cx [] fun K hK => ?_
    simp [push_cast]
    repeat (refine And.intro (by clear hK; intros; first | omega | (simp_all; done) | (simp_all <;> omega)) ?_)
    refine hK _ ?_; clear hK K; refine Nav.imp ?_
    refine awp_cond (b := false) (by simp [push_cast]) (fun hb => ?_) (fun hb => ?_) <;> (refine Nav.imp ?_)
    · simp at hb
    · refine awp_region cx [] fun K hK => ?_
      simp [push_cast]
      repeat (refine And.intro (by clear hK; intros; first | omega | (simp_all; done) | (simp_all <;> omega)) ?_)
      refine hK _ ?_; clear hK K; refine Nav.imp ?_
      refine awp_cond (b := false) (by simp [push_cast]) (fun hb => ?_) (fun hb => ?_) <;> (refine Nav.imp ?_)
      · simp at hb
      · refine awp_region cx [] fun K hK => ?_
        simp [push_cast]
        repeat (refine And.intro (by clear hK; intros; first | omega | (simp_all; done) | (simp_all <;> omega)) ?_)
        refine hK _ ?_; clear hK K; refine Nav.imp ?_
        simp [push_cast, fD]
  · refine pc_of_awp cx (fn := Tryz.f113) (c := _) Tryz.func113 rfl rfl (Nat.le_of_ble_eq_true rfl) ?_
    rw [Tryz.ntmps113]; refine Nav.imp ?_
    refine awp_region cx [] fun K hK => ?_
    simp [push_cast]
    repeat (refine And.intro (by clear hK; intros; first | omega | (simp_all; done) | (simp_all <;> omega)) ?_)
    refine hK _ ?_; clear hK K; refine Nav.imp ?_
    refine awp_region cx [] fun K hK => ?_
    simp [push_cast]
    repeat (refine And.intro (by clear hK; intros; first | omega | (simp_all; done) | (simp_all <;> omega)) ?_)
    refine hK _ ?_; clear hK K; refine Nav.imp ?_
    refine awp_region cx [] fun K hK => ?_
    simp [push_cast]
    repeat (refine And.intro (by clear hK; intros; first | omega | (simp_all; done) | (simp_all <;> omega)) ?_)
    refine hK _ ?_; clear hK K; refine Nav.imp ?_
    refine awp_cond (b := false) (by simp [push_cast]) (fun hb => ?_) (fun hb => ?_) <;> (refine Nav.imp ?_)
    · simp at hb
    · refine awp_region cx [] fun K hK => ?_
      simp [push_cast]
      repeat (refine And.intro (by clear hK; intros; first | omega | (simp_all; done) | (simp_all <;> omega)) ?_)
      refine hK _ ?_; clear hK K; refine Nav.imp ?_
      refine awp_cond (b := false) (by simp [push_cast]) (fun hb => ?_) (fun hb => ?_) <;> (refine Nav.imp ?_)
      · simp at hb
      · refine awp_region cx [] fun K hK => ?_
        simp [push_cast]
        repeat (refine And.intro (by clear hK; intros; first | omega | (simp_all; done) | (simp_all <;> omega)) ?_)
        refine hK _ ?_; clear hK K; refine Nav.imp ?_
        simp [push_cast, fD]
  · refine pc_of_awp cx (fn := Tryz.f113) (c := _) Tryz.func113 rfl rfl (Nat.le_of_ble_eq_true rfl) ?_
    rw [Tryz.ntmps113]; refine Nav.imp ?_
    refine awp_region cx [] fun K hK => ?_
    simp [push_cast]
    repeat (refine And.intro (by clear hK; intros; first | omega | (simp_all; done) | (simp_all <;> omega)) ?_)
    refine hK _ ?_; clear hK K; refine Nav.imp ?_
    refine awp_region cx [] fun K hK => ?_
    simp [push_cast]
    repeat (refine And.intro (by clear hK; intros; first | omega | (simp_all; done) | (simp_all <;> omega)) ?_)
    refine hK _ ?_; clear hK K; refine Nav.imp ?_
    refine awp_region cx [] fun K hK => ?_
    simp [push_cast]
    repeat (refine And.intro (by clear hK; intros; first | omega | (simp_all; done) | (simp_all <;> omega)) ?_)
    refine hK _ ?_; clear hK K; refine Nav.imp ?_
    refine awp_cond (b := false) (by simp [push_cast]) (fun hb => ?_) (fun hb => ?_) <;> (refine Nav.imp ?_)
    · simp at hb
    · refine awp_region cx [] fun K hK => ?_
      simp [push_cast]
      repeat (refine And.intro (by clear hK; intros; first | omega | (simp_all; done) | (simp_all <;> omega)) ?_)
      refine hK _ ?_; clear hK K; refine Nav.imp ?_
      refine awp_cond (b := false) (by simp [push_cast]) (fun hb => ?_) (fun hb => ?_) <;> (refine Nav.imp ?_)
      · simp at hb
      · refine awp_region cx [] fun K hK => ?_
        simp [push_cast]
        repeat (refine And.intro (by clear hK; intros; first | omega | (simp_all; done) | (simp_all <;> omega)) ?_)
        refine hK _ ?_; clear hK K; refine Nav.imp ?_
        simp [push_cast, fD]

set_option maxHeartbeats 4000000 in
theorem bounds_ok (a b : List Run) (ha : a.length ≤ 1000000) (hb0 : b.length ≤ 1000000) : PC Tryz.prog 112 [encRuns a, encRuns b] (.p (.sl ((bnds a b).map iRow))) := by
  refine pc_of_awp cx (fn := Tryz.f112) (c := _) Tryz.func112 rfl rfl (Nat.le_of_ble_eq_true rfl) ?_
  rw [Tryz.ntmps112]; refine Nav.imp ?_
  refine awp_region cx [] fun K hK => ?_
  simp [push_cast]
  repeat (refine And.intro (by clear hK; intros; first | omega | (simp_all; done) | (simp_all <;> omega)) ?_)
  refine hK _ ?_; clear hK K; refine Nav.imp ?_
  refine awp_region cx [] fun K hK => ?_
  simp [push_cast]
  repeat (refine And.intro (by clear hK; intros; first | omega | (simp_all; done) | (simp_all <;> omega)) ?_)
  refine hK _ ?_; clear hK K; refine Nav.imp ?_
  refine awp_region cx [] fun K hK => ?_
  simp [push_cast]
  repeat (refine And.intro (by clear hK; intros; first | omega | (simp_all; done) | (simp_all <;> omega)) ?_)
  refine hK _ ?_; clear hK K; refine Nav.imp ?_
  refine awp_loop (β := Nat × List Int) (fun s => ⟨90, [(0, .d (encRuns a)), (1, .d (encRuns b)), (5, .hs 0 0 s.2.length), (6, .d (.int .i64 s.1))], [(0, some ⟨3, 1, dr (s.2.map iRow)⟩)], 1⟩) (fun s => s.1 ≤ a.length ∧ s.2 = ends (a.take s.1)) (fun s => a.length - s.1) (0, []) ?_ ⟨Nat.zero_le _, by simp [ends]⟩ ?_
  · refine weak_of [(0, none)] rfl (by simp [upT, up, upL, push_cast]) (by simp [upH, upR, upL, up, push_cast]) (by simp [namesOk, push_cast]) (by simp [olds])
  · rintro ⟨k, Z⟩ ⟨hk, hZ⟩
    simp only at hk hZ
    refine Nav.imp ?_
    refine awp_region cx [] fun K hK => ?_
    simp [push_cast]
    repeat (refine And.intro (by clear hK; intros; first | omega | (simp_all; done) | (simp_all <;> omega)) ?_)
    refine hK _ ?_; clear hK K; refine Nav.imp ?_
    refine awp_cond (b := decide ((k : Int) < a.length)) (by simp [push_cast]) (fun hb => ?_) (fun hb => ?_) <;> (refine Nav.imp ?_)
    · have hlt : k < a.length := by simpa using hb
      obtain ⟨r, hr⟩ := getq hlt
      have e0 := wrap_i64 (n := (k : Int) + 1) (by omega) (by omega)
      have hZl : Z.length = 2 * k := by rw [hZ, ends_len, List.length_take]; omega
      have hZ8 : (Z.length + 2) * 8 ≤ 140737488355328 := by omega
      have hnx : ends (a.take (k + 1)) = Z ++ [r.a, r.b] := by rw [ends_take hr, hZ]
      obtain ⟨ra, rb⟩ := r
      simp only at hnx
      refine awp_region_draw cx mixed [] fun K hK => ?_
      simp [push_cast, hr, hZ8, Run.row]
      repeat (refine And.intro (by clear hK; intros; first | omega | (simp_all; done) | (simp_all <;> omega)) ?_)
      refine hK _ _ (by kernel_rfl) ?_; clear hK K; refine Nav.imp ?_
      refine awp_region cx [] fun K hK => ?_
      simp [push_cast, e0]
      repeat (refine And.intro (by clear hK; intros; first | omega | (simp_all; done) | (simp_all <;> omega)) ?_)
      refine hK _ ?_; clear hK K; refine Nav.imp ?_
      refine ⟨(k + 1, Z ++ [ra, rb]), ⟨hlt, hnx.symm⟩, by simp only; omega, ?_⟩
      refine weak_of [(0, some 17)] rfl (by simp [upT, up, upL, push_cast]) (by simp [upH, upR, upL, up, push_cast]) (by simp [namesOk, push_cast]) (by simp [olds])
    · have hge : k = a.length := by simp at hb; omega
      subst hge
      rw [List.take_length] at hZ
      have hAl : Z.length = 2 * a.length := by rw [hZ, ends_len]
      refine awp_region cx [] fun K hK => ?_
      simp [push_cast]
      repeat (refine And.intro (by clear hK; intros; first | omega | (simp_all; done) | (simp_all <;> omega)) ?_)
      refine hK _ ?_; clear hK K; refine Nav.imp ?_
      refine awp_loop (β := Nat × List Int) (fun s => ⟨90, [(1, .d (encRuns b)), (5, .hs 0 0 s.2.length), (7, .d (.int .i64 s.1))], [(0, some ⟨3, 1, dr (s.2.map iRow)⟩)], 1⟩) (fun s => s.1 ≤ b.length ∧ s.2 = ends a ++ ends (b.take s.1)) (fun s => b.length - s.1) (0, Z) ?_ ⟨Nat.zero_le _, by simp [ends] at hZ ⊢; exact hZ⟩ ?_
      · refine weak_of [(0, some 0)] rfl (by simp [upT, up, upL, push_cast]) (by simp [upH, upR, upL, up, push_cast]) (by simp [namesOk, push_cast]) (by simp [olds])
      · rintro ⟨k, Y⟩ ⟨hk, hY⟩
        simp only at hk hY
        refine Nav.imp ?_
        refine awp_region cx [] fun K hK => ?_
        simp [push_cast]
        repeat (refine And.intro (by clear hK; intros; first | omega | (simp_all; done) | (simp_all <;> omega)) ?_)
        refine hK _ ?_; clear hK K; refine Nav.imp ?_
        refine awp_cond (b := decide ((k : Int) < b.length)) (by simp [push_cast]) (fun hb => ?_) (fun hb => ?_) <;> (refine Nav.imp ?_)
        · have hlt : k < b.length := by simpa using hb
          obtain ⟨r, hr⟩ := getq hlt
          have e0 := wrap_i64 (n := (k : Int) + 1) (by omega) (by omega)
          have hYl : Y.length = 2 * a.length + 2 * k := by rw [hY, List.length_append, ends_len, ends_len, List.length_take]; omega
          have hY8 : (Y.length + 2) * 8 ≤ 140737488355328 := by omega
          have hnx : ends a ++ ends (b.take (k + 1)) = Y ++ [r.a, r.b] := by rw [ends_take hr, hY]; simp
          obtain ⟨ra, rb⟩ := r
          simp only at hnx
          refine awp_region_draw cx mixed [] fun K hK => ?_
          simp [push_cast, hr, hY8, Run.row]
          repeat (refine And.intro (by clear hK; intros; first | omega | (simp_all; done) | (simp_all <;> omega)) ?_)
          refine hK _ _ (by kernel_rfl) ?_; clear hK K; refine Nav.imp ?_
          refine awp_region cx [] fun K hK => ?_
          simp [push_cast, e0]
          repeat (refine And.intro (by clear hK; intros; first | omega | (simp_all; done) | (simp_all <;> omega)) ?_)
          refine hK _ ?_; clear hK K; refine Nav.imp ?_
          refine ⟨(k + 1, Y ++ [ra, rb]), ⟨hlt, hnx.symm⟩, by simp only; omega, ?_⟩
          refine weak_of [(0, some 17)] rfl (by simp [upT, up, upL, push_cast]) (by simp [upH, upR, upL, up, push_cast]) (by simp [namesOk, push_cast]) (by simp [olds])
        · have hge : k = b.length := by simp at hb; omega
          subst hge
          rw [List.take_length] at hY
          have hB : bnds a b = ascI Y := by rw [hY]; rfl
          have hYl : Y.length ≤ 4000000 := by rw [hY, List.length_append, ends_len, ends_len]; omega
          rw [hB]
          clear hB hY hZ
          refine awp_region cx [] fun K hK => ?_
          simp [push_cast]
          repeat (refine And.intro (by clear hK; intros; first | omega | (simp_all; done) | (simp_all <;> omega)) ?_)
          refine hK _ ?_; clear hK K; refine Nav.imp ?_
          refine awp_loop (β := Nat × List Int) (fun b => ⟨90, [(5, .hs 0 0 b.2.length), (8, .d (.int .i64 b.1))], [(0, some ⟨3, 1, dr (b.2.map iRow)⟩)], 1⟩) (fun b => UpI Y b.1 b.2 ∧ 0 < b.1 ∧ b.1 ≤ 4000001) (fun b => Y.length - b.1) (1, Y) ?_ ⟨upI_start Y, by omega, by omega⟩ ?_
          · refine weak_of [(0, some 0)] rfl (by simp [upT, up, upL, push_cast]) (by simp [upH, upR, upL, up, push_cast]) (by simp [namesOk, push_cast]) (by simp [olds])
          · rintro ⟨i, Z⟩ ⟨hZ, hi, hib⟩
            simp only at hZ hi hib
            have hZl : Z.length = Y.length := hZ.1.length_eq
            refine Nav.imp ?_
            refine awp_region cx [] fun K hK => ?_
            simp [push_cast]
            repeat (refine And.intro (by clear hK; intros; first | omega | (simp_all; done) | (simp_all <;> omega)) ?_)
            refine hK _ ?_; clear hK K; refine Nav.imp ?_
            refine awp_cond (b := decide ((i : Int) < Z.length)) (by simp [push_cast]) (fun hb => ?_) (fun hb => ?_) <;> (refine Nav.imp ?_)
            · have hlt : i < Z.length := by simpa using hb
              have e0 := wrap_i64 (n := (i : Int) + 1) (by omega) (by omega)
              refine awp_region cx [] fun K hK => ?_
              simp [push_cast]
              repeat (refine And.intro (by clear hK; intros; first | omega | (simp_all; done) | (simp_all <;> omega)) ?_)
              refine hK _ ?_; clear hK K; refine Nav.imp ?_
              refine awp_loop (β := Nat × List Int) (fun b => ⟨90, [(5, .hs 0 0 b.2.length), (8, .d (.int .i64 i)), (9, .d (.int .i64 b.1))], [(0, some ⟨3, 1, dr (b.2.map iRow)⟩)], 1⟩) (fun b => InsI Y i b.2 b.1) (fun b => b.1) (i, Z) ?_ (insI_start hZ hlt) ?_
              · refine weak_of [(0, some 0)] rfl (by simp [upT, up, upL, push_cast]) (by simp [upH, upR, upL, up, push_cast]) (by simp [namesOk, push_cast]) (by simp [olds])
              · rintro ⟨k, W⟩ hW
                simp only at hW
                have hWl : W.length = Y.length := by obtain ⟨P, c, Q, T, _, _, _, h, _⟩ := hW; exact h.length_eq
                have hki : k ≤ i := by obtain ⟨P, c, Q, T, _, h1, h2, _⟩ := hW; omega
                refine Nav.imp ?_
                obtain ⟨c, hc⟩ : ∃ c, W[k]? = some c := getq (by omega)
                cases k with
                | zero =>
                  refine awp_region_draw cx mixed [] fun K hK => ?_
                  simp [push_cast, hc]
                  repeat (refine And.intro (by clear hK; intros; first | omega | (simp_all; done) | (simp_all <;> omega)) ?_)
                  refine hK _ _ (by kernel_rfl) ?_; clear hK K; refine Nav.imp ?_
                  refine awp_cond (b := false) (by simp [push_cast]) (fun hb => ?_) (fun hb => ?_) <;> (refine Nav.imp ?_)
                  · simp at hb
                  · refine awp_region cx [] fun K hK => ?_
                    simp [push_cast, e0]
                    repeat (refine And.intro (by clear hK; intros; first | omega | (simp_all; done) | (simp_all <;> omega)) ?_)
                    refine hK _ ?_; clear hK K; refine Nav.imp ?_
                    refine ⟨(i + 1, W), ⟨insI_end hW (.inl rfl), by simp only; omega, by simp only; omega⟩, by simp only; omega, ?_⟩
                    refine weak_of [(0, some 0)] rfl (by simp [upT, up, upL, push_cast]) (by simp [upH, upR, upL, up, push_cast]) (by simp [namesOk, push_cast]) (by simp [olds])
                | succ k =>
                  obtain ⟨p, hp⟩ : ∃ c, W[k]? = some c := getq (by omega)
                  have e1 := wrap_i64 (n := ((k + 1 : Nat) : Int) - 1) (by omega) (by omega)
                  have e2 : (((k + 1 : Nat) : Int) - 1) = k := by omega
                  rw [e2] at e1
                  have e3 : (((k + 1 : Nat) : Int) - 1).toNat = k := by omega
                  have e4 : (0 : Int) < (k : Int) + 1 := by omega
                  refine awp_region_draw cx mixed [] fun K hK => ?_
                  simp [push_cast, hc, hp, e1, e2, e3, e4]
                  repeat (refine And.intro (by clear hK; intros; first | omega | (simp_all; done) | (simp_all <;> omega)) ?_)
                  refine hK _ _ (by kernel_rfl) ?_; clear hK K; refine Nav.imp ?_
                  refine awp_cond (b := decide (c < p)) (by simp [push_cast, e4]) (fun hb => ?_) (fun hb => ?_) <;> (refine Nav.imp ?_)
                  · have hcp : c < p := by simpa using hb
                    have hnx := insI_next hW hc hp hcp
                    obtain ⟨Y1, hY1⟩ : ∃ Y1, Y1 = W.set (k + 1) p := ⟨_, rfl⟩
                    have hr1 : (dr (W.map iRow)).set (k + 1) [.d (.int .i64 p)] = dr (Y1.map iRow) := by rw [hY1]; simp [dr, List.map_set]
                    have hk1 : Y1[k]? = some p := by rw [hY1, List.getElem?_set_ne (by omega)]; exact hp
                    rw [← hY1] at hnx
                    have hl1 : Y1.length = W.length := by rw [hY1]; simp
                    obtain ⟨Y2, hY2⟩ : ∃ Y2, Y2 = Y1.set k c := ⟨_, rfl⟩
                    have hr2 : (dr (Y1.map iRow)).set k [.d (.int .i64 c)] = dr (Y2.map iRow) := by rw [hY2]; simp [dr, List.map_set]
                    rw [← hY2] at hnx
                    have hl2 : Y2.length = W.length := by rw [hY2]; simp [hl1]
                    clear hY1 hY2
                    refine awp_region cx [] fun K hK => ?_
                    simp [push_cast, hc]
                    repeat (refine And.intro (by clear hK; intros; first | omega | (simp_all; done) | (simp_all <;> omega)) ?_)
                    refine hK _ ?_; clear hK K; refine Nav.imp ?_
                    refine awp_region cx [] fun K hK => ?_
                    simp [push_cast, hp, hc, e1, e2, e3, hr1]
                    repeat (refine And.intro (by clear hK; intros; first | omega | (simp_all; done) | (simp_all <;> omega)) ?_)
                    refine hK _ ?_; clear hK K; refine Nav.imp ?_
                    rw [← hl1]
                    refine awp_region cx [] fun K hK => ?_
                    simp [push_cast, e1, e2, hk1, hr2]
                    repeat (refine And.intro (by clear hK; intros; first | omega | (simp_all; done) | (simp_all <;> omega)) ?_)
                    refine hK _ ?_; clear hK K; refine Nav.imp ?_
                    rw [hl1, ← hl2]
                    refine awp_region cx [] fun K hK => ?_
                    simp [push_cast, e1, e2]
                    repeat (refine And.intro (by clear hK; intros; first | omega | (simp_all; done) | (simp_all <;> omega)) ?_)
                    refine hK _ ?_; clear hK K; refine Nav.imp ?_
                    refine ⟨(k, Y2), hnx, by simp only; omega, ?_⟩
                    refine weak_of [(0, some 0)] rfl (by simp [upT, up, upL, push_cast]) (by simp [upH, upR, upL, up, push_cast]) (by simp [namesOk, push_cast]) (by simp [olds])
                  · have hcp : ¬ c < p := by simpa using hb
                    refine awp_region cx [] fun K hK => ?_
                    simp [push_cast, e0]
                    repeat (refine And.intro (by clear hK; intros; first | omega | (simp_all; done) | (simp_all <;> omega)) ?_)
                    refine hK _ ?_; clear hK K; refine Nav.imp ?_
                    refine ⟨(i + 1, W), ⟨insI_end hW (.inr ⟨c, p, hc, hp, hcp⟩), by simp only; omega, by simp only; omega⟩, by simp only; omega, ?_⟩
                    refine weak_of [(0, some 0)] rfl (by simp [upT, up, upL, push_cast]) (by simp [upH, upR, upL, up, push_cast]) (by simp [namesOk, push_cast]) (by simp [olds])
            · have hge : Y.length ≤ i := by simp at hb; omega
              have hs := upI_end hZ (by omega)
              rw [← hs]
              refine awp_region cx [] fun K hK => ?_
              simp [push_cast]
              repeat (refine And.intro (by clear hK; intros; first | omega | (simp_all; done) | (simp_all <;> omega)) ?_)
              refine hK _ ?_; clear hK K; refine Nav.imp ?_
              have ht : List.take Z.length (Z.map iRow) = Z.map iRow := List.take_of_length_le (by simp)
              simp [push_cast, ht]
end Go.Proofs.YtknelhiejjdioaaGreat

set_option linter.unusedVariables false
set_option linter.unusedSimpArgs false
set_option maxRecDepth 100000
namespace Go.Proofs.YtknelhiejjdioaaGreat
open Go.Abs

set_option maxHeartbeats 4000000 in
theorem combined_ok (op : Int) (f : Bool → Bool → Bool) (hf : f false false = false) (hkp : ∀ x y, PC Tryz.prog 113 [.int .i64 op, .bool x, .bool y] (.p (.bool (f x y)))) (a b : List Run) (ha : a.length ≤ 1000000) (hb0 : b.length ≤ 1000000) (va : rvalid a = true) (vb : rvalid b = true) :
    PC Tryz.prog 81 [.int .i64 op, encRuns a, encRuns b] (.p (encRuns (sweep f a b))) := by
  have c1 := bounds_ok a b ha hb0
  have hbl := bnds_len a b
  have hstart := fun X hX => @comb_start f hf a b X hX
  have hend := fun n X out h1 h2 h3 => @comb_end f hf a b va vb n X out h1 h2 h3
  have hgap := fun i X Y h1 h2 => @gap_of a b i X Y h1 h2
  have hnil := @sweep_nil f hf a b va vb
  generalize bnds a b = L at *
  generalize sweep f a b = res at *
  refine pc_of_awp cx (fn := Tryz.f81) (c := _) Tryz.func81 rfl rfl (Nat.le_of_ble_eq_true rfl) ?_
  rw [Tryz.ntmps81]; refine Nav.imp ?_
  refine awp_region cx [] fun K hK => ?_
  simp [push_cast]
  repeat (refine And.intro (by clear hK; intros; first | omega | (simp_all; done) | (simp_all <;> omega)) ?_)
  refine hK _ ?_; clear hK K; refine Nav.imp ?_
  refine awp_region cx [(2, .p (.sl (L.map iRow)))] fun K hK => ?_
  simp [push_cast, c1]
  repeat (refine And.intro (by clear hK; intros; first | omega | (simp_all; done) | (simp_all <;> omega)) ?_)
  refine hK _ ?_; clear hK K; refine Nav.imp ?_
  refine awp_region cx [] fun K hK => ?_
  simp [push_cast]
  repeat (refine And.intro (by clear hK; intros; first | omega | (simp_all; done) | (simp_all <;> omega)) ?_)
  refine hK _ ?_; clear hK K; refine Nav.imp ?_
  refine awp_region cx [] fun K hK => ?_
  simp [push_cast]
  repeat (refine And.intro (by clear hK; intros; first | omega | (simp_all; done) | (simp_all <;> omega)) ?_)
  refine hK _ ?_; clear hK K; refine Nav.imp ?_
  refine awp_loop (β := Nat × List Run) (fun s => ⟨89, [(0, .d (.int .i64 op)), (1, .d (encRuns a)), (2, .d (encRuns b)), (7, .d (.sl (L.map iRow))), (8, .hs 0 0 s.2.length), (9, .d (.int .i64 s.1))], [(0, some ⟨42, 2, dr (s.2.map Run.row)⟩)], 1⟩) (fun s => s.2.length ≤ s.1 ∧ (L.length = 0 → s.2 = []) ∧ (0 < L.length → s.1 < L.length) ∧ s.1 ≤ L.length ∧ ∀ X, L[s.1]? = some X → CombAt f a b X s.2) (fun s => L.length - s.1) (0, []) ?_ ⟨by simp, by simp, by simp, by simp, hstart⟩ ?_
  · refine weak_of [(0, none)] rfl (by simp [upT, up, upL, push_cast]) (by simp [upH, upR, upL, up, push_cast]) (by simp [namesOk, push_cast]) (by simp [olds])
  · rintro ⟨i, out⟩ ⟨hol, ho0, hi, hile, hat⟩
    simp only at hol ho0 hi hile hat
    refine Nav.imp ?_
    have e0 := wrap_i64 (n := (i : Int) + 1) (by omega) (by omega)
    refine awp_region cx [] fun K hK => ?_
    simp [push_cast, e0]
    repeat (refine And.intro (by clear hK; intros; first | omega | (simp_all; done) | (simp_all <;> omega)) ?_)
    refine hK _ ?_; clear hK K; refine Nav.imp ?_
    refine awp_cond (b := decide ((i : Int) + 1 < L.length)) (by simp [push_cast]) (fun hb => ?_) (fun hb => ?_) <;> (refine Nav.imp ?_)
    · have hlt : i + 1 < L.length := by simp at hb; omega
      obtain ⟨X, hX⟩ : ∃ X, L[i]? = some X := getq (by omega)
      obtain ⟨Y, hY⟩ : ∃ Y, L[i + 1]? = some Y := getq hlt
      obtain ⟨hg, hXY⟩ := hgap i X Y hX hY
      have hcm := hat X hX
      have hi1 : ((i : Int) + 1).toNat = i + 1 := by omega
      have hi2 : (0 : Int) ≤ (i : Int) + 1 := by omega
      have hlti : (i : Int) + 1 < L.length := by omega
      have hnext : ∀ out', out'.length ≤ i + 1 → CombAt f a b Y out' → (out'.length ≤ i + 1 ∧ (L.length = 0 → out' = []) ∧ (0 < L.length → i + 1 < L.length) ∧ i + 1 ≤ L.length ∧ ∀ X, L[i + 1]? = some X → CombAt f a b X out') := fun out' h1 h2 => ⟨h1, fun h => by omega, fun _ => hlt, by omega, fun Z hZ => by rw [hY] at hZ; cases hZ; exact h2⟩
      clear hat hgap hstart
      by_cases hne : X = Y
      · have hn := hnext out (by omega) (comb_skip hcm hg hXY (.inl hne))
        subst hne
        refine awp_region_draw cx mixed [(17, .skip), (23, .skip), (24, .skip)] fun K hK => ?_
        simp [push_cast, hX, hY, e0, hi1, hi2, hlti]
        repeat (refine And.intro (by clear hK; intros; first | omega | (simp_all; done) | (simp_all <;> omega)) ?_)
        refine hK _ _ (by kernel_rfl) ?_; clear hK K; refine Nav.imp ?_
        refine awp_cond (b := true) (by simp [push_cast]) (fun hb => ?_) (fun hb => ?_) <;> (refine Nav.imp ?_)
        · refine awp_region cx [] fun K hK => ?_
          simp [push_cast, e0]
          repeat (refine And.intro (by clear hK; intros; first | omega | (simp_all; done) | (simp_all <;> omega)) ?_)
          refine hK _ ?_; clear hK K; refine Nav.imp ?_
          refine ⟨(i + 1, out), hn, by simp only; omega, ?_⟩
          refine weak_of [(0, some 0)] rfl (by simp [upT, up, upL, push_cast]) (by simp [upH, upR, upL, up, push_cast]) (by simp [namesOk, push_cast]) (by simp [olds])
        · simp at hb
      · have c2 := inside18_ok a X ha
        have c3 := inside18_ok b X hb0
        have c4 := hkp (inR a X) (inR b X)
        generalize hv : f (inR a X) (inR b X) = v at c4
        generalize inR a X = pa at c2 c4
        generalize inR b X = pb at c3 c4
        refine awp_region_draw cx mixed [(17, .p (.bool pa)), (23, .p (.bool pb)), (24, .p (.bool v))] fun K hK => ?_
        simp [push_cast, hX, hY, e0, hi1, hi2, hlti, hne, c2, c3, c4]
        repeat (refine And.intro (by clear hK; intros; first | omega | (simp_all; done) | (simp_all <;> omega)) ?_)
        refine hK _ _ (by kernel_rfl) ?_; clear hK K; refine Nav.imp ?_
        refine awp_cond (b := !v) (by simp [push_cast, hne]) (fun hb => ?_) (fun hb => ?_) <;> (refine Nav.imp ?_)
        · have hv2 : v = false := by simpa using hb
          rw [hv2] at hv
          have hn := hnext out (by omega) (comb_skip hcm hg hXY (.inr hv))
          refine awp_region cx [] fun K hK => ?_
          simp [push_cast, e0]
          repeat (refine And.intro (by clear hK; intros; first | omega | (simp_all; done) | (simp_all <;> omega)) ?_)
          refine hK _ ?_; clear hK K; refine Nav.imp ?_
          refine ⟨(i + 1, out), hn, by simp only; omega, ?_⟩
          refine weak_of [(0, some 0)] rfl (by simp [upT, up, upL, push_cast]) (by simp [upH, upR, upL, up, push_cast]) (by simp [namesOk, push_cast]) (by simp [olds])
        · have hv2 : v = true := by simpa using hb
          rw [hv2] at hv
          have hlt2 : X < Y := by omega
          have hO16 : (out.length + 1) * 16 ≤ 140737488355328 := by omega
          refine awp_region cx [] fun K hK => ?_
          simp [push_cast]
          repeat (refine And.intro (by clear hK; intros; first | omega | (simp_all; done) | (simp_all <;> omega)) ?_)
          refine hK _ ?_; clear hK K; refine Nav.imp ?_
          rcases List.eq_nil_or_concat out with rfl | ⟨o, q, rfl⟩
          · have hn := hnext _ (by simp) (comb_app hcm hg hlt2 hv (by simp))
            refine awp_region_draw cx mixed [] fun K hK => ?_
            simp [push_cast, hX, hi1]
            repeat (refine And.intro (by clear hK; intros; first | omega | (simp_all; done) | (simp_all <;> omega)) ?_)
            refine hK _ _ (by kernel_rfl) ?_; clear hK K; refine Nav.imp ?_
            refine awp_cond (b := false) (by simp [push_cast]) (fun hb => ?_) (fun hb => ?_) <;> (refine Nav.imp ?_)
            · simp at hb
            · refine awp_region_draw cx mixed [] fun K hK => ?_
              simp [push_cast, hX, hY, e0, hi1, hi2, hlti]
              repeat (refine And.intro (by clear hK; intros; first | omega | (simp_all; done) | (simp_all <;> omega)) ?_)
              refine hK _ _ (by kernel_rfl) ?_; clear hK K; refine Nav.imp ?_
              refine awp_region cx [] fun K hK => ?_
              simp [push_cast, e0]
              repeat (refine And.intro (by clear hK; intros; first | omega | (simp_all; done) | (simp_all <;> omega)) ?_)
              refine hK _ ?_; clear hK K; refine Nav.imp ?_
              refine ⟨(i + 1, [⟨X, Y⟩]), hn, by simp only; omega, ?_⟩
              refine weak_of [(0, some 63)] rfl (by simp [upT, up, upL, push_cast, Run.row]) (by simp [upH, upR, upL, up, push_cast, Run.row]) (by simp [namesOk, push_cast]) (by simp [olds])
          · rw [List.concat_eq_append] at *
            have hz : (o ++ [q])[o.length]? = some q := by simp
            have hlen : (o ++ [q]).length = o.length + 1 := by simp
            obtain ⟨qa, qb⟩ := q
            have hset : (dr ((o ++ [(⟨qa, qb⟩ : Run)]).map Run.row)).set o.length [.d (.int .i64 qa), .d (.int .i64 Y)] = dr ((o ++ [(⟨qa, Y⟩ : Run)]).map Run.row) := by
              simp [dr, List.map_set, Run.row]
            have hjoin := fun h => @comb_join f a b X Y o ⟨qa, qb⟩ hcm hg hlt2 hv h
            have happ := fun h => @comb_app f a b X Y (o ++ [⟨qa, qb⟩]) hcm hg hlt2 hv h
            simp only at hjoin
            have e1 := wrap_i64 (n := ((o.length + 1 : Nat) : Int) - 1) (by omega) (by omega)
            have e2 : (((o.length + 1 : Nat) : Int) - 1) = o.length := by omega
            rw [e2] at e1
            have e3 : (0 : Int) < (o.length : Int) + 1 := by omega
            have hjl : (o ++ [(⟨qa, Y⟩ : Run)]).length = o.length + 1 := by simp
            generalize hJ : o ++ [(⟨qa, Y⟩ : Run)] = J at *
            generalize hA : o ++ [(⟨qa, qb⟩ : Run)] = A at *
            rw [hlen]
            refine awp_region_draw cx mixed [] fun K hK => ?_
            simp [push_cast, hX, hz, hi1, e1, e2, e3, Run.row]
            repeat (refine And.intro (by clear hK; intros; first | omega | (simp_all; done) | (simp_all <;> omega)) ?_)
            refine hK _ _ (by kernel_rfl) ?_; clear hK K; refine Nav.imp ?_
            refine awp_cond (b := qb == X) (by simp [push_cast, e3]) (fun hb => ?_) (fun hb => ?_) <;> (refine Nav.imp ?_)
            · have hq : qb = X := by simpa using hb
              have hn := hnext J (by omega) (hjoin hq)
              refine awp_region cx [] fun K hK => ?_
              simp [push_cast, hY, hz, e0, e1, e2, e3, hi1, hi2, hlti, Run.row, hset]
              repeat (refine And.intro (by clear hK; intros; first | omega | (simp_all; done) | (simp_all <;> omega)) ?_)
              refine hK _ ?_; clear hK K; refine Nav.imp ?_
              refine awp_region cx [] fun K hK => ?_
              simp [push_cast, e0]
              repeat (refine And.intro (by clear hK; intros; first | omega | (simp_all; done) | (simp_all <;> omega)) ?_)
              refine hK _ ?_; clear hK K; refine Nav.imp ?_
              refine ⟨(i + 1, J), hn, by simp only; omega, ?_⟩
              refine weak_of [(0, some 0)] rfl (by simp [upT, up, upL, push_cast, Run.row, hjl]) (by simp [upH, upR, upL, up, push_cast, Run.row, hjl]) (by simp [namesOk, push_cast]) (by simp [olds])
            · have hq : ¬ qb = X := by simpa using hb
              have hn := hnext (A ++ [⟨X, Y⟩]) (by simp; omega) (happ (by
                intro r hr
                rw [hlen, Nat.add_sub_cancel, hz] at hr
                cases hr; exact hq))
              rw [← hlen]
              refine awp_region_draw cx mixed [] fun K hK => ?_
              simp [push_cast, hX, hY, e0, hi1, hi2, hlti, hO16]
              repeat (refine And.intro (by clear hK; intros; first | omega | (simp_all; done) | (simp_all <;> omega)) ?_)
              refine hK _ _ (by kernel_rfl) ?_; clear hK K; refine Nav.imp ?_
              refine awp_region cx [] fun K hK => ?_
              simp [push_cast, e0]
              repeat (refine And.intro (by clear hK; intros; first | omega | (simp_all; done) | (simp_all <;> omega)) ?_)
              refine hK _ ?_; clear hK K; refine Nav.imp ?_
              refine ⟨(i + 1, A ++ [⟨X, Y⟩]), hn, by simp only; omega, ?_⟩
              refine weak_of [(0, some 63)] rfl (by simp [upT, up, upL, push_cast, Run.row]) (by simp [upH, upR, upL, up, push_cast, Run.row]) (by simp [namesOk, push_cast]) (by simp [olds])
    · have hge : L.length ≤ i + 1 := by simp at hb; omega
      have hres : out = res := by
        rcases Nat.eq_zero_or_pos L.length with h | h
        · rw [ho0 h, hnil h]
        · obtain ⟨X, hX⟩ : ∃ X, L[i]? = some X := getq (hi h)
          exact hend i X out (by have := hi h; omega) hX (hat X hX)
      subst hres
      refine awp_region cx [] fun K hK => ?_
      simp [push_cast]
      repeat (refine And.intro (by clear hK; intros; first | omega | (simp_all; done) | (simp_all <;> omega)) ?_)
      refine hK _ ?_; clear hK K; refine Nav.imp ?_
      have ht : List.take out.length (out.map Run.row) = out.map Run.row := List.take_of_length_le (by simp)
      simp [push_cast, ht]
end Go.Proofs.YtknelhiejjdioaaGreat
