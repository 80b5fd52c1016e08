/-
  Texts of this seat put together: N3, N4, L0, B7, X8, V1, C1, F1.
-/
import Derived.Test.YtknelhiejjdioaaI9
import Derived.Test.YtknelhiejjdioaaI6
import Derived.Test.YtknelhiejjdioaaJ4
import Derived.Test.YtknelhiejjdioaaJ3
import Derived.Test.YtknelhiejjdioaaJ5
import Derived.Test.YtknelhiejjdioaaChecked
set_option linter.unusedVariables false
set_option linter.unusedSimpArgs false
set_option maxRecDepth 100000
namespace Go.Proofs.Ytknelhiejjdioaa
open Go.Abs

/-! The reference: cells that are not near. -/
def hitRun (k x : Int) (r : Run) : Bool := decide (r.a ≤ x + k) && decide (x - k < r.b)
def hitRow (k : Int) (c : Cell) (w : Row) : Bool := decide (c.y - k ≤ w.y) && decide (w.y ≤ c.y + k) && w.runs.any (hitRun k c.x)
def nearB (R : List Row) (c : Cell) (k : Int) : Bool := R.any (hitRow k c)
theorem nearB_iff {R : List Row} {c : Cell} {K : Nat} : nearB R c K = true ↔ nearP R K c.y c.x := by
  unfold nearB nearP
  rw [List.any_eq_true]
  refine exists_congr fun w => and_congr_right fun _ => ?_
  simp only [hitRow, Bool.and_eq_true, decide_eq_true_eq, List.any_eq_true, hitRun]
  constructor
  · rintro ⟨⟨h1, h2⟩, r, hr, h3, h4⟩; exact ⟨by omega, by omega, r, hr, by omega, by omega⟩
  · rintro ⟨h1, h2, r, hr, h3, h4⟩; exact ⟨⟨by omega, by omega⟩, r, hr, by omega, by omega⟩
theorem any_take {α : Type} {p : α → Bool} {l : List α} {k : Nat} {x : α} (h : l[k]? = some x) : (l.take (k + 1)).any p = ((l.take k).any p || p x) := by rw [take_get h]; simp


theorem filter_take {α : Type} {p : α → Bool} {l : List α} {k : Nat} {x : α} (h : l[k]? = some x) : (l.take (k + 1)).filter p = (l.take k).filter p ++ (if p x then [x] else []) := by
  rw [take_get h, List.filter_append]
  congr 1
  cases hx : p x <;> simp [hx]
/-- The cells of a valid region, in order: the region of them is that region. -/
theorem ofR_cells {R : List Row} (hv : validR R = true) {l : List Cell} (hp : l.Pairwise ltY) (hm : ∀ c, c ∈ l ↔ c ∈ regCells R) : ofR l = R := by
  have e : l = regCells R := ltY_uniq hp (cells_pw hv) hm
  subst e
  unfold ofR
  rw [if_pos (List.all_eq_true.2 fun c hc => cells_on hv hc), sortY_cells hv (List.Perm.refl _), build_cells hv]
theorem ofE_cells {R : List Row} (hv : validR R = true) {l : List Cell} (hm : ∀ c ∈ l, c ∈ regCells R) : ofE l = 0 := by
  unfold ofE
  rw [if_pos (List.all_eq_true.2 fun c hc => cells_on hv (hm c hc))]
theorem miss_ref {S M : List Row} {k : Int} (h : missB S M k = true) : ofR ((regCells S).filter fun c => !nearB M c k) = missR S M k := by
  obtain ⟨h1, h2⟩ := miss_facts h
  simp only [missB, Bool.and_eq_true, decide_eq_true_eq] at h
  obtain ⟨⟨⟨v1, v2⟩, k1⟩, k2⟩ := h
  obtain ⟨K, rfl⟩ : ∃ K : Nat, k = K := ⟨k.toNat, by omega⟩
  refine ofR_cells h1 ((cells_pw v1).filter _) fun c => ?_
  rw [h2, List.mem_filter, Int.toNat_natCast, ← nearB_iff]
  simp

end Go.Proofs.Ytknelhiejjdioaa

set_option linter.unusedVariables false
set_option linter.unusedSimpArgs false
set_option maxRecDepth 100000
namespace Go.Proofs.Ytknelhiejjdioaa
open Go.Abs

/-! What is too large to be examined. -/
def lensW (R : List Row) (i : Nat) : Int := (R.take i).foldl (fun n w => IntKind.i64.wrap (n + (w.runs.length : Int))) 0
theorem lensW_succ {R : List Row} {i : Nat} {w : Row} (h : R[i]? = some w) : lensW R (i + 1) = IntKind.i64.wrap (lensW R i + (w.runs.length : Int)) := by simp [lensW, take_get h]
def heavyB (R : List Row) : Bool := decide (200 < R.length) || decide (400 < lensW R (min R.length 300)) || decide (1000 < countR R)
theorem heavy_facts {R : List Row} (h : heavyB R = false) : R.length ≤ 200 ∧ (validR R = true → (regCells R).length ≤ 1000) := by
  simp only [heavyB, Bool.or_eq_false_iff, decide_eq_false_iff_not] at h
  refine ⟨by omega, fun hv => ?_⟩
  have := h.2
  unfold countR at this
  rw [if_pos hv] at this
  omega


set_option maxHeartbeats 2000000 in
theorem heavy30_ok (R : List Row) (hR : bigR R) : PC Try.prog 7 [.agg (regRow R)] (.p (.bool (heavyB R))) := by
  have c1 := rcount_big R hR fun h => small_valid h
  have hl := hR.1
  refine pc_of_awp cx (fn := Try.f7) (c := _) Try.func7 rfl rfl (Nat.le_of_ble_eq_true rfl) ?_
  rw [Try.ntmps7]; refine Nav.imp ?_
  refine awp_region cx [] fun K hK => ?_
  simp [push_cast]
  repeat (refine And.intro (by clear hK; intros; first | omega | (simp_all; done) | (simp_all <;> omega)) ?_)
  refine hK _ ?_; clear hK K; refine Nav.imp ?_
  refine awp_region cx [] fun K hK => ?_
  simp [push_cast]
  repeat (refine And.intro (by clear hK; intros; first | omega | (simp_all; done) | (simp_all <;> omega)) ?_)
  refine hK _ ?_; clear hK K; refine Nav.imp ?_
  refine awp_region cx [] fun K hK => ?_
  simp [push_cast]
  repeat (refine And.intro (by clear hK; intros; first | omega | (simp_all; done) | (simp_all <;> omega)) ?_)
  refine hK _ ?_; clear hK K; refine Nav.imp ?_
  refine awp_loop (β := Nat) (fun i => ⟨38, [(1, .ptr 0 0 0), (3, .d (.int .i64 (lensW R i))), (4, .d (.int .i64 i))], [(0, some ⟨24, 1, [(regRow R).map .d]⟩)], 1⟩) (fun i => i ≤ min R.length 300) (fun i => min R.length 300 - i) 0 ?_ (Nat.zero_le _) ?_
  · refine weak_of [(0, some 0)] rfl (by simp [upT, up, upL, push_cast, lensW]) (by simp [upH, upR, upL, up, push_cast, lensW]) (by simp [namesOk, push_cast]) (by simp [olds])
  · intro i hi
    replace hi : i ≤ min R.length 300 := hi
    refine Nav.imp ?_
    by_cases hlt : i < min R.length 300
    · obtain ⟨w, hw⟩ := getq (l := R) (k := i) (by omega)
      have e0 := wrap_i64 (n := (i : Int) + 1) (by omega) (by omega)
      have q1 : i < R.length := by omega
      have q2 : (i : Int) < 300 := by omega
      have hs := lensW_succ hw
      generalize hd : lensW R (i + 1) = n' at *
      generalize hn : lensW R i = n0 at *
      rw [eq_comm] at hs
      refine awp_region cx [] fun K hK => ?_
      simp [push_cast, q1, q2]
      repeat (refine And.intro (by clear hK; intros; first | omega | (simp_all; done) | (simp_all <;> omega)) ?_)
      refine hK _ ?_; clear hK K; refine Nav.imp ?_
      refine awp_cond (b := true) (by simp [push_cast, q1, q2]) (fun hb => ?_) (fun hb => ?_) <;> (refine Nav.imp ?_)
      · refine awp_region cx [] fun K hK => ?_
        simp [push_cast, hw, Row.row, hs]
        repeat (refine And.intro (by clear hK; intros; first | omega | (simp_all; done) | (simp_all <;> omega)) ?_)
        refine hK _ ?_; clear hK K; refine Nav.imp ?_
        refine awp_region cx [] fun K hK => ?_
        simp [push_cast, e0]
        repeat (refine And.intro (by clear hK; intros; first | omega | (simp_all; done) | (simp_all <;> omega)) ?_)
        refine hK _ ?_; clear hK K; refine Nav.imp ?_
        refine ⟨i + 1, by show i + 1 ≤ _; omega, by show _ - (i + 1) < _ - i; omega, ?_⟩
        refine weak_of [(0, some 0)] rfl (by simp [upT, up, upL, push_cast, hs, hd]) (by simp [upH, upR, upL, up, push_cast, hs, hd]) (by simp [namesOk, push_cast]) (by simp [olds])
      · simp at hb
    · have hie : i = min R.length 300 := by omega
      subst hie
      apply cut_
      · intro key
        by_cases hq : min R.length 300 < R.length
        · have q2 : (300 : Int) ≤ ((min R.length 300 : Nat) : Int) := by omega
          refine awp_region cx [] fun K hK => ?_
          simp [push_cast, hq, q2]
          repeat (refine And.intro (by clear hK; intros; first | omega | (simp_all; done) | (simp_all <;> omega)) ?_)
          refine hK _ ?_; clear hK K; refine Nav.imp ?_
          refine awp_cond (b := false) (by simp [push_cast, hq, q2]) (fun hb => ?_) (fun hb => ?_) <;> (refine Nav.imp ?_)
          · simp at hb
          · refine awp_weak (s' := ⟨38, [(1, .ptr 0 0 0), (3, .d (.int .i64 (lensW R (min R.length 300))))], [(0, some ⟨24, 1, [(regRow R).map .d]⟩)], 1⟩) ?_ key.h
            refine weak_of [(0, some 0)] rfl (by simp [upT, up, upL, push_cast]) (by simp [upH, upR, upL, up, push_cast]) (by simp [namesOk, push_cast]) (by simp [olds])
        · refine awp_region cx [] fun K hK => ?_
          simp [push_cast, hq]
          repeat (refine And.intro (by clear hK; intros; first | omega | (simp_all; done) | (simp_all <;> omega)) ?_)
          refine hK _ ?_; clear hK K; refine Nav.imp ?_
          refine awp_cond (b := false) (by simp [push_cast, hq]) (fun hb => ?_) (fun hb => ?_) <;> (refine Nav.imp ?_)
          · simp at hb
          · refine awp_weak (s' := ⟨38, [(1, .ptr 0 0 0), (3, .d (.int .i64 (lensW R (min R.length 300))))], [(0, some ⟨24, 1, [(regRow R).map .d]⟩)], 1⟩) ?_ key.h
            refine weak_of [(0, some 0)] rfl (by simp [upT, up, upL, push_cast]) (by simp [upH, upR, upL, up, push_cast]) (by simp [namesOk, push_cast]) (by simp [olds])
      · refine Nav.imp ?_
        by_cases h1 : 200 < R.length
        · have e1 : (200 : Int) < (R.length : Int) := by omega
          refine awp_region cx [(10, .skip)] fun K hK => ?_
          simp [push_cast, e1, h1]
          repeat (refine And.intro (by clear hK; intros; first | omega | (simp_all; done) | (simp_all <;> omega)) ?_)
          refine hK _ ?_; clear hK K; refine Nav.imp ?_
          simp [push_cast, heavyB, h1]
        · by_cases h2 : 400 < lensW R (min R.length 300)
          · have e1 : ¬ (200 : Int) < (R.length : Int) := by omega
            refine awp_region cx [(10, .skip)] fun K hK => ?_
            simp [push_cast, e1, h1, h2]
            repeat (refine And.intro (by clear hK; intros; first | omega | (simp_all; done) | (simp_all <;> omega)) ?_)
            refine hK _ ?_; clear hK K; refine Nav.imp ?_
            simp [push_cast, heavyB, h1, h2]
          · have e1 : ¬ (200 : Int) < (R.length : Int) := by omega
            have e3 : decide ((1000 : Int) < ((countR R : Nat) : Int)) = decide (1000 < countR R) := by simp; omega
            refine awp_region cx [(10, .p (.int .i64 (countR R)))] fun K hK => ?_
            simp [push_cast, e1, h1, h2, c1]
            repeat (refine And.intro (by clear hK; intros; first | omega | (simp_all; done) | (simp_all <;> omega)) ?_)
            refine hK _ ?_; clear hK K; refine Nav.imp ?_
            simp [push_cast, heavyB, h1, h2, e1, e3]
end Go.Proofs.Ytknelhiejjdioaa

set_option linter.unusedVariables false
set_option linter.unusedSimpArgs false
set_option maxRecDepth 100000
namespace Go.Proofs.Ytknelhiejjdioaa
open Go.Abs

/-! What the laws are called with. -/
theorem cell_of {f : Nat} {ds : List D} (h : hasT Try.prog (f + 2) 31 ds) : ∃ c : Cell, ds = c.row := by
  obtain ⟨hl, hp⟩ := hasT_struct (n := 2) (ts := [3, 3]) Try.underlying31 (by kernel_rfl) rfl (by kernel_rfl) h
  obtain ⟨d0, r0, e0, h0, hp0⟩ := parts_one (by kernel_rfl) hp (by simp_all <;> omega)
  subst e0
  obtain ⟨d1, r1, e1, h1, hp1⟩ := parts_one (by kernel_rfl) hp0 (by simp_all <;> omega)
  subst e1
  simp only [parts] at hp1
  subst hp1
  obtain ⟨n0, e0, w0⟩ := hasT_int Try.underlying3 h0
  cases e0
  obtain ⟨n1, e1, w1⟩ := hasT_int Try.underlying3 h1
  cases e1
  exact ⟨⟨n0, n1⟩, rfl⟩
theorem cells_of {f : Nat} {d : D} (h : hasT Try.prog (f + 3) 40 [d]) : ∃ l : List Cell, d = encCells l := by
  obtain ⟨rows, he, _, hr⟩ := hasT_slice Try.underlying40 h
  cases he
  obtain ⟨l, rfl⟩ := rows_of (row := Cell.row) fun r hr' => cell_of (hr r hr')
  exact ⟨l, rfl⟩
theorem run_of {f : Nat} {ds : List D} (h : hasT Try.prog (f + 2) 51 ds) : ∃ c : Run, ds = c.row := by
  obtain ⟨hl, hp⟩ := hasT_struct (n := 2) (ts := [3, 3]) Try.underlying51 (by kernel_rfl) rfl (by kernel_rfl) h
  obtain ⟨d0, r0, e0, h0, hp0⟩ := parts_one (by kernel_rfl) hp (by simp_all <;> omega)
  subst e0
  obtain ⟨d1, r1, e1, h1, hp1⟩ := parts_one (by kernel_rfl) hp0 (by simp_all <;> omega)
  subst e1
  simp only [parts] at hp1
  subst hp1
  obtain ⟨n0, e0, w0⟩ := hasT_int Try.underlying3 h0
  cases e0
  obtain ⟨n1, e1, w1⟩ := hasT_int Try.underlying3 h1
  cases e1
  exact ⟨⟨n0, n1⟩, rfl⟩
theorem runs_of {f : Nat} {d : D} (h : hasT Try.prog (f + 3) 46 [d]) : ∃ l : List Run, d = encRuns l := by
  obtain ⟨rows, he, _, hr⟩ := hasT_slice Try.underlying46 h
  cases he
  obtain ⟨l, rfl⟩ := rows_of (row := Run.row) fun r hr' => run_of (hr r hr')
  exact ⟨l, rfl⟩
theorem regrows_of {f : Nat} {d : D} (h : hasT Try.prog (f + 5) 22 [d]) : ∃ l : List Row, d = encRows l := by
  obtain ⟨rows, he, _, hr⟩ := hasT_slice Try.underlying22 h
  cases he
  obtain ⟨l, rfl⟩ := rows_of (row := Row.row) fun r hr' => by
    obtain ⟨hl, hp⟩ := hasT_struct (n := 2) (ts := [3, 46]) Try.underlying48 (by kernel_rfl) rfl (by kernel_rfl) (hr r hr')
    obtain ⟨d0, r0, e0, h0, hp0⟩ := parts_one (by kernel_rfl) hp (by simp_all <;> omega)
    subst e0
    obtain ⟨d1, r1, e1, h1, hp1⟩ := parts_one (by kernel_rfl) hp0 (by simp_all <;> omega)
    subst e1
    simp only [parts] at hp1
    subst hp1
    obtain ⟨n0, e0, w0⟩ := hasT_int Try.underlying3 h0
    cases e0
    obtain ⟨c, rfl⟩ := runs_of h1
    exact ⟨⟨n0, c⟩, rfl⟩
  exact ⟨l, rfl⟩
theorem region_of {f : Nat} {ds : List D} (h : hasT Try.prog (f + 6) 24 ds) : ∃ l : List Row, ds = regRow l := by
  obtain ⟨hl, hp⟩ := hasT_struct (n := 1) (ts := [22]) Try.underlying24 (by kernel_rfl) rfl (by kernel_rfl) h
  obtain ⟨d0, r0, e0, h0, hp0⟩ := parts_one (by kernel_rfl) hp (by simp_all <;> omega)
  subst e0
  simp only [parts] at hp0
  subst hp0
  obtain ⟨c, rfl⟩ := regrows_of h0
  exact ⟨c, rfl⟩

theorem arg_region {x : D} (h : hasV Try.prog 24 x) : ∃ R : List Row, x = .agg (regRow R) := by
  simp only [hasV, Try.underlying24] at h
  obtain ⟨cs, rfl, h⟩ := h
  obtain ⟨s, rfl⟩ := region_of (f := 24) h
  exact ⟨s, rfl⟩
theorem arg_cells {x : D} (h : hasV Try.prog 40 x) : ∃ l : List Cell, x = encCells l := by
  simp only [hasV, Try.underlying40] at h
  exact cells_of (f := 27) h
theorem arg_cell {x : D} (h : hasV Try.prog 31 x) : ∃ c : Cell, x = .agg c.row := by
  simp only [hasV, Try.underlying31] at h
  obtain ⟨cs, rfl, h⟩ := h
  obtain ⟨s, rfl⟩ := cell_of (f := 28) h
  exact ⟨s, rfl⟩
theorem arg_int {x : D} (h : hasV Try.prog 3 x) : ∃ n : Int, x = .int .i64 n := by
  obtain ⟨n, rfl, _⟩ := hasV_int Try.underlying3 h
  exact ⟨n, rfl⟩

theorem own : ownKnob Try.prog.godebug = none := by kernel_rfl
theorem laidOut : laidOutB Try.prog = true := by kernel_rfl
def zeroCell : Value := .agg #[.int .i64 0, .int .i64 0]
def zeroReg : Value := .agg #[.slice none 0 0]
end Go.Proofs.Ytknelhiejjdioaa

set_option linter.unusedVariables false
set_option linter.unusedSimpArgs false
set_option maxRecDepth 100000
namespace Go.Proofs.Ytknelhiejjdioaa
open Go.Abs Go.ChangeShapes Go.WideShapes Go.ChangeAt Go.RowKit

theorem big_rows {f : Nat} {d : D} (h : hasT Try.prog (f + 5) 22 [d]) : ∃ l : List Row, d = encRows l ∧ bigR l := by
  obtain ⟨rows, e, hlen, hr⟩ := hasT_slice Try.underlying22 h
  have hrow : ∀ r ∈ rows, ∃ w : Row, r = w.row ∧ w.runs.length ≤ 9223372036854775807 := fun r hr' => by
    obtain ⟨hl, hp⟩ := hasT_struct (n := 2) (ts := [3, 46]) Try.underlying48 (by kernel_rfl) (by kernel_rfl) (by kernel_rfl) (hr r hr')
    obtain ⟨d0, r0, e0, h0, hp0⟩ := parts_one (by kernel_rfl) hp (by omega)
    subst e0
    obtain ⟨d1, r1, e1, h1, hp1⟩ := parts_one (by kernel_rfl) hp0 (by simp at hl ⊢; omega)
    subst e1
    simp only [parts] at hp1
    subst hp1
    obtain ⟨n, en, _⟩ := hasT_int Try.underlying3 h0
    cases en
    obtain ⟨rr, er, hrl, hrr⟩ := hasT_slice Try.underlying46 h1
    cases er
    obtain ⟨l, rfl⟩ := rows_of (row := Run.row) fun x hx => run_of (f := f) (hrr x hx)
    exact ⟨⟨n, l⟩, rfl, by simpa [maxLen] using hrl⟩
  have key : ∀ rows : List (List D), (∀ r ∈ rows, ∃ w : Row, r = w.row ∧ w.runs.length ≤ 9223372036854775807) → ∃ l : List Row, rows = l.map Row.row ∧ ∀ w ∈ l, w.runs.length ≤ 9223372036854775807 := by
    intro rows
    induction rows with
    | nil => intro _; exact ⟨[], rfl, by simp⟩
    | cons r rows ih =>
      intro h
      obtain ⟨w, hw, hwl⟩ := h r (by simp)
      obtain ⟨l, hl, hll⟩ := ih fun x hx => h x (by simp [hx])
      exact ⟨w :: l, by rw [hw, hl]; rfl, fun v hv => by rcases List.mem_cons.1 hv with rfl | hv; exact hwl; exact hll v hv⟩
  obtain ⟨l, rfl, hl⟩ := key rows hrow
  cases e
  exact ⟨l, rfl, by simpa [maxLen] using hlen, hl⟩
theorem big_region {f : Nat} {ds : List D} (h : hasT Try.prog (f + 6) 24 ds) : ∃ l : List Row, ds = regRow l ∧ bigR l := by
  obtain ⟨hl, hp⟩ := hasT_struct (n := 1) (ts := [22]) Try.underlying24 (by kernel_rfl) (by kernel_rfl) (by kernel_rfl) h
  obtain ⟨d0, r0, e0, h0, hp0⟩ := parts_one (by kernel_rfl) hp (by omega)
  subst e0
  simp only [parts] at hp0
  subst hp0
  obtain ⟨l, rfl, hb⟩ := big_rows (f := f) h0
  exact ⟨l, rfl, hb⟩
theorem arg_regionB {x : D} (h : hasV Try.prog 24 x) : ∃ R : {R : List Row // bigR R}, x = .agg (regRow R.1) := by
  unfold hasV at h
  rw [Try.underlying24] at h
  obtain ⟨cs, rfl, h⟩ := h
  obtain ⟨l, rfl, hb⟩ := big_region (f := 24) h
  exact ⟨⟨l, hb⟩, rfl⟩

def oneRow (a b : Int) : List Row := [⟨0, [⟨a, b⟩]⟩]
theorem row30_ok (a b : Int) : PC Try.prog 29 [.int .i64 a, .int .i64 b] (.p (.agg (regRow (oneRow a b)))) := by
  refine pc_of_awp cx (fn := Try.f29) (c := _) Try.func29 rfl rfl (Nat.le_of_ble_eq_true rfl) ?_
  rw [Try.ntmps29]; refine Nav.imp ?_
  refine awp_region cx [] fun K hK => ?_
  simp [push_cast]
  repeat (refine And.intro (by clear hK; intros; first | omega | (simp_all; done) | (simp_all <;> omega)) ?_)
  refine hK _ ?_; clear hK K; refine Nav.imp ?_
  refine awp_region cx [(3, .f (.sl [[.int .i64 a, .int .i64 b]])), (5, .f (.sl [[.int .i64 0, .sl [[.int .i64 a, .int .i64 b]]]]))] fun K hK => ?_
  simp [push_cast]
  repeat (refine And.intro (by clear hK; intros; first | omega | (simp_all; done) | (simp_all <;> omega)) ?_)
  refine hK _ ?_; clear hK K; refine Nav.imp ?_
  simp [push_cast, oneRow, Row.row, Run.row]

def ends0 : List Row := [⟨0, [⟨0, 1⟩, ⟨4, 5⟩]⟩]
def t05 : List Row := [⟨0, [⟨0, 1⟩]⟩, ⟨1, [⟨0, 1⟩]⟩, ⟨2, [⟨0, 1⟩]⟩, ⟨3, [⟨0, 1⟩]⟩, ⟨4, [⟨0, 1⟩]⟩]
def tEnds : List Row := [⟨0, [⟨0, 1⟩]⟩, ⟨4, [⟨0, 1⟩]⟩]
theorem aw_turn {R T : List Row} (hR : validR R = true) (hT : validR T = true) (h : ∀ c : Cell, c ∈ regCells T ↔ xc c ∈ regCells R) : turnR R = T :=
  region_uniq (turn_facts hR).1 hT fun c => by rw [(turn_facts hR).2.1, h]
theorem aw_t05 : turnR (oneRow 0 5) = t05 := aw_turn (by decide +kernel) (by decide +kernel) fun c => by
  obtain ⟨x, y⟩ := c
  rw [mem_regCells, mem_regCells]
  simp [t05, oneRow, xc]
  omega
theorem aw_tE : turnR ends0 = tEnds := aw_turn (by decide +kernel) (by decide +kernel) fun c => by
  obtain ⟨x, y⟩ := c
  rw [mem_regCells, mem_regCells]
  simp [tEnds, ends0, xc]
  omega
theorem aw_t01 : turnR (oneRow 0 1) = oneRow 0 1 := aw_turn (by decide +kernel) (by decide +kernel) fun c => by
  obtain ⟨x, y⟩ := c
  rw [mem_regCells, mem_regCells]
  simp [oneRow, xc]
  omega
theorem on_rows {f : Bool → Bool → Bool} (hf : f false false = false) {a b : List Row} {ys : List Int} {T : List Row} (ha : validR a = true) (hb : validR b = true) (hp : ys.Pairwise (· < ·)) (hys : ∀ w, w ∈ a ∨ w ∈ b → w.y ∈ ys) (h : opOn f a b ys = T) : opR f a b = T := by
  rw [← opR_on hf ha hb hp hys, h]
theorem aw_d1 : opR fD (oneRow 0 5) ends0 = oneRow 1 4 := on_rows (ys := [0]) rfl (by decide +kernel) (by decide +kernel) (by decide) (fun w hw => by simp [oneRow, ends0] at hw; rcases hw with rfl | rfl <;> simp) (by decide +kernel)
theorem aw_i1 : opR fI (oneRow 0 5) ends0 = ends0 := on_rows (ys := [0]) rfl (by decide +kernel) (by decide +kernel) (by decide) (fun w hw => by simp [oneRow, ends0] at hw; rcases hw with rfl | rfl <;> simp) (by decide +kernel)
theorem aw_d2 : opR fD (oneRow 0 5) (oneRow 0 1) = oneRow 1 5 := on_rows (ys := [0]) rfl (by decide +kernel) (by decide +kernel) (by decide) (fun w hw => by simp [oneRow] at hw; rcases hw with rfl | rfl <;> simp) (by decide +kernel)
theorem aw_i2 : opR fI (oneRow 0 5) (oneRow 0 1) = oneRow 0 1 := on_rows (ys := [0]) rfl (by decide +kernel) (by decide +kernel) (by decide) (fun w hw => by simp [oneRow] at hw; rcases hw with rfl | rfl <;> simp) (by decide +kernel)
theorem aw_s1 : spansL (oneRow 0 5) ends0 = [[⟨1, 0⟩, ⟨2, 0⟩, ⟨3, 0⟩]] := by
  unfold spansL
  rw [aw_d1, aw_i1]
  decide +kernel
theorem aw_s2 : spansL (oneRow 0 5) (oneRow 0 1) = [] := by
  unfold spansL
  rw [aw_d2, aw_i2]
  decide +kernel
theorem aw_ys {w : Row} (hw : w ∈ t05 ∨ w ∈ tEnds ∨ w ∈ oneRow 0 1) : w.y ∈ ([0, 1, 2, 3, 4] : List Int) := by
  simp [t05, tEnds, oneRow] at hw
  rcases hw with (rfl | rfl | rfl | rfl | rfl) | (rfl | rfl) | rfl <;> simp
theorem aw_s3 : spansL t05 tEnds = [] := by
  unfold spansL
  rw [on_rows (T := [⟨1, [⟨0, 1⟩]⟩, ⟨2, [⟨0, 1⟩]⟩, ⟨3, [⟨0, 1⟩]⟩]) (ys := [0, 1, 2, 3, 4]) (f := fD) rfl (by decide +kernel) (by decide +kernel) (by decide) (fun w hw => aw_ys (hw.imp id .inl)) (by decide +kernel),
    on_rows (T := tEnds) (ys := [0, 1, 2, 3, 4]) (f := fI) rfl (by decide +kernel) (by decide +kernel) (by decide) (fun w hw => aw_ys (hw.imp id .inl)) (by decide +kernel)]
  decide +kernel
theorem aw_s4 : spansL t05 (oneRow 0 1) = [] := by
  unfold spansL
  rw [on_rows (T := [⟨1, [⟨0, 1⟩]⟩, ⟨2, [⟨0, 1⟩]⟩, ⟨3, [⟨0, 1⟩]⟩, ⟨4, [⟨0, 1⟩]⟩]) (ys := [0, 1, 2, 3, 4]) (f := fD) rfl (by decide +kernel) (by decide +kernel) (by decide) (fun w hw => aw_ys (hw.imp id .inr)) (by decide +kernel),
    on_rows (T := oneRow 0 1) (ys := [0, 1, 2, 3, 4]) (f := fI) rfl (by decide +kernel) (by decide +kernel) (by decide) (fun w hw => aw_ys (hw.imp id .inr)) (by decide +kernel)]
  decide +kernel
theorem aw_u : spansU (oneRow 0 5) ends0 true = [] ∧ spansU (oneRow 0 5) (oneRow 0 1) true = [] := by
  constructor
  · show (spansL (turnR (oneRow 0 5)) (turnR ends0)).map (·.map xc) = []
    rw [aw_t05, aw_tE, aw_s3]; rfl
  · show (spansL (turnR (oneRow 0 5)) (turnR (oneRow 0 1))).map (·.map xc) = []
    rw [aw_t05, aw_t01, aw_s4]; rfl
theorem aw_r : spansU (oneRow 0 5) ends0 false = [[⟨1, 0⟩, ⟨2, 0⟩, ⟨3, 0⟩]] ∧ spansU (oneRow 0 5) (oneRow 0 1) false = [] := ⟨aw_s1, aw_s2⟩
theorem aw_c1 : coverR [[⟨1, 0⟩, ⟨2, 0⟩, ⟨3, 0⟩]] = oneRow 1 4 := by
  have hv : validR (oneRow 1 4) = true := by decide +kernel
  have e : ([[⟨1, 0⟩, ⟨2, 0⟩, ⟨3, 0⟩]] : List (List Cell)).flatten = regCells (oneRow 1 4) := by decide +kernel
  unfold coverR
  rw [e]
  exact ofR_cells hv (cells_pw hv) fun c => Iff.rfl
theorem aw_c0 : coverR [] = [] := by
  have hv : validR [] = true := rfl
  exact ofR_cells (l := []) hv (by simp) fun c => by simp [regCells]
theorem aw_m : moreUp (oneRow 0 5) ends0 = false ∧ moreUp (oneRow 0 5) (oneRow 0 1) = false := by
  unfold moreUp
  rw [aw_u.1, aw_u.2, aw_r.1, aw_r.2, aw_c1, aw_c0]
  decide +kernel
theorem aw_b1 : brL (oneRow 0 5) ends0 = [[⟨1, 0⟩, ⟨2, 0⟩, ⟨3, 0⟩]] ∧ brRest (oneRow 0 5) ends0 = [] := by
  have h : brL (oneRow 0 5) ends0 = [[⟨1, 0⟩, ⟨2, 0⟩, ⟨3, 0⟩]] := by
    unfold brL
    rw [if_pos (by decide +kernel), aw_m.1, aw_r.1]
  refine ⟨h, ?_⟩
  unfold brRest
  rw [if_pos (by decide +kernel), h, aw_c1, aw_d1]
  exact on_rows (ys := [0]) rfl (by decide +kernel) (by decide +kernel) (by decide) (fun w hw => by simp [oneRow] at hw; rcases hw with rfl | rfl <;> simp) (by decide +kernel)
theorem aw_b2 : brL (oneRow 0 5) (oneRow 0 1) = [] ∧ brRest (oneRow 0 5) (oneRow 0 1) = oneRow 1 5 := by
  have h : brL (oneRow 0 5) (oneRow 0 1) = [] := by
    unfold brL
    rw [if_pos (by decide +kernel), aw_m.2, aw_r.2]
  refine ⟨h, ?_⟩
  unfold brRest
  rw [if_pos (by decide +kernel), h, aw_c0, aw_d2]
  exact on_rows (ys := [0]) rfl (by decide +kernel) (by decide +kernel) (by decide) (fun w hw => by simp [oneRow] at hw; rcases hw with rfl | hw <;> simp) (by decide +kernel)
theorem aw_a1 : anchR (oneRow 0 5) ends0 false = oneRow 1 4 := by
  unfold anchR
  rw [if_pos (by decide +kernel), aw_r.1, aw_c1]
theorem aw_a2 : anchR (oneRow 0 5) ends0 true = [] := by
  unfold anchR
  rw [if_pos (by decide +kernel), aw_u.1, aw_c0]
theorem few_one (a b : Int) (h : b - a ≤ 100) : fewC (oneRow a b) := ⟨⟨by simp [oneRow], by simp [oneRow]⟩, fun _ => by simp [oneRow, regCells, rowCells, runCells_len]; omega⟩
theorem few_ends : fewC ends0 := ⟨⟨by simp [ends0], by simp [ends0]⟩, fun _ => by decide +kernel⟩
theorem small_one (a b : Int) : smallR (oneRow a b) := ⟨by simp [oneRow], by simp [oneRow]⟩
set_option maxHeartbeats 16000000 in
theorem awake30_ok : PC Try.prog 9 [] (.p (.bool true)) := by
  have r1 := row30_ok
  have f1 := few_one 0 5 (by decide)
  have f2 := few_one 0 1 (by decide)
  have c1 := bridges_ok (oneRow 0 5) ends0 f1 few_ends
  have c2 := bridges_ok (oneRow 0 5) (oneRow 0 1) f1 f2
  rw [aw_b1.1, aw_b1.2] at c1
  rw [aw_b2.1, aw_b2.2] at c2
  have c3 := bloose_ok (oneRow 0 5) ends0 f1.1 few_ends.1
  rw [aw_d1] at c3
  have c4 := anchored_ok (oneRow 0 5) ends0 false f1 few_ends
  have c5 := anchored_ok (oneRow 0 5) ends0 true f1 few_ends
  rw [aw_a1] at c4
  rw [aw_a2] at c5
  have c6 := rsame_ok (oneRow 1 4) (oneRow 1 4) (small_one _ _)
  rw [decide_eq_true rfl] at c6
  have c7 := rcount_ok (oneRow 1 5) (small_one _ _)
  rw [show countR (oneRow 1 5) = 4 from by decide +kernel] at c7
  simp only [encTracks, List.map_cons, List.map_nil, brT, Track.row, encCells, Cell.row] at c1 c2
  have he : regRow ends0 = [.sl [[.int .i64 0, .sl [[.int .i64 0, .int .i64 1], [.int .i64 4, .int .i64 5]]]]] := rfl
  rw [he] at c1 c3 c4 c5
  refine pc_of_awp cx (fn := Try.f9) (c := _) Try.func9 rfl rfl (Nat.le_of_ble_eq_true rfl) ?_
  rw [Try.ntmps9]; refine Nav.imp ?_
  refine awp_region cx [] fun K hK => ?_
  simp [push_cast]
  repeat (refine And.intro (by clear hK; intros; first | omega | (simp_all; done) | (simp_all <;> omega)) ?_)
  refine hK _ ?_; clear hK K; refine Nav.imp ?_
  refine awp_region cx [(2, .f (.sl [[.int .i64 0, .int .i64 1], [.int .i64 4, .int .i64 5]])), (4, .f (.sl [[.int .i64 0, .sl [[.int .i64 0, .int .i64 1], [.int .i64 4, .int .i64 5]]]]))] fun K hK => ?_
  simp [push_cast]
  repeat (refine And.intro (by clear hK; intros; first | omega | (simp_all; done) | (simp_all <;> omega)) ?_)
  refine hK _ ?_; clear hK K; refine Nav.imp ?_
  refine awp_region_draw cx mixed [(0, .p (.agg (regRow (oneRow 0 5)))), (2, .p (.tup [.sl [[.int .i64 5, .bool false, .sl [[.int .i64 1, .int .i64 0], [.int .i64 2, .int .i64 0], [.int .i64 3, .int .i64 0]]]], .agg (regRow [])]))] fun K hK => ?_
  simp [push_cast, r1, c1]
  repeat (refine And.intro (by clear hK; intros; first | omega | (simp_all; done) | (simp_all <;> omega)) ?_)
  refine hK _ _ (by kernel_rfl) ?_; clear hK K; refine Nav.imp ?_
  refine awp_region cx [(0, .p (.agg (regRow (oneRow 0 5)))), (1, .p (.agg (regRow (oneRow 0 1)))), (2, .p (.tup [.sl [], .agg (regRow (oneRow 1 5))]))] fun K hK => ?_
  simp [push_cast, r1, c2]
  repeat (refine And.intro (by clear hK; intros; first | omega | (simp_all; done) | (simp_all <;> omega)) ?_)
  refine hK _ ?_; clear hK K; refine Nav.imp ?_
  refine awp_region_draw cx mixed [(0, .p (.agg (regRow (oneRow 0 5)))), (2, .p (.agg (regRow (oneRow 1 4)))), (3, .p (.agg (regRow (oneRow 1 4)))), (4, .p (.bool true)), (6, .p (.agg (regRow (oneRow 0 5)))), (8, .p (.agg (regRow (oneRow 1 4)))), (9, .p (.agg (regRow (oneRow 1 4)))), (10, .p (.bool true)), (13, .p (.agg (regRow (oneRow 0 5)))), (15, .p (.agg (regRow []))), (63, .p (.int .i64 4))] fun K hK => ?_
  simp [push_cast, r1, c3, c4, c5, c6, c7]
  repeat (refine And.intro (by clear hK; intros; first | omega | (simp_all; done) | (simp_all <;> omega)) ?_)
  refine hK _ _ (by kernel_rfl) ?_; clear hK K; refine Nav.imp ?_
  simp [push_cast]

set_option maxHeartbeats 4000000 in
theorem flip_ok (R : List Row) (hv : validR R = true) (hn : (regCells R).length ≤ 1000000) : PC Try.prog 11 [.agg (regRow R)] (.p (.agg (regRow (turnR R)))) := by
  have c1 := rcells_ok R (small_valid hv) fun _ => hn
  rw [show cellsOf R = regCells R from by unfold cellsOf; rw [if_pos hv]] at c1
  have c2 := rof_ok ((regCells R).map xc) (by rw [List.length_map]; exact hn)
  rw [show ofD ((regCells R).map xc) = .tup [.agg (regRow (turnR R)), .int .i64 (ofE ((regCells R).map xc))] from rfl, turn_err hv] at c2
  generalize turnR R = W at *
  generalize regCells R = l at *
  refine pc_of_awp cx (fn := Try.f11) (c := _) Try.func11 rfl rfl (Nat.le_of_ble_eq_true rfl) ?_
  rw [Try.ntmps11]; refine Nav.imp ?_
  refine awp_region cx [] fun K hK => ?_
  simp [push_cast]
  repeat (refine And.intro (by clear hK; intros; first | omega | (simp_all; done) | (simp_all <;> omega)) ?_)
  refine hK _ ?_; clear hK K; refine Nav.imp ?_
  refine awp_region cx [] fun K hK => ?_
  simp [push_cast]
  repeat (refine And.intro (by clear hK; intros; first | omega | (simp_all; done) | (simp_all <;> omega)) ?_)
  refine hK _ ?_; clear hK K; refine Nav.imp ?_
  refine awp_region cx [(1, .p (encCells l))] fun K hK => ?_
  simp [push_cast, c1]
  repeat (refine And.intro (by clear hK; intros; first | omega | (simp_all; done) | (simp_all <;> omega)) ?_)
  refine hK _ ?_; clear hK K; refine Nav.imp ?_
  refine awp_loop (β := Nat × List Cell) (fun s => ⟨30, [(2, .ptr 1 0 0), (3, .hs 0 0 s.2.length), (9, .d (encCells l)), (10, .d (.int .i64 l.length)), (11, .d (.int .i64 s.1))], [(0, some ⟨31, 2, dr (s.2.map Cell.row)⟩), (1, some ⟨24, 1, [[.nl]]⟩)], 2⟩) (fun s => s.1 ≤ l.length ∧ s.2 = (l.take s.1).map xc) (fun s => l.length - s.1) (0, []) ?_ ⟨Nat.zero_le _, by simp⟩ ?_
  · refine weak_of [(0, none), (1, some 1)] rfl (by simp [upT, up, upL, push_cast]) (by simp [upH, upR, upL, up, push_cast]) (by simp [namesOk, push_cast]) (by simp [olds])
  · rintro ⟨k, X⟩ ⟨hk, hX⟩
    simp only at hk hX
    have hXl : X.length = k := by rw [hX]; simp; omega
    refine Nav.imp ?_
    refine awp_region cx [] fun K hK => ?_
    simp [push_cast]
    repeat (refine And.intro (by clear hK; intros; first | omega | (simp_all; done) | (simp_all <;> omega)) ?_)
    refine hK _ ?_; clear hK K; refine Nav.imp ?_
    refine awp_cond (b := decide ((k : Int) < l.length)) (by simp [push_cast]) (fun hb => ?_) (fun hb => ?_) <;> (refine Nav.imp ?_)
    · have hlt : k < l.length := by simpa using hb
      obtain ⟨c, hc⟩ := getq hlt
      have e0 := wrap_i64 (n := (k : Int) + 1) (by omega) (by omega)
      have hX1 : (l.take (k + 1)).map xc = X ++ [xc c] := by rw [take_get hc, List.map_append, ← hX]; rfl
      have h16 : (X.length + 1) * 16 ≤ 140737488355328 := by omega
      obtain ⟨x, y⟩ := c
      refine awp_region cx [] fun K hK => ?_
      simp [push_cast, hc, Cell.row]
      repeat (refine And.intro (by clear hK; intros; first | omega | (simp_all; done) | (simp_all <;> omega)) ?_)
      refine hK _ ?_; clear hK K; refine Nav.imp ?_
      refine awp_region cx [] fun K hK => ?_
      simp [push_cast, h16, Cell.row]
      repeat (refine And.intro (by clear hK; intros; first | omega | (simp_all; done) | (simp_all <;> omega)) ?_)
      refine hK _ ?_; clear hK K; refine Nav.imp ?_
      refine awp_region cx [] fun K hK => ?_
      simp [push_cast, e0]
      repeat (refine And.intro (by clear hK; intros; first | omega | (simp_all; done) | (simp_all <;> omega)) ?_)
      refine hK _ ?_; clear hK K; refine Nav.imp ?_
      refine ⟨(k + 1, X ++ [xc ⟨x, y⟩]), ⟨hlt, hX1.symm⟩, by simp only; omega, ?_⟩
      refine weak_of [(0, some 14), (1, some 1)] rfl (by simp [upT, up, upL, push_cast, xc, Cell.row]) (by simp [upH, upR, upL, up, push_cast, xc, Cell.row]) (by simp [namesOk, push_cast]) (by simp [olds])
    · have hke : k = l.length := by simp at hb; omega
      subst hke
      rw [List.take_length] at hX
      subst hX
      generalize l.map xc = m at *
      have ht : List.take m.length (m.map Cell.row) = m.map Cell.row := List.take_of_length_le (by simp)
      refine awp_freeze 0 (m.map Cell.row) rfl (by simp [push_cast]) fun K hK => ?_
      simp [push_cast, St.fz, fzT, fzH, fzO, fz, fzL, fzR, fzR_dr, fzR_app, fzR_set, fzL_map]
      refine hK _ ?_; clear hK K; refine Nav.imp ?_
      refine awp_region cx [(1, .p (.tup [.agg (regRow W), .int .i64 0]))] fun K hK => ?_
      simp [push_cast, c2]
      repeat (refine And.intro (by clear hK; intros; first | omega | (simp_all; done) | (simp_all <;> omega)) ?_)
      refine hK _ ?_; clear hK K; refine Nav.imp ?_
      refine awp_region cx [] fun K hK => ?_
      simp [push_cast]
      repeat (refine And.intro (by clear hK; intros; first | omega | (simp_all; done) | (simp_all <;> omega)) ?_)
      refine hK _ ?_; clear hK K; refine Nav.imp ?_
      simp [push_cast]
theorem few_of {R : List Row} (hR : bigR R) (h : heavyB R = false) : fewC R := ⟨hR, fun hv => by have := (heavy_facts h).2 hv; omega⟩
theorem few_valid {R : List Row} (hv : validR R = true) (hn : (regCells R).length ≤ 1000000) : fewC R := ⟨big_of (small_valid hv), fun _ => hn⟩
end Go.Proofs.Ytknelhiejjdioaa

set_option linter.unusedVariables false
set_option linter.unusedSimpArgs false
namespace Go.Proofs.Ytknelhiejjdioaa
open Go.Abs

/-! A valid region is small. -/
theorem fine_low {l : List Run} (h : fine l = true) : ∀ (k : Nat) (r : Run), l[k]? = some r → -4096 + (k : Int) ≤ r.a
  | 0, r, hr => by have := fine_at h hr; simp; omega
  | k + 1, r, hr => by
    have hk := (List.getElem?_eq_some_iff.1 hr).1
    obtain ⟨p, hp⟩ : ∃ p, l[k]? = some p := getq (by omega)
    have h1 := fine_low h k p hp
    have h2 := fine_gap h hr hp
    have h3 := fine_at h hp
    simp; omega
theorem rows_low {R : List Row} (h : validR R = true) : ∀ (k : Nat) (w : Row), R[k]? = some w → -4096 + (k : Int) ≤ w.y
  | 0, w, hw => by have := validR_at h hw; simp; omega
  | k + 1, w, hw => by
    have hk := (List.getElem?_eq_some_iff.1 hw).1
    obtain ⟨p, hp⟩ : ∃ p, R[k]? = some p := getq (by omega)
    have h1 := rows_low h k p hp
    have h2 := validR_gap h hw hp
    simp; omega
theorem valid_small {R : List Row} (h : validR R = true) : smallR R := by
  refine ⟨?_, fun w hw => ?_⟩
  · by_cases e : R.length ≤ 8192
    · omega
    · obtain ⟨w, hw⟩ := getq (show 8192 < R.length by omega)
      have h1 := rows_low h 8192 w hw
      have h2 := validR_at h hw
      simp at h1; omega
  · have hf := (row_fine h hw).2
    by_cases e : w.runs.length ≤ 8192
    · omega
    · obtain ⟨r, hr⟩ := getq (show 8192 < w.runs.length by omega)
      have h1 := fine_low hf 8192 r hr
      have h2 := fine_at hf hr
      simp at h1; omega

/-! Regions compared. -/
theorem equalR_ok (a b : List Run) (ha : a.length ≤ 1000000) : PC Try.prog 46 [encRuns a, encRuns b] (.p (.bool (decide (a = b)))) := by
  refine pc_of_awp cx (fn := Try.f46) (c := _) Try.func46 rfl rfl (Nat.le_of_ble_eq_true rfl) ?_
  rw [Try.ntmps46]; refine Nav.imp ?_
  refine awp_region cx [] fun K hK => ?_
  simp [push_cast]
  repeat (refine And.intro (by clear hK; intros; first | omega | (simp_all; done) | (simp_all <;> omega)) ?_)
  refine hK _ ?_; clear hK K; refine Nav.imp ?_
  refine awp_region cx [] fun K hK => ?_
  simp [push_cast]
  repeat (refine And.intro (by clear hK; intros; first | omega | (simp_all; done) | (simp_all <;> omega)) ?_)
  refine hK _ ?_; clear hK K; refine Nav.imp ?_
  refine awp_cond (by simp [push_cast] <;> exact rfl) (fun hb => ?_) (fun hb => ?_) <;> (refine Nav.imp ?_)
  · simp at hb
    have hne : a ≠ b := by intro e; subst e; simp at hb
    refine awp_region cx [] fun K hK => ?_
    simp [push_cast]
    repeat (refine And.intro (by clear hK; intros; first | omega | (simp_all; done) | (simp_all <;> omega)) ?_)
    refine hK _ ?_; clear hK K; refine Nav.imp ?_
    simp [push_cast, hne]
  · have hlen : a.length = b.length := by simp at hb; omega
    clear hb
    refine awp_region cx [] fun K hK => ?_
    simp [push_cast]
    repeat (refine And.intro (by clear hK; intros; first | omega | (simp_all; done) | (simp_all <;> omega)) ?_)
    refine hK _ ?_; clear hK K; refine Nav.imp ?_
    refine awp_loop (β := Nat) (fun k => ⟨26, [(0, .d (encRuns a)), (1, .d (encRuns b)), (12, .d (.int .i64 a.length)), (13, .d (.int .i64 k))], [], 0⟩) (fun k => k ≤ a.length ∧ a.take k = b.take k) (fun k => a.length - k) 0 ?_ ⟨Nat.zero_le _, by simp⟩ ?_
    · refine weak_of [] rfl (by simp [upT, up, upL, push_cast]) (by simp [upH, upR, upL, up, push_cast]) (by simp [namesOk, push_cast]) (by simp [olds])
    · rintro k ⟨hk, hpre⟩
      refine Nav.imp ?_
      refine awp_region cx [] fun K hK => ?_
      simp [push_cast]
      repeat (refine And.intro (by clear hK; intros; first | omega | (simp_all; done) | (simp_all <;> omega)) ?_)
      refine hK _ ?_; clear hK K; refine Nav.imp ?_
      refine awp_cond (b := decide ((k : Int) < a.length)) (by simp [push_cast]) (fun hb => ?_) (fun hb => ?_) <;> (refine Nav.imp ?_)
      · have hlt : k < a.length := by simpa using hb
        obtain ⟨p, hp⟩ := getq hlt
        obtain ⟨q, hq⟩ : ∃ y, b[k]? = some y := getq (by omega)
        have e0 := wrap_i64 (n := (k : Int) + 1) (by omega) (by omega)
        have hno : p ≠ q → a ≠ b := fun h e => by
          subst e
          rw [hp] at hq
          exact h (Option.some.inj hq)
        obtain ⟨pa, pb⟩ := p
        obtain ⟨qa, qb⟩ := q
        refine awp_region cx [] fun K hK => ?_
        simp [push_cast]
        repeat (refine And.intro (by clear hK; intros; first | omega | (simp_all; done) | (simp_all <;> omega)) ?_)
        refine hK _ ?_; clear hK K; refine Nav.imp ?_
        refine awp_region_draw cx mixed [] fun K hK => ?_
        simp [push_cast, hp, hq, Run.row]
        repeat (refine And.intro (by clear hK; intros; first | omega | (simp_all; done) | (simp_all <;> omega)) ?_)
        refine hK _ _ (by kernel_rfl) ?_; clear hK K; refine Nav.imp ?_
        refine awp_cond (by simp [push_cast] <;> exact rfl) (fun hb => ?_) (fun hb => ?_) <;> (refine Nav.imp ?_)
        · have hn : a ≠ b := hno (by rintro ⟨⟩; simp at hb)
          refine awp_region cx [] fun K hK => ?_
          simp [push_cast]
          repeat (refine And.intro (by clear hK; intros; first | omega | (simp_all; done) | (simp_all <;> omega)) ?_)
          refine hK _ ?_; clear hK K; refine Nav.imp ?_
          simp [push_cast, hn]
        · simp at hb
          obtain ⟨h1, h2⟩ := hb
          subst h1 h2
          refine awp_region cx [] fun K hK => ?_
          simp [push_cast, e0]
          repeat (refine And.intro (by clear hK; intros; first | omega | (simp_all; done) | (simp_all <;> omega)) ?_)
          refine hK _ ?_; clear hK K; refine Nav.imp ?_
          refine ⟨k + 1, ⟨hlt, take_eq_step hpre hp hq rfl⟩, by omega, ?_⟩
          refine weak_of [] rfl (by simp [upT, up, upL, push_cast]) (by simp [upH, upR, upL, up, push_cast]) (by simp [namesOk, push_cast]) (by simp [olds])
      · have hge : k = a.length := by simp at hb; omega
        subst hge
        rw [List.take_length, hlen, List.take_length] at hpre
        refine awp_region cx [] fun K hK => ?_
        simp [push_cast]
        repeat (refine And.intro (by clear hK; intros; first | omega | (simp_all; done) | (simp_all <;> omega)) ?_)
        refine hK _ ?_; clear hK K; refine Nav.imp ?_
        simp [push_cast, hpre]

theorem same1_ok (v w : Row) (hv : v.runs.length ≤ 1000000) : PC Try.prog 45 [.agg v.row, .agg w.row] (.p (.bool (decide (v = w)))) := by
  have c1 := equalR_ok v.runs w.runs hv
  have hd : decide (v = w) = (decide (v.y = w.y) && decide (v.runs = w.runs)) := by cases v; cases w; rw [Bool.eq_iff_iff]; simp
  rw [hd]
  obtain ⟨vy, vr⟩ := v
  obtain ⟨wy, wr⟩ := w
  simp only at c1
  generalize decide (vr = wr) = e at *
  by_cases h : vy = wy
  · subst h
    refine pc_of_awp cx (fn := Try.f45) (c := _) Try.func45 rfl rfl (Nat.le_of_ble_eq_true rfl) ?_
    rw [Try.ntmps45]; refine Nav.imp ?_
    refine awp_region cx [] fun K hK => ?_
    simp [push_cast, Row.row]
    repeat (refine And.intro (by clear hK; intros; first | omega | (simp_all; done) | (simp_all <;> omega)) ?_)
    refine hK _ ?_; clear hK K; refine Nav.imp ?_
    refine awp_region cx [(10, .p (.bool e))] fun K hK => ?_
    simp [push_cast, c1, Row.row]
    repeat (refine And.intro (by clear hK; intros; first | omega | (simp_all; done) | (simp_all <;> omega)) ?_)
    refine hK _ ?_; clear hK K; refine Nav.imp ?_
    simp [push_cast]
  · have h' : (vy == wy) = false := by simpa using h
    refine pc_of_awp cx (fn := Try.f45) (c := _) Try.func45 rfl rfl (Nat.le_of_ble_eq_true rfl) ?_
    rw [Try.ntmps45]; refine Nav.imp ?_
    refine awp_region cx [] fun K hK => ?_
    simp [push_cast, Row.row]
    repeat (refine And.intro (by clear hK; intros; first | omega | (simp_all; done) | (simp_all <;> omega)) ?_)
    refine hK _ ?_; clear hK K; refine Nav.imp ?_
    refine awp_region cx [(10, .skip)] fun K hK => ?_
    simp [push_cast, h', Row.row]
    repeat (refine And.intro (by clear hK; intros; first | omega | (simp_all; done) | (simp_all <;> omega)) ?_)
    refine hK _ ?_; clear hK K; refine Nav.imp ?_
    simp [push_cast, h]

theorem equalF_ok (a b : List Row) (hA : smallR a) : PC Try.prog 44 [encRows a, encRows b, .fn (.func 45) []] (.p (.bool (decide (a = b)))) := by
  have ha := hA.1
  refine pc_of_awp cx (fn := Try.f44) (c := _) Try.func44 rfl rfl (Nat.le_of_ble_eq_true rfl) ?_
  rw [Try.ntmps44]; refine Nav.imp ?_
  refine awp_region cx [] fun K hK => ?_
  simp [push_cast]
  repeat (refine And.intro (by clear hK; intros; first | omega | (simp_all; done) | (simp_all <;> omega)) ?_)
  refine hK _ ?_; clear hK K; refine Nav.imp ?_
  refine awp_region cx [] fun K hK => ?_
  simp [push_cast]
  repeat (refine And.intro (by clear hK; intros; first | omega | (simp_all; done) | (simp_all <;> omega)) ?_)
  refine hK _ ?_; clear hK K; refine Nav.imp ?_
  refine awp_cond (by simp [push_cast] <;> exact rfl) (fun hb => ?_) (fun hb => ?_) <;> (refine Nav.imp ?_)
  · simp at hb
    have hne : a ≠ b := by intro e; subst e; simp at hb
    refine awp_region cx [] fun K hK => ?_
    simp [push_cast]
    repeat (refine And.intro (by clear hK; intros; first | omega | (simp_all; done) | (simp_all <;> omega)) ?_)
    refine hK _ ?_; clear hK K; refine Nav.imp ?_
    simp [push_cast, hne]
  · have hlen : a.length = b.length := by simp at hb; omega
    clear hb
    refine awp_region cx [] fun K hK => ?_
    simp [push_cast]
    repeat (refine And.intro (by clear hK; intros; first | omega | (simp_all; done) | (simp_all <;> omega)) ?_)
    refine hK _ ?_; clear hK K; refine Nav.imp ?_
    refine awp_loop (β := Nat) (fun k => ⟨32, [(1, .d (encRows b)), (2, .d (.fn (.func 45) [])), (15, .d (encRows a)), (16, .d (.int .i64 a.length)), (17, .d (.int .i64 k))], [], 0⟩) (fun k => k ≤ a.length ∧ a.take k = b.take k) (fun k => a.length - k) 0 ?_ ⟨Nat.zero_le _, by simp⟩ ?_
    · refine weak_of [] rfl (by simp [upT, up, upL, push_cast]) (by simp [upH, upR, upL, up, push_cast]) (by simp [namesOk, push_cast]) (by simp [olds])
    · rintro k ⟨hk, hpre⟩
      refine Nav.imp ?_
      refine awp_region cx [] fun K hK => ?_
      simp [push_cast]
      repeat (refine And.intro (by clear hK; intros; first | omega | (simp_all; done) | (simp_all <;> omega)) ?_)
      refine hK _ ?_; clear hK K; refine Nav.imp ?_
      refine awp_cond (b := decide ((k : Int) < a.length)) (by simp [push_cast]) (fun hb => ?_) (fun hb => ?_) <;> (refine Nav.imp ?_)
      · have hlt : k < a.length := by simpa using hb
        obtain ⟨p, hp⟩ := getq hlt
        obtain ⟨q, hq⟩ : ∃ y, b[k]? = some y := getq (by omega)
        have e0 := wrap_i64 (n := (k : Int) + 1) (by omega) (by omega)
        have c1 := same1_ok p q (hA.2 p (List.mem_of_getElem? hp))
        have hno : p ≠ q → a ≠ b := fun h e => by
          subst e
          rw [hp] at hq
          exact h (Option.some.inj hq)
        have hyes : p = q → a.take (k + 1) = b.take (k + 1) := take_eq_step hpre hp hq
        generalize he : decide (p = q) = e at c1
        obtain ⟨py, pr⟩ := p
        obtain ⟨qy, qr⟩ := q
        refine awp_region cx [] fun K hK => ?_
        simp [push_cast, hp, Row.row]
        repeat (refine And.intro (by clear hK; intros; first | omega | (simp_all; done) | (simp_all <;> omega)) ?_)
        refine hK _ ?_; clear hK K; refine Nav.imp ?_
        refine awp_region cx [] fun K hK => ?_
        simp [push_cast, hq, Row.row]
        repeat (refine And.intro (by clear hK; intros; first | omega | (simp_all; done) | (simp_all <;> omega)) ?_)
        refine hK _ ?_; clear hK K; refine Nav.imp ?_
        refine awp_region cx [(3, .p (.bool e))] fun K hK => ?_
        simp [push_cast, c1, Row.row]
        repeat (refine And.intro (by clear hK; intros; first | omega | (simp_all; done) | (simp_all <;> omega)) ?_)
        refine hK _ ?_; clear hK K; refine Nav.imp ?_
        refine awp_cond (b := !e) (by simp [push_cast]) (fun hb => ?_) (fun hb => ?_) <;> (refine Nav.imp ?_)
        · simp at hb
          rw [hb] at he
          have hn : a ≠ b := hno (by simpa using he)
          refine awp_region cx [] fun K hK => ?_
          simp [push_cast]
          repeat (refine And.intro (by clear hK; intros; first | omega | (simp_all; done) | (simp_all <;> omega)) ?_)
          refine hK _ ?_; clear hK K; refine Nav.imp ?_
          simp [push_cast, hn]
        · simp at hb
          rw [hb] at he
          refine awp_region cx [] fun K hK => ?_
          simp [push_cast, e0]
          repeat (refine And.intro (by clear hK; intros; first | omega | (simp_all; done) | (simp_all <;> omega)) ?_)
          refine hK _ ?_; clear hK K; refine Nav.imp ?_
          refine ⟨k + 1, ⟨hlt, hyes (by simpa using he)⟩, by omega, ?_⟩
          refine weak_of [] rfl (by simp [upT, up, upL, push_cast]) (by simp [upH, upR, upL, up, push_cast]) (by simp [namesOk, push_cast]) (by simp [olds])
      · have hge : k = a.length := by simp at hb; omega
        subst hge
        rw [List.take_length, hlen, List.take_length] at hpre
        refine awp_region cx [] fun K hK => ?_
        simp [push_cast]
        repeat (refine And.intro (by clear hK; intros; first | omega | (simp_all; done) | (simp_all <;> omega)) ?_)
        refine hK _ ?_; clear hK K; refine Nav.imp ?_
        simp [push_cast, hpre]

def sameB (a b : List Row) : Bool := validR a && validR b && decide (a = b)
theorem sameR_big (a b : List Row) (hA : bigR a) (hB : bigR b) : PC Try.prog 21 [.agg (regRow a), .agg (regRow b)] (.p (.bool (sameB a b))) := by
  have c1 := valid_big a hA
  have c2 := valid_big b hB
  have c3 : validR a = true → _ := fun h => equalF_ok a b (small_valid h)
  unfold sameB
  generalize validR a = v at *
  generalize validR b = w at *
  generalize decide (a = b) = e at *
  cases v with
  | false =>
    refine pc_of_awp cx (fn := Try.f21) (c := _) Try.func21 rfl rfl (Nat.le_of_ble_eq_true rfl) ?_
    rw [Try.ntmps21]; refine Nav.imp ?_
    refine awp_region cx [] fun K hK => ?_
    simp [push_cast]
    repeat (refine And.intro (by clear hK; intros; first | omega | (simp_all; done) | (simp_all <;> omega)) ?_)
    refine hK _ ?_; clear hK K; refine Nav.imp ?_
    refine awp_region cx [(1, .p (.bool false)), (4, .skip), (11, .skip)] fun K hK => ?_
    simp [push_cast, c1]
    repeat (refine And.intro (by clear hK; intros; first | omega | (simp_all; done) | (simp_all <;> omega)) ?_)
    refine hK _ ?_; clear hK K; refine Nav.imp ?_
    simp [push_cast]
  | true =>
    cases w with
    | false =>
      refine pc_of_awp cx (fn := Try.f21) (c := _) Try.func21 rfl rfl (Nat.le_of_ble_eq_true rfl) ?_
      rw [Try.ntmps21]; refine Nav.imp ?_
      refine awp_region cx [] fun K hK => ?_
      simp [push_cast]
      repeat (refine And.intro (by clear hK; intros; first | omega | (simp_all; done) | (simp_all <;> omega)) ?_)
      refine hK _ ?_; clear hK K; refine Nav.imp ?_
      refine awp_region cx [(1, .p (.bool true)), (4, .p (.bool false)), (11, .skip)] fun K hK => ?_
      simp [push_cast, c1, c2]
      repeat (refine And.intro (by clear hK; intros; first | omega | (simp_all; done) | (simp_all <;> omega)) ?_)
      refine hK _ ?_; clear hK K; refine Nav.imp ?_
      simp [push_cast]
    | true =>
      refine pc_of_awp cx (fn := Try.f21) (c := _) Try.func21 rfl rfl (Nat.le_of_ble_eq_true rfl) ?_
      rw [Try.ntmps21]; refine Nav.imp ?_
      refine awp_region cx [] fun K hK => ?_
      simp [push_cast]
      repeat (refine And.intro (by clear hK; intros; first | omega | (simp_all; done) | (simp_all <;> omega)) ?_)
      refine hK _ ?_; clear hK K; refine Nav.imp ?_
      refine awp_region cx [(1, .p (.bool true)), (4, .p (.bool true)), (11, .p (.bool e))] fun K hK => ?_
      simp [push_cast, c1, c2, c3 rfl]
      repeat (refine And.intro (by clear hK; intros; first | omega | (simp_all; done) | (simp_all <;> omega)) ?_)
      refine hK _ ?_; clear hK K; refine Nav.imp ?_
      simp [push_cast]
theorem sameR_ok (a b : List Row) (hA : smallR a) (hB : smallR b) : PC Try.prog 21 [.agg (regRow a), .agg (regRow b)] (.p (.bool (sameB a b))) := sameR_big a b (big_of hA) (big_of hB)
end Go.Proofs.Ytknelhiejjdioaa

set_option linter.unusedVariables false
set_option linter.unusedSimpArgs false
namespace Go.Proofs.Ytknelhiejjdioaa
open Go.Abs

/-! Validity of tracks. -/
def dist (a b : Cell) : Int := max (a.x - b.x) (b.x - a.x) + max (a.y - b.y) (b.y - a.y)
def nbT (a b : Cell) : Bool := dist a b == 1
theorem sq_one {x y : Int} (hx : -8192 ≤ x ∧ x ≤ 8192) (hy : -8192 ≤ y ∧ y ≤ 8192) : (x * x + y * y = 1) ↔ max x (-x) + max y (-y) = 1 := by
  have hx2 : 0 ≤ x * x := by
    rcases Int.le_total 0 x with h | h
    · exact Int.mul_nonneg h h
    · exact Int.mul_nonneg_of_nonpos_of_nonpos h h
  have hy2 : 0 ≤ y * y := by
    rcases Int.le_total 0 y with h | h
    · exact Int.mul_nonneg h h
    · exact Int.mul_nonneg_of_nonpos_of_nonpos h h
  have big : ∀ z : Int, 2 ≤ max z (-z) → 4 ≤ z * z := by
    intro z hz
    rcases Int.le_total 0 z with h | h
    · have := Int.mul_le_mul (show (2 : Int) ≤ z by omega) (show (2 : Int) ≤ z by omega) (by omega) (by omega); omega
    · have := Int.mul_le_mul (show (2 : Int) ≤ -z by omega) (show (2 : Int) ≤ -z by omega) (by omega) (by omega)
      rw [Int.neg_mul_neg] at this; omega
  have small : ∀ z : Int, max z (-z) ≤ 1 → z * z = max z (-z) := by
    intro z hz
    have : z = 0 ∨ z = 1 ∨ z = -1 := by omega
    rcases this with rfl | rfl | rfl <;> decide
  by_cases h1 : 2 ≤ max x (-x)
  · have := big x h1; constructor <;> intro <;> omega
  · by_cases h2 : 2 ≤ max y (-y)
    · have := big y h2; constructor <;> intro <;> omega
    · rw [small x (by omega), small y (by omega)]

theorem sq_bd {z : Int} (h : -8192 ≤ z ∧ z ≤ 8192) : 0 ≤ z * z ∧ z * z ≤ 67108864 := by
  rcases Int.le_total 0 z with h0 | h0
  · exact ⟨Int.mul_nonneg h0 h0, by have := Int.mul_le_mul h.2 h.2 h0 (by omega); omega⟩
  · have h1 := Int.mul_le_mul (show -z ≤ 8192 by omega) (show -z ≤ 8192 by omega) (by omega) (by omega)
    rw [Int.neg_mul_neg] at h1
    exact ⟨Int.mul_nonneg_of_nonpos_of_nonpos h0 h0, by omega⟩
theorem wraps {a b : Cell} (ha : onG a = true) (hb : onG b = true) : IntKind.i64.wrap (a.x - b.x) = a.x - b.x ∧ IntKind.i64.wrap (a.y - b.y) = a.y - b.y ∧ IntKind.i64.wrap (b.x - a.x) = b.x - a.x ∧ IntKind.i64.wrap (b.y - a.y) = b.y - a.y ∧
    -8192 ≤ a.x - b.x ∧ a.x - b.x ≤ 8192 ∧ -8192 ≤ a.y - b.y ∧ a.y - b.y ≤ 8192 := by
  have := onG_bd ha; have := onG_bd hb
  exact ⟨wrap_i64 (by omega) (by omega), wrap_i64 (by omega) (by omega), wrap_i64 (by omega) (by omega), wrap_i64 (by omega) (by omega), by omega, by omega, by omega, by omega⟩

theorem neighbors_ok {a b : Cell} (ha : onG a = true) (hb : onG b = true) : PC Try.prog 49 [.agg a.row, .agg b.row] (.p (.bool (nbT a b))) := by
  obtain ⟨w1, w2, w3, w4, b1, b2, b3, b4⟩ := wraps ha hb
  have hd : dist a b = max (a.x - b.x) (-(a.x - b.x)) + max (a.y - b.y) (-(a.y - b.y)) := by unfold dist; omega
  have s1 := sq_bd (z := a.x - b.x) (by omega)
  have s2 := sq_bd (z := a.y - b.y) (by omega)
  have s3 := sq_one (x := a.x - b.x) (y := a.y - b.y) (by omega) (by omega)
  simp only [nbT, hd]
  have e3 : (max (a.x - b.x) (-(a.x - b.x)) + max (a.y - b.y) (-(a.y - b.y)) == 1) = ((a.x - b.x) * (a.x - b.x) + (a.y - b.y) * (a.y - b.y) == 1) := by
    rw [Bool.eq_iff_iff]; simp [s3]
  rw [e3]
  clear e3 s3 hd
  generalize hn1 : a.x - b.x = n1 at *
  generalize hn2 : a.y - b.y = n2 at *
  have w6 := wrap_i64 (n := n1 * n1) (by omega) (by omega)
  have w7 := wrap_i64 (n := n2 * n2) (by omega) (by omega)
  have w8 := wrap_i64 (n := n1 * n1 + n2 * n2) (by omega) (by omega)
  refine pc_of_awp cx (fn := Try.f49) (c := _) Try.func49 rfl rfl (Nat.le_of_ble_eq_true rfl) ?_
  rw [Try.ntmps49]; refine Nav.imp ?_
  refine awp_region cx [] fun K hK => ?_
  simp [push_cast]
  repeat (refine And.intro (by clear hK; intros; first | omega | (simp_all; done) | (simp_all <;> omega)) ?_)
  refine hK _ ?_; clear hK K; refine Nav.imp ?_
  refine awp_region_draw cx mixed [] fun K hK => ?_
  simp [push_cast, hn1, hn2, w1, w2]
  repeat (refine And.intro (by clear hK; intros; first | omega | (simp_all; done) | (simp_all <;> omega)) ?_)
  refine hK _ _ (by kernel_rfl) ?_; clear hK K; refine Nav.imp ?_
  refine awp_region cx [] fun K hK => ?_
  simp [push_cast, w6, w7, w8]
  repeat (refine And.intro (by clear hK; intros; first | omega | (simp_all; done) | (simp_all <;> omega)) ?_)
  refine hK _ ?_; clear hK K; refine Nav.imp ?_
  simp [push_cast]

theorem onGridT_ok (c : Cell) : PC Try.prog 48 [.agg c.row] (.p (.bool (onG c))) := by
  refine pc_of_awp cx (fn := Try.f48) (c := _) Try.func48 rfl rfl (Nat.le_of_ble_eq_true rfl) ?_
  rw [Try.ntmps48]; refine Nav.imp ?_
  refine awp_region cx [] fun K hK => ?_
  simp [push_cast]
  repeat (refine And.intro (by clear hK; intros; first | omega | (simp_all; done) | (simp_all <;> omega)) ?_)
  refine hK _ ?_; clear hK K; refine Nav.imp ?_
  refine awp_region cx [] fun K hK => ?_
  simp [push_cast]
  repeat (refine And.intro (by clear hK; intros; first | omega | (simp_all; done) | (simp_all <;> omega)) ?_)
  refine hK _ ?_; clear hK K; refine Nav.imp ?_
  simp [push_cast, onG]
def okAt (l : List Cell) (i : Nat) : Bool := match l[i]?, l[i - 1]? with
  | some c, some p => onG c && (i == 0 || nbT p c)
  | _, _ => false
def roleOk (t : Track) : Bool := decide (1 ≤ t.role) && decide (t.role ≤ 7) && decide (1 ≤ t.cells.length) && decide (t.cells.length ≤ 65536)
def closes (t : Track) : Bool := !t.closed || (t.cells.length : Int) == 1 || (match t.cells[t.cells.length - 1]?, t.cells[0]? with | some a, some b => nbT a b | _, _ => false)
def validT (t : Track) : Bool := roleOk t && (List.range t.cells.length).all (okAt t.cells) && closes t

theorem okAt_some {l : List Cell} {i : Nat} {c p : Cell} (h : l[i]? = some c) (hp : l[i - 1]? = some p) : okAt l i = (onG c && (i == 0 || nbT p c)) := by
  simp only [okAt, h, hp]

theorem okAt_onG {l : List Cell} {k i : Nat} {c : Cell} (h : (List.range k).all (okAt l) = true) (hi : i < k) (hc : l[i]? = some c) : onG c = true := by
  have := List.all_eq_true.1 h i (by simpa using hi)
  unfold okAt at this
  rw [hc] at this
  split at this
  · rename_i c' p h1 h2
    cases h1
    simp at this
    exact this.1
  · cases this

set_option maxHeartbeats 1000000 in
theorem tvalid_ok (t : Track) (hl : t.cells.length ≤ 65536) : PC Try.prog 23 [.agg t.row] (.p (.bool (validT t))) := by
  refine pc_of_awp cx (fn := Try.f23) (c := _) Try.func23 rfl rfl (Nat.le_of_ble_eq_true rfl) ?_
  rw [Try.ntmps23]; refine Nav.imp ?_
  refine awp_region cx [] fun K hK => ?_
  simp [push_cast, Track.row, encCells]
  repeat (refine And.intro (by clear hK; intros; first | omega | (simp_all; done) | (simp_all <;> omega)) ?_)
  refine hK _ ?_; clear hK K; refine Nav.imp ?_
  refine awp_region cx [] fun K hK => ?_
  simp [push_cast, Track.row]
  repeat (refine And.intro (by clear hK; intros; first | omega | (simp_all; done) | (simp_all <;> omega)) ?_)
  refine hK _ ?_; clear hK K; refine Nav.imp ?_
  refine awp_region cx [] fun K hK => ?_
  simp [push_cast, Track.row]
  repeat (refine And.intro (by clear hK; intros; first | omega | (simp_all; done) | (simp_all <;> omega)) ?_)
  refine hK _ ?_; clear hK K; refine Nav.imp ?_
  refine awp_cond (by simp [push_cast] <;> exact rfl) (fun hb => ?_) (fun hb => ?_) <;> (refine Nav.imp ?_)
  · refine awp_region cx [] fun K hK => ?_
    simp [push_cast]
    repeat (refine And.intro (by clear hK; intros; first | omega | (simp_all; done) | (simp_all <;> omega)) ?_)
    refine hK _ ?_; clear hK K; refine Nav.imp ?_
    simp [push_cast]
    simp at hb
    have : roleOk t = false := by simp [roleOk]; omega
    simp [validT, this]
  · have hr : roleOk t = true := by simp at hb; simp [roleOk]; omega
    have hne : 1 ≤ t.cells.length := by simp at hb; omega
    refine awp_region cx [] fun K hK => ?_
    simp [push_cast, Track.row]
    repeat (refine And.intro (by clear hK; intros; first | omega | (simp_all; done) | (simp_all <;> omega)) ?_)
    refine hK _ ?_; clear hK K; refine Nav.imp ?_
    refine awp_loop (β := Nat) (fun k => ⟨72, [(1, .ptr 0 0 0), (3, .d (.int .i64 t.cells.length)), (26, .d (encCells t.cells)), (27, .d (.int .i64 t.cells.length)), (28, .d (.int .i64 k))], [(0, some ⟨42, 3, [t.row.map .d]⟩)], 1⟩) (fun k => k ≤ t.cells.length ∧ (List.range k).all (okAt t.cells) = true) (fun k => t.cells.length - k) 0 ?_ ⟨Nat.zero_le _, rfl⟩ ?_
    · refine weak_of [(0, some 0)] rfl (by simp [upT, up, upL, push_cast, Track.row]) (by simp [upH, upR, upL, up, push_cast, Track.row]) (by simp [namesOk, push_cast]) (by simp [olds])
    · intro k ⟨hk, hall⟩
      refine Nav.imp ?_
      refine awp_region cx [] fun K hK => ?_
      simp [push_cast]
      repeat (refine And.intro (by clear hK; intros; first | omega | (simp_all; done) | (simp_all <;> omega)) ?_)
      refine hK _ ?_; clear hK K; refine Nav.imp ?_
      refine awp_cond (b := decide ((k : Int) < t.cells.length)) (by simp [push_cast]) (fun hb => ?_) (fun hb => ?_) <;> (refine Nav.imp ?_)
      · have hlt : k < t.cells.length := by simpa using hb
        obtain ⟨c, hx⟩ : ∃ c, t.cells[k]? = some c := ⟨t.cells[k], List.getElem?_eq_getElem hlt⟩
        obtain ⟨p, hp⟩ : ∃ p, t.cells[k - 1]? = some p := ⟨t.cells[k - 1], List.getElem?_eq_getElem (by omega)⟩
        have c1 := onGridT_ok c
        have e0 := wrap_i64 (n := (k : Int) + 1) (by omega) (by omega)
        have hok := okAt_some hx hp
        refine awp_region cx [] fun K hK => ?_
        simp [push_cast, hx]
        repeat (refine And.intro (by clear hK; intros; first | omega | (simp_all; done) | (simp_all <;> omega)) ?_)
        refine hK _ ?_; clear hK K; refine Nav.imp ?_
        by_cases hc : onG c = true
        · rw [hc] at c1 hok
          by_cases hk0 : k = 0
          · subst hk0
            refine awp_region_draw cx mixed [(1, .p (.bool true)), (11, .skip), (12, .skip)] fun K hK => ?_
            simp [push_cast, c1]
            repeat (refine And.intro (by clear hK; intros; first | omega | (simp_all; done) | (simp_all <;> omega)) ?_)
            refine hK _ _ (by kernel_rfl) ?_; clear hK K; refine Nav.imp ?_
            refine awp_cond (by simp [push_cast] <;> exact rfl) (fun hb => ?_) (fun hb => ?_) <;> (refine Nav.imp ?_)
            · simp at hb
            · refine awp_region cx [] fun K hK => ?_
              simp [push_cast, e0]
              repeat (refine And.intro (by clear hK; intros; first | omega | (simp_all; done) | (simp_all <;> omega)) ?_)
              refine hK _ ?_; clear hK K; refine Nav.imp ?_
              refine ⟨1, ⟨hlt, by rw [all_range_succ, hall, hok]; rfl⟩, by omega, ?_⟩
              refine weak_of [(0, some 0)] rfl (by simp [upT, up, upL, push_cast, Track.row]) (by simp [upH, upR, upL, up, push_cast, Track.row]) (by simp [namesOk, push_cast]) (by simp [olds])
          · have e1 := wrap_i64 (n := (k : Int) - 1) (by omega) (by omega)
            have e2 : ((k : Int) - 1).toNat = k - 1 := by omega
            have c2 := neighbors_ok (okAt_onG hall (show k - 1 < k by omega) hp) hc
            have hk1 : (0 : Int) < k := by omega
            have hk2 : (0 : Int) ≤ k - 1 := by omega
            have hok' : okAt t.cells k = nbT p c := by rw [hok]; simp [hk0]
            generalize hn : nbT p c = nb at c2 hok'
            refine awp_region_draw cx mixed [(1, .p (.bool true)), (14, .p (.bool nb))] fun K hK => ?_
            simp [push_cast, c1, c2, hk1, e1, e2, hp, hk2, Track.row]
            repeat (refine And.intro (by clear hK; intros; first | omega | (simp_all; done) | (simp_all <;> omega)) ?_)
            refine hK _ _ (by kernel_rfl) ?_; clear hK K; refine Nav.imp ?_
            have hk3 : 0 < k := by omega
            refine awp_cond (b := !nb) (by simp [push_cast, hk3]) (fun hb => ?_) (fun hb => ?_) <;> (refine Nav.imp ?_)
            · simp at hb
              refine awp_region cx [] fun K hK => ?_
              simp [push_cast]
              repeat (refine And.intro (by clear hK; intros; first | omega | (simp_all; done) | (simp_all <;> omega)) ?_)
              refine hK _ ?_; clear hK K; refine Nav.imp ?_
              simp [push_cast]
              simp only [validT, Bool.and_eq_false_iff]
              exact .inl (.inr (all_range_false hlt (by rw [hok', hb])))
            · simp at hb
              refine awp_region cx [] fun K hK => ?_
              simp [push_cast, e0]
              repeat (refine And.intro (by clear hK; intros; first | omega | (simp_all; done) | (simp_all <;> omega)) ?_)
              refine hK _ ?_; clear hK K; refine Nav.imp ?_
              refine ⟨k + 1, ⟨hlt, by rw [all_range_succ, hall, hok', hb]; rfl⟩, by omega, ?_⟩
              refine weak_of [(0, some 0)] rfl (by simp [upT, up, upL, push_cast, Track.row]) (by simp [upH, upR, upL, up, push_cast, Track.row]) (by simp [namesOk, push_cast]) (by simp [olds])
        · simp at hc
          rw [hc] at c1 hok
          refine awp_region_draw cx mixed [(1, .p (.bool false)), (11, .skip), (12, .skip)] fun K hK => ?_
          simp [push_cast, c1]
          repeat (refine And.intro (by clear hK; intros; first | omega | (simp_all; done) | (simp_all <;> omega)) ?_)
          refine hK _ _ (by kernel_rfl) ?_; clear hK K; refine Nav.imp ?_
          refine awp_cond (b := true) (by simp [push_cast]) (fun hb => ?_) (fun hb => ?_) <;> (refine Nav.imp ?_)
          · refine awp_region cx [] fun K hK => ?_
            simp [push_cast]
            repeat (refine And.intro (by clear hK; intros; first | omega | (simp_all; done) | (simp_all <;> omega)) ?_)
            refine hK _ ?_; clear hK K; refine Nav.imp ?_
            simp [push_cast]
            simp only [validT, Bool.and_eq_false_iff]
            exact .inl (.inr (all_range_false hlt (by rw [hok]; rfl)))
          · simp at hb
      · have hge : k = t.cells.length := by simp at hb; omega
        subst hge
        obtain ⟨a, ha⟩ : ∃ c, t.cells[0]? = some c := ⟨t.cells[0], List.getElem?_eq_getElem (by omega)⟩
        obtain ⟨b, hb'⟩ : ∃ c, t.cells[t.cells.length - 1]? = some c := ⟨t.cells[t.cells.length - 1], List.getElem?_eq_getElem (by omega)⟩
        have e1 := wrap_i64 (n := (t.cells.length : Int) - 1) (by omega) (by omega)
        have e2 : ((t.cells.length : Int) - 1).toNat = t.cells.length - 1 := by omega
        have hk2 : (0 : Int) ≤ (t.cells.length : Int) - 1 := by omega
        have c2 := neighbors_ok (okAt_onG hall (by omega) hb') (okAt_onG hall (by omega) ha)
        have hcl : closes t = (!t.closed || (t.cells.length : Int) == 1 || nbT b a) := by simp only [closes, ha, hb']
        have hv : validT t = closes t := by simp only [validT, hr, hall, Bool.true_and]
        rw [hv, hcl]
        generalize nbT b a = nb at c2
        refine awp_region_draw cx mixed [(18, .p (.bool nb))] fun K hK => ?_
        simp [push_cast, c2, e1, e2, ha, hb', hk2, Track.row]
        repeat (refine And.intro (by clear hK; intros; first | omega | (simp_all; done) | (simp_all <;> omega)) ?_)
        refine hK _ _ (by kernel_rfl) ?_; clear hK K; refine Nav.imp ?_
        simp [push_cast]
end Go.Proofs.Ytknelhiejjdioaa

set_option linter.unusedVariables false
set_option linter.unusedSimpArgs false
set_option maxRecDepth 100000
namespace Go.Proofs.Ytknelhiejjdioaa
open Go.Abs

/-! The corners of a straight line of cells. -/
def lineC (x y dx dy : Int) (n : Nat) : List Cell := (List.range n).map fun j : Nat => ⟨x + j * dx, y + j * dy⟩
theorem lineC_length (x y dx dy : Int) (n : Nat) : (lineC x y dx dy n).length = n := by simp [lineC]
theorem lineC_get (x y dx dy : Int) {n j : Nat} (h : j < n) : (lineC x y dx dy n)[j]? = some ⟨x + j * dx, y + j * dy⟩ := by simp [lineC, h]
def dirOk (dx dy : Int) : Prop := (dx = 1 ∧ dy = 0) ∨ (dx = 0 ∧ dy = 1)
def cornS (l : List Cell) (i : Nat) : List Cell := (if 0 < i then l.take 1 else []) ++ (if l.length ≤ i ∧ 1 < l.length then l.drop (l.length - 1) else [])
theorem cornS_len (l : List Cell) (i : Nat) : (cornS l i).length ≤ 2 := by
  unfold cornS
  rw [List.length_append]
  have h1 : (if 0 < i then l.take 1 else []).length ≤ 1 := by split <;> simp; omega
  have h2 : (if l.length ≤ i ∧ 1 < l.length then l.drop (l.length - 1) else []).length ≤ 1 := by split <;> simp; omega
  omega
theorem corn_first {l : List Cell} {c : Cell} (h : l[0]? = some c) : cornS l 1 = cornS l 0 ++ [c] := by
  cases l with
  | nil => simp at h
  | cons a l => simp at h; subst h; simp [cornS]; intro h1 h2; subst h1; simp at h2
theorem corn_mid {l : List Cell} {i : Nat} (h0 : 0 < i) (h : i + 1 < l.length) : cornS l (i + 1) = cornS l i := by
  unfold cornS
  rw [if_pos (by omega), if_pos h0, if_neg (by omega), if_neg (by omega)]
theorem corn_last {l : List Cell} {i : Nat} {c : Cell} (h0 : 0 < i) (h : i + 1 = l.length) (hc : l[i]? = some c) : cornS l (i + 1) = cornS l i ++ [c] := by
  unfold cornS
  rw [if_pos (by omega), if_pos h0, if_pos (by omega), if_neg (by omega), List.append_nil]
  congr 1
  rw [show l.length - 1 = i by omega, drop_get hc, List.drop_of_length_le (by omega)]

set_option maxHeartbeats 8000000 in
theorem corners_ok (x y dx dy : Int) (n : Nat) (hd : dirOk dx dy) (hn : n ≤ 65536) (hon : ∀ c ∈ lineC x y dx dy n, onG c = true) (hv : validT ⟨5, false, lineC x y dx dy n⟩ = true) : PC Try.prog 24 [.agg (Track.row ⟨5, false, lineC x y dx dy n⟩)] (.p (encCells (cornS (lineC x y dx dy n) n))) := by
  have c1 := tvalid_ok ⟨5, false, lineC x y dx dy n⟩ (by rw [lineC_length]; exact hn)
  rw [hv] at c1
  have hbd : ∀ j, j < n → (-4096 ≤ x + j * dx ∧ x + j * dx < 4096) ∧ (-4096 ≤ y + j * dy ∧ y + j * dy < 4096) := fun j hj => by
    have := onG_bd (hon _ (List.mem_of_getElem? (lineC_get x y dx dy hj)))
    simp only at this
    omega
  have hget := fun j (hj : j < n) => lineC_get x y dx dy hj
  have hlen := lineC_length x y dx dy n
  have hdx : ∀ i : Int, i * dx - (i - 1) * dx = dx ∧ (i + 1) * dx - i * dx = dx ∧ i * dy - (i - 1) * dy = dy ∧ (i + 1) * dy - i * dy = dy := fun i => by
    rcases hd with ⟨rfl, rfl⟩ | ⟨rfl, rfl⟩ <;> simp <;> omega
  generalize lineC x y dx dy n = l at *
  refine pc_of_awp cx (fn := Try.f24) (c := _) Try.func24 rfl rfl (Nat.le_of_ble_eq_true rfl) ?_
  rw [Try.ntmps24]; refine Nav.imp ?_
  refine awp_region cx [] fun K hK => ?_
  simp [push_cast]
  repeat (refine And.intro (by clear hK; intros; first | omega | (simp_all; done) | (simp_all <;> omega)) ?_)
  refine hK _ ?_; clear hK K; refine Nav.imp ?_
  refine awp_region cx [] fun K hK => ?_
  simp [push_cast]
  repeat (refine And.intro (by clear hK; intros; first | omega | (simp_all; done) | (simp_all <;> omega)) ?_)
  refine hK _ ?_; clear hK K; refine Nav.imp ?_
  refine awp_region cx [(1, .p (.bool true))] fun K hK => ?_
  simp [push_cast, c1]
  repeat (refine And.intro (by clear hK; intros; first | omega | (simp_all; done) | (simp_all <;> omega)) ?_)
  refine hK _ ?_; clear hK K; refine Nav.imp ?_
  refine awp_cond (b := false) (by simp [push_cast]) (fun hb => ?_) (fun hb => ?_) <;> (refine Nav.imp ?_)
  · simp at hb
  · refine awp_region cx [] fun K hK => ?_
    simp [push_cast, Track.row]
    repeat (refine And.intro (by clear hK; intros; first | omega | (simp_all; done) | (simp_all <;> omega)) ?_)
    refine hK _ ?_; clear hK K; refine Nav.imp ?_
    refine awp_loop (β := Nat × List Cell) (fun s => ⟨72, [(1, .ptr 0 0 0), (3, .hs 1 0 s.2.length), (13, .d (encCells l)), (14, .d (.int .i64 l.length)), (15, .d (.int .i64 s.1))], [(0, some ⟨42, 3, [(Track.row ⟨5, false, l⟩).map .d]⟩), (1, some ⟨31, 2, dr (s.2.map Cell.row)⟩)], 2⟩) (fun s => s.1 ≤ l.length ∧ s.2 = cornS l s.1) (fun s => l.length - s.1) (0, []) ?_ ⟨Nat.zero_le _, by unfold cornS; rw [if_neg (by omega), if_neg (by omega)]; rfl⟩ ?_
    · refine weak_of [(0, some 0), (1, none)] rfl (by simp [upT, up, upL, push_cast, Track.row]) (by simp [upH, upR, upL, up, push_cast, Track.row]) (by simp [namesOk, push_cast]) (by simp [olds])
    · rintro ⟨i, X⟩ ⟨hi, hX⟩
      simp only at hi hX
      have hXl := cornS_len l i
      rw [← hX] at hXl
      have h16 : (X.length + 1) * 16 ≤ 140737488355328 := by omega
      refine Nav.imp ?_
      refine awp_region cx [] fun K hK => ?_
      simp [push_cast]
      repeat (refine And.intro (by clear hK; intros; first | omega | (simp_all; done) | (simp_all <;> omega)) ?_)
      refine hK _ ?_; clear hK K; refine Nav.imp ?_
      refine awp_cond (b := decide ((i : Int) < l.length)) (by simp [push_cast]) (fun hb => ?_) (fun hb => ?_) <;> (refine Nav.imp ?_)
      · have hlt : i < l.length := by simpa using hb
        obtain ⟨c, hc⟩ := getq hlt
        have hce := hget i (by omega)
        rw [hc] at hce
        have hbi := hbd i (by omega)
        have e0 := wrap_i64 (n := (i : Int) + 1) (by omega) (by omega)
        by_cases hmid : 0 < i ∧ i + 1 < l.length
        · have hX1 := corn_mid hmid.1 hmid.2
          rw [← hX] at hX1
          obtain ⟨a, ha⟩ := getq (show i - 1 < l.length by omega)
          obtain ⟨d, hdd⟩ := getq hmid.2
          have hae := hget (i - 1) (by omega)
          have hde := hget (i + 1) (by omega)
          rw [ha] at hae
          rw [hdd] at hde
          have hba := hbd (i - 1) (by omega)
          have hbd1 := hbd (i + 1) (by omega)
          obtain ⟨q1, q2, q3, q4⟩ := hdx i
          simp only [Option.some.injEq] at hce hae hde
          have en : ((i - 1 : Nat) : Int) = (i : Int) - 1 := by omega
          have en2 : ((i + 1 : Nat) : Int) = (i : Int) + 1 := by omega
          rw [en] at hae hba
          rw [en2] at hde hbd1
          have en3 : ((i : Int) - 1).toNat = i - 1 := by omega
          have en4 : ((i : Int) + 1).toNat = i + 1 := by omega
          have e1 := wrap_i64 (n := (i : Int) - 1) (by omega) (by omega)
          obtain ⟨px, py⟩ := c
          obtain ⟨ax, ay⟩ := a
          obtain ⟨bx, b'⟩ := d
          simp only [Cell.mk.injEq] at hce hae hde
          have g1 : px - ax = bx - px := by omega
          have g2 : py - ay = b' - py := by omega
          have w1 := wrap_i64 (n := px - ax) (by omega) (by omega)
          have w2 := wrap_i64 (n := bx - px) (by omega) (by omega)
          have w3 := wrap_i64 (n := py - ay) (by omega) (by omega)
          have w4 := wrap_i64 (n := b' - py) (by omega) (by omega)
          have h0 : (0 : Int) < (i : Int) := by omega
          have h1 : ((i : Int) + 1 < (l.length : Int)) := by omega
          have h2 : (0 : Int) ≤ (i : Int) - 1 := by omega
          have h3 : (i : Int) - 1 < (l.length : Int) := by omega
          have h4 : 0 < i := hmid.1
          have h5 : i + 1 < l.length := hmid.2
          clear hce hae hde hba hbd1 hbi q1 q2 q3 q4 hX
          refine awp_region cx [] fun K hK => ?_
          simp [push_cast, hc, Cell.row]
          repeat (refine And.intro (by clear hK; intros; first | omega | (simp_all; done) | (simp_all <;> omega)) ?_)
          refine hK _ ?_; clear hK K; refine Nav.imp ?_
          refine awp_region cx [] fun K hK => ?_
          simp [push_cast, e0, h0, h1, h4, h5]
          repeat (refine And.intro (by clear hK; intros; first | omega | (simp_all; done) | (simp_all <;> omega)) ?_)
          refine hK _ ?_; clear hK K; refine Nav.imp ?_
          refine awp_cond (b := true) (by simp [push_cast]) (fun hb => ?_) (fun hb => ?_) <;> (refine Nav.imp ?_)
          · refine awp_region_draw cx mixed [] fun K hK => ?_
            simp [push_cast, ha, hdd, e0, e1, en3, en4, h2, h3, Cell.row]
            repeat (refine And.intro (by clear hK; intros; first | omega | (simp_all; done) | (simp_all <;> omega)) ?_)
            refine hK _ _ (by kernel_rfl) ?_; clear hK K; refine Nav.imp ?_
            refine awp_region cx [] fun K hK => ?_
            simp [push_cast, w1, w2, w3, w4, g1, g2]
            repeat (refine And.intro (by clear hK; intros; first | omega | (simp_all; done) | (simp_all <;> omega)) ?_)
            refine hK _ ?_; clear hK K; refine Nav.imp ?_
            refine awp_cond (b := true) (by simp [push_cast]) (fun hb => ?_) (fun hb => ?_) <;> (refine Nav.imp ?_)
            · refine awp_region cx [] fun K hK => ?_
              simp [push_cast, e0]
              repeat (refine And.intro (by clear hK; intros; first | omega | (simp_all; done) | (simp_all <;> omega)) ?_)
              refine hK _ ?_; clear hK K; refine Nav.imp ?_
              refine ⟨(i + 1, X), ⟨hlt, hX1.symm⟩, by simp only; omega, ?_⟩
              refine weak_of [(0, some 0), (1, some 1)] rfl (by simp [upT, up, upL, push_cast, Track.row]) (by simp [upH, upR, upL, up, push_cast, Track.row]) (by simp [namesOk, push_cast]) (by simp [olds])
            · simp at hb
          · simp at hb
        · have hX1 : cornS l (i + 1) = X ++ [c] := by
            rw [hX]
            by_cases h0 : i = 0
            · subst h0; exact corn_first hc
            · exact corn_last (by omega) (by omega) hc
          have hcond : (decide ((0 : Int) < (i : Int)) && decide ((i : Int) + 1 < (l.length : Int))) = false := by
            simp only [Bool.and_eq_false_imp, decide_eq_true_eq, decide_eq_false_iff_not]
            omega
          clear hce hbi hX
          obtain ⟨px, py⟩ := c
          refine awp_region cx [] fun K hK => ?_
          simp [push_cast, hc, Cell.row]
          repeat (refine And.intro (by clear hK; intros; first | omega | (simp_all; done) | (simp_all <;> omega)) ?_)
          refine hK _ ?_; clear hK K; refine Nav.imp ?_
          by_cases h0 : i = 0
          · subst h0
            refine awp_region cx [] fun K hK => ?_
            simp [push_cast]
            repeat (refine And.intro (by clear hK; intros; first | omega | (simp_all; done) | (simp_all <;> omega)) ?_)
            refine hK _ ?_; clear hK K; refine Nav.imp ?_
            refine awp_cond (b := false) (by simp [push_cast]) (fun hb => ?_) (fun hb => ?_) <;> (refine Nav.imp ?_)
            · simp at hb
            · refine awp_region cx [] fun K hK => ?_
              simp [push_cast, h16, Cell.row]
              repeat (refine And.intro (by clear hK; intros; first | omega | (simp_all; done) | (simp_all <;> omega)) ?_)
              refine hK _ ?_; clear hK K; refine Nav.imp ?_
              refine awp_region cx [] fun K hK => ?_
              simp [push_cast]
              repeat (refine And.intro (by clear hK; intros; first | omega | (simp_all; done) | (simp_all <;> omega)) ?_)
              refine hK _ ?_; clear hK K; refine Nav.imp ?_
              refine ⟨(1, X ++ [⟨px, py⟩]), ⟨hlt, hX1.symm⟩, by simp only; omega, ?_⟩
              refine weak_of [(0, some 0), (1, some 22)] rfl (by simp [upT, up, upL, push_cast, Track.row, Cell.row]) (by simp [upH, upR, upL, up, push_cast, Track.row, Cell.row]) (by simp [namesOk, push_cast]) (by simp [olds])
          · have h0' : 0 < i := by omega
            have h1 : i + 1 = l.length := by omega
            have h2 : ¬ i + 1 < l.length := by omega
            have h3 : ¬ (i : Int) + 1 < (l.length : Int) := by omega
            refine awp_region cx [] fun K hK => ?_
            simp [push_cast, e0, h0', h2, h3]
            repeat (refine And.intro (by clear hK; intros; first | omega | (simp_all; done) | (simp_all <;> omega)) ?_)
            refine hK _ ?_; clear hK K; refine Nav.imp ?_
            refine awp_cond (b := false) (by simp [push_cast]) (fun hb => ?_) (fun hb => ?_) <;> (refine Nav.imp ?_)
            · simp at hb
            · refine awp_region cx [] fun K hK => ?_
              simp [push_cast, h16, Cell.row]
              repeat (refine And.intro (by clear hK; intros; first | omega | (simp_all; done) | (simp_all <;> omega)) ?_)
              refine hK _ ?_; clear hK K; refine Nav.imp ?_
              refine awp_region cx [] fun K hK => ?_
              simp [push_cast, e0]
              repeat (refine And.intro (by clear hK; intros; first | omega | (simp_all; done) | (simp_all <;> omega)) ?_)
              refine hK _ ?_; clear hK K; refine Nav.imp ?_
              refine ⟨(i + 1, X ++ [⟨px, py⟩]), ⟨hlt, hX1.symm⟩, by simp only; omega, ?_⟩
              refine weak_of [(0, some 0), (1, some 22)] rfl (by simp [upT, up, upL, push_cast, Track.row, Cell.row]) (by simp [upH, upR, upL, up, push_cast, Track.row, Cell.row]) (by simp [namesOk, push_cast]) (by simp [olds])
      · have hie : i = l.length := by simp at hb; omega
        subst hie
        rw [hlen] at hX
        subst hX
        have ht : List.take (cornS l n).length ((cornS l n).map Cell.row) = (cornS l n).map Cell.row := List.take_of_length_le (by simp)
        generalize cornS l n = Z at *
        refine awp_region cx [] fun K hK => ?_
        simp [push_cast]
        repeat (refine And.intro (by clear hK; intros; first | omega | (simp_all; done) | (simp_all <;> omega)) ?_)
        refine hK _ ?_; clear hK K; refine Nav.imp ?_
        simp [push_cast, ht]
end Go.Proofs.Ytknelhiejjdioaa

set_option linter.unusedVariables false
set_option linter.unusedSimpArgs false
namespace Go.Proofs.Ytknelhiejjdioaa
open Go.Abs

/-! A region cut short. -/
def cut20 (x : Run) : Run := if x.a < x.b ∧ -4097 < x.a ∧ x.b < 4097 ∧ x.a < x.b - 20 then ⟨x.a, x.a + 20⟩ else x
def fewW (w : Row) : Row := ⟨w.y, (w.runs.take 4).map cut20⟩
def fewR (R : List Row) : List Row := (R.take 12).map fewW

theorem few_small (R : List Row) : smallR (fewR R) := by
  refine ⟨by simp [fewR]; omega, fun w hw => ?_⟩
  obtain ⟨v, _, rfl⟩ := List.mem_map.1 hw
  simp [fewW]; omega

set_option maxHeartbeats 4000000 in
theorem few_ok (R : List Row) : PC Try.prog 13 [.agg (regRow R)] (.p (.agg (regRow (fewR R)))) := by
  refine pc_of_awp cx (fn := Try.f13) (c := _) Try.func13 rfl rfl (Nat.le_of_ble_eq_true rfl) ?_
  rw [Try.ntmps13]; refine Nav.imp ?_
  refine awp_region cx [] fun K hK => ?_
  simp [push_cast]
  repeat (refine And.intro (by clear hK; intros; first | omega | (simp_all; done) | (simp_all <;> omega)) ?_)
  refine hK _ ?_; clear hK K; refine Nav.imp ?_
  refine awp_region cx [] fun K hK => ?_
  simp [push_cast]
  repeat (refine And.intro (by clear hK; intros; first | omega | (simp_all; done) | (simp_all <;> omega)) ?_)
  refine hK _ ?_; clear hK K; refine Nav.imp ?_
  refine awp_region cx [] fun K hK => ?_
  simp [push_cast]
  repeat (refine And.intro (by clear hK; intros; first | omega | (simp_all; done) | (simp_all <;> omega)) ?_)
  refine hK _ ?_; clear hK K; refine Nav.imp ?_
  refine awp_loop (β := Nat × List Row) (fun b => ⟨86, [(1, .ptr 0 0 0), (2, .ptr 1 0 0), (3, .ptr 2 0 0), (4, .d (.int .i64 b.1))], [(0, some ⟨24, 1, [(regRow R).map .d]⟩), (1, some ⟨24, 1, [[.nl]]⟩), (2, some ⟨24, 1, [[.hs 3 0 b.2.length]]⟩), (3, some ⟨48, 2, dr (b.2.map Row.row)⟩)], 4⟩) (fun b => b.1 ≤ R.length ∧ b.1 ≤ 12 ∧ b.2 = (R.take b.1).map fewW) (fun b => R.length - b.1) (0, []) ?_ ⟨Nat.zero_le _, by omega, by simp⟩ ?_
  · refine weak_of [(0, some 0), (1, some 1), (2, some 2), (3, none)] rfl (by simp [upT, up, upL, push_cast]) (by simp [upH, upR, upL, up, push_cast]) (by simp [namesOk, push_cast]) (by simp [olds])
  · rintro ⟨k, out⟩ ⟨hk, hk2, hout⟩
    simp only at hk hk2 hout
    refine Nav.imp ?_
    refine awp_region cx [] fun K hK => ?_
    simp [push_cast]
    repeat (refine And.intro (by clear hK; intros; first | omega | (simp_all; done) | (simp_all <;> omega)) ?_)
    refine hK _ ?_; clear hK K; refine Nav.imp ?_
    refine awp_cond (by simp [push_cast] <;> exact rfl) (fun hb => ?_) (fun hb => ?_) <;> (refine Nav.imp ?_)
    · simp at hb
      obtain ⟨hlt, h12⟩ := hb
      obtain ⟨w, hw⟩ := getq hlt
      have e0 := wrap_i64 (n := (k : Int) + 1) (by omega) (by omega)
      have hnext : (R.take (k + 1)).map fewW = (R.take k).map fewW ++ [fewW w] := by rw [take_get hw]; simp
      have hol : out.length ≤ 12 := by rw [hout]; simp; omega
      have ho40 : (out.length + 1) * 32 ≤ 140737488355328 := by omega
      obtain ⟨y, ru⟩ := w
      refine awp_region cx [] fun K hK => ?_
      simp [push_cast, hw, Row.row]
      repeat (refine And.intro (by clear hK; intros; first | omega | (simp_all; done) | (simp_all <;> omega)) ?_)
      refine hK _ ?_; clear hK K; refine Nav.imp ?_
      refine awp_region cx [] fun K hK => ?_
      simp [push_cast, Row.row]
      repeat (refine And.intro (by clear hK; intros; first | omega | (simp_all; done) | (simp_all <;> omega)) ?_)
      refine hK _ ?_; clear hK K; refine Nav.imp ?_
      apply cut_
      · intro key
        refine awp_cond (b := decide (4 < (ru.length : Int))) (by simp [push_cast]) (fun hb => ?_) (fun hb => ?_) <;> (refine Nav.imp ?_)
        · have hb : 4 < ru.length := by simp at hb; omega
          have h4 : 4 ≤ ru.length := by omega
          refine awp_region cx [] fun K hK => ?_
          simp [push_cast, Row.row, h4]
          repeat (refine And.intro (by clear hK; intros; first | omega | (simp_all; done) | (simp_all <;> omega)) ?_)
          refine hK _ ?_; clear hK K; refine Nav.imp ?_
          refine awp_weak (s' := ⟨86, [(1, .ptr 0 0 0), (2, .ptr 1 0 0), (3, .ptr 2 0 0), (4, .d (.int .i64 k)), (5, .ptr 4 0 0)], [(0, some ⟨24, 1, [(regRow R).map .d]⟩), (1, some ⟨24, 1, [[.nl]]⟩), (2, some ⟨24, 1, [[.hs 3 0 out.length]]⟩), (3, some ⟨48, 2, dr (out.map Row.row)⟩), (4, some ⟨48, 2, [(Row.row ⟨y, ru.take 4⟩).map .d]⟩)], 5⟩) ?_ key.h
          refine weak_of [(0, some 0), (1, some 1), (2, some 2), (3, some 3), (4, some 18)] rfl (by simp [upT, up, upL, push_cast, Row.row]) (by simp [upH, upR, upL, up, push_cast, Row.row]) (by simp [namesOk, push_cast]) (by simp [olds])
        · have hb : ru.take 4 = ru := List.take_of_length_le (by simp at hb; omega)
          refine awp_weak (s' := ⟨86, [(1, .ptr 0 0 0), (2, .ptr 1 0 0), (3, .ptr 2 0 0), (4, .d (.int .i64 k)), (5, .ptr 4 0 0)], [(0, some ⟨24, 1, [(regRow R).map .d]⟩), (1, some ⟨24, 1, [[.nl]]⟩), (2, some ⟨24, 1, [[.hs 3 0 out.length]]⟩), (3, some ⟨48, 2, dr (out.map Row.row)⟩), (4, some ⟨48, 2, [(Row.row ⟨y, ru.take 4⟩).map .d]⟩)], 5⟩) ?_ key.h
          rw [hb]
          refine weak_of [(0, some 0), (1, some 1), (2, some 2), (3, some 3), (4, some 18)] rfl (by simp [upT, up, upL, push_cast, Row.row]) (by simp [upH, upR, upL, up, push_cast, Row.row]) (by simp [namesOk, push_cast]) (by simp [olds])
      · have hW : fewW ⟨y, ru⟩ = ⟨y, (ru.take 4).map cut20⟩ := rfl
        rw [hW] at hnext
        have hl4 : (ru.take 4).length ≤ 4 := by simp; omega
        generalize ru.take 4 = l at *
        refine Nav.imp ?_
        refine awp_region cx [] fun K hK => ?_
        simp [push_cast]
        repeat (refine And.intro (by clear hK; intros; first | omega | (simp_all; done) | (simp_all <;> omega)) ?_)
        refine hK _ ?_; clear hK K; refine Nav.imp ?_
        refine awp_region cx [] fun K hK => ?_
        simp [push_cast]
        repeat (refine And.intro (by clear hK; intros; first | omega | (simp_all; done) | (simp_all <;> omega)) ?_)
        refine hK _ ?_; clear hK K; refine Nav.imp ?_
        refine awp_loop (β := Nat × List Run) (fun b => ⟨86, [(1, .ptr 0 0 0), (2, .ptr 1 0 0), (3, .ptr 2 0 0), (4, .d (.int .i64 k)), (5, .ptr 4 0 0), (6, .hs 5 0 b.2.length), (7, .d (.int .i64 b.1))], [(0, some ⟨24, 1, [(regRow R).map .d]⟩), (1, some ⟨24, 1, [[.nl]]⟩), (2, some ⟨24, 1, [[.hs 3 0 out.length]]⟩), (3, some ⟨48, 2, dr (out.map Row.row)⟩), (4, some ⟨48, 2, [(Row.row ⟨y, l⟩).map .d]⟩), (5, some ⟨51, 2, dr (b.2.map Run.row)⟩)], 6⟩) (fun b => b.1 ≤ l.length ∧ b.2 = (l.take b.1).map cut20) (fun b => l.length - b.1) (0, []) ?_ ⟨Nat.zero_le _, by simp⟩ ?_
        · refine weak_of [(0, some 0), (1, some 1), (2, some 2), (3, some 3), (4, some 4), (5, none)] rfl (by simp [upT, up, upL, push_cast, Row.row]) (by simp [upH, upR, upL, up, push_cast, Row.row]) (by simp [namesOk, push_cast]) (by simp [olds])
        · rintro ⟨j, L⟩ ⟨hj, hL⟩
          simp only at hj hL
          refine Nav.imp ?_
          refine awp_region cx [] fun K hK => ?_
          simp [push_cast, Row.row]
          repeat (refine And.intro (by clear hK; intros; first | omega | (simp_all; done) | (simp_all <;> omega)) ?_)
          refine hK _ ?_; clear hK K; refine Nav.imp ?_
          refine awp_cond (b := decide ((j : Int) < l.length)) (by simp [push_cast]) (fun hb => ?_) (fun hb => ?_) <;> (refine Nav.imp ?_)
          · have hjl : j < l.length := by simpa using hb
            obtain ⟨x, hx⟩ := getq hjl
            have e1 := wrap_i64 (n := (j : Int) + 1) (by omega) (by omega)
            have hLl : L.length ≤ 4 := by rw [hL]; simp; omega
            have hL16 : (L.length + 1) * 16 ≤ 140737488355328 := by omega
            have hnx : (l.take (j + 1)).map cut20 = (l.take j).map cut20 ++ [cut20 x] := by rw [take_get hx]; simp
            have hcx : cut20 x = if x.a < x.b ∧ -4097 < x.a ∧ x.b < 4097 ∧ x.a < x.b - 20 then ⟨x.a, x.a + 20⟩ else x := rfl
            rw [← hL] at hnx
            obtain ⟨xa, xb⟩ := x
            simp only at hcx
            refine awp_region cx [] fun K hK => ?_
            simp [push_cast, hx, Row.row, Run.row]
            repeat (refine And.intro (by clear hK; intros; first | omega | (simp_all; done) | (simp_all <;> omega)) ?_)
            refine hK _ ?_; clear hK K; refine Nav.imp ?_
            refine awp_region cx [] fun K hK => ?_
            simp [push_cast, Run.row]
            repeat (refine And.intro (by clear hK; intros; first | omega | (simp_all; done) | (simp_all <;> omega)) ?_)
            refine hK _ ?_; clear hK K; refine Nav.imp ?_
            apply cut_
            · intro ky
              refine awp_cond (by simp [push_cast] <;> exact rfl) (fun hb => ?_) (fun hb => ?_) <;> (refine Nav.imp ?_)
              · simp at hb
                obtain ⟨⟨⟨b1, b2⟩, b3⟩, b4⟩ := hb
                have e2 := wrap_i64 (n := xb - 20) (by omega) (by omega)
                rw [e2] at b4
                have e3 := wrap_i64 (n := xa + 20) (by omega) (by omega)
                have hc : cut20 ⟨xa, xb⟩ = ⟨xa, xa + 20⟩ := by rw [hcx, if_pos ⟨b1, by omega, b3, b4⟩]
                refine awp_region cx [] fun K hK => ?_
                simp [push_cast, Run.row, e3]
                repeat (refine And.intro (by clear hK; intros; first | omega | (simp_all; done) | (simp_all <;> omega)) ?_)
                refine hK _ ?_; clear hK K; refine Nav.imp ?_
                refine awp_weak (s' := ⟨86, [(1, .ptr 0 0 0), (2, .ptr 1 0 0), (3, .ptr 2 0 0), (4, .d (.int .i64 k)), (5, .ptr 4 0 0), (6, .hs 5 0 L.length), (7, .d (.int .i64 j)), (8, .ptr 6 0 0)], [(0, some ⟨24, 1, [(regRow R).map .d]⟩), (1, some ⟨24, 1, [[.nl]]⟩), (2, some ⟨24, 1, [[.hs 3 0 out.length]]⟩), (3, some ⟨48, 2, dr (out.map Row.row)⟩), (4, some ⟨48, 2, [(Row.row ⟨y, l⟩).map .d]⟩), (5, some ⟨51, 2, dr (L.map Run.row)⟩), (6, some ⟨51, 2, [(cut20 ⟨xa, xb⟩).row.map .d]⟩)], 7⟩) ?_ ky.h
                rw [hc]
                refine weak_of [(0, some 0), (1, some 1), (2, some 2), (3, some 3), (4, some 4), (5, some 5), (6, some 16)] rfl (by simp [upT, up, upL, push_cast, Row.row, Run.row]) (by simp [upH, upR, upL, up, push_cast, Row.row, Run.row]) (by simp [namesOk, push_cast]) (by simp [olds])
              · simp at hb
                have hc : cut20 ⟨xa, xb⟩ = ⟨xa, xb⟩ := by
                  rw [hcx, if_neg]
                  rintro ⟨b1, b2, b3, b4⟩
                  have e2 := wrap_i64 (n := xb - 20) (by omega) (by omega)
                  have := hb b1 (by omega) b3
                  rw [e2] at this
                  omega
                refine awp_weak (s' := ⟨86, [(1, .ptr 0 0 0), (2, .ptr 1 0 0), (3, .ptr 2 0 0), (4, .d (.int .i64 k)), (5, .ptr 4 0 0), (6, .hs 5 0 L.length), (7, .d (.int .i64 j)), (8, .ptr 6 0 0)], [(0, some ⟨24, 1, [(regRow R).map .d]⟩), (1, some ⟨24, 1, [[.nl]]⟩), (2, some ⟨24, 1, [[.hs 3 0 out.length]]⟩), (3, some ⟨48, 2, dr (out.map Row.row)⟩), (4, some ⟨48, 2, [(Row.row ⟨y, l⟩).map .d]⟩), (5, some ⟨51, 2, dr (L.map Run.row)⟩), (6, some ⟨51, 2, [(cut20 ⟨xa, xb⟩).row.map .d]⟩)], 7⟩) ?_ ky.h
                rw [hc]
                refine weak_of [(0, some 0), (1, some 1), (2, some 2), (3, some 3), (4, some 4), (5, some 5), (6, some 16)] rfl (by simp [upT, up, upL, push_cast, Row.row, Run.row]) (by simp [upH, upR, upL, up, push_cast, Row.row, Run.row]) (by simp [namesOk, push_cast]) (by simp [olds])
            · generalize cut20 ⟨xa, xb⟩ = c at *
              obtain ⟨ca, cb⟩ := c
              refine Nav.imp ?_
              refine awp_region cx [] fun K hK => ?_
              simp [push_cast, Run.row, hL16]
              repeat (refine And.intro (by clear hK; intros; first | omega | (simp_all; done) | (simp_all <;> omega)) ?_)
              refine hK _ ?_; clear hK K; refine Nav.imp ?_
              refine awp_region cx [] fun K hK => ?_
              simp [push_cast, e1]
              repeat (refine And.intro (by clear hK; intros; first | omega | (simp_all; done) | (simp_all <;> omega)) ?_)
              refine hK _ ?_; clear hK K; refine Nav.imp ?_
              refine ⟨(j + 1, L ++ [⟨ca, cb⟩]), ⟨hjl, hnx.symm⟩, by simp only; omega, ?_⟩
              refine weak_of [(0, some 0), (1, some 1), (2, some 2), (3, some 3), (4, some 4), (5, some 10)] rfl (by simp [upT, up, upL, push_cast, Row.row, Run.row]) (by simp [upH, upR, upL, up, push_cast, Row.row, Run.row]) (by simp [namesOk, push_cast]) (by simp [olds])
          · have hjn : j = l.length := by simp at hb; omega
            subst hjn
            rw [List.take_length] at hL
            have hcl : (⟨y, l.map cut20⟩ : Row) = ⟨y, L⟩ := by rw [hL]
            rw [hcl, ← hout] at hnext
            refine awp_freeze 5 (L.map Run.row) rfl (by simp [push_cast, Run.row]) fun K hK => ?_
            simp [push_cast, St.fz, fzT, fzH, fzO, fz, fzL, fzR, fzR_dr, fzR_app, fzR_set, fzL_map, Run.row]
            refine hK _ ?_; clear hK K; refine Nav.imp ?_
            refine awp_region cx [] fun K hK => ?_
            simp [push_cast, Row.row, ho40]
            repeat (refine And.intro (by clear hK; intros; first | omega | (simp_all; done) | (simp_all <;> omega)) ?_)
            refine hK _ ?_; clear hK K; refine Nav.imp ?_
            refine awp_region cx [] fun K hK => ?_
            simp [push_cast, e0]
            repeat (refine And.intro (by clear hK; intros; first | omega | (simp_all; done) | (simp_all <;> omega)) ?_)
            refine hK _ ?_; clear hK K; refine Nav.imp ?_
            refine ⟨(k + 1, out ++ [⟨y, L⟩]), ⟨hlt, by simp only; omega, hnext.symm⟩, by simp only; omega, ?_⟩
            refine weak_of [(0, some 0), (1, some 1), (2, some 2), (3, some 18)] rfl (by simp [upT, up, upL, push_cast, Row.row]) (by simp [upH, upR, upL, up, push_cast, Row.row]) (by simp [namesOk, push_cast]) (by simp [olds])
    · simp at hb
      have hf : fewR R = out := by
        rw [hout]
        unfold fewR
        congr 1
        by_cases h : k < R.length
        · rw [show k = 12 from by have := hb h; omega]
        · rw [List.take_of_length_le (by omega), List.take_of_length_le (by omega)]
      rw [hf]
      clear hf hout
      refine awp_freeze 3 (out.map Row.row) rfl (by simp [push_cast, Row.row]) fun K hK => ?_
      simp [push_cast, St.fz, fzT, fzH, fzO, fz, fzL, fzR, fzR_dr, fzR_app, fzR_set, fzL_map, Row.row]
      refine hK _ ?_; clear hK K; refine Nav.imp ?_
      refine awp_region cx [] fun K hK => ?_
      simp [push_cast]
      repeat (refine And.intro (by clear hK; intros; first | omega | (simp_all; done) | (simp_all <;> omega)) ?_)
      refine hK _ ?_; clear hK K; refine Nav.imp ?_
      simp [push_cast]
end Go.Proofs.Ytknelhiejjdioaa
