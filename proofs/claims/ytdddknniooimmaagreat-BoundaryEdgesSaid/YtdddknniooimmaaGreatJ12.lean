/-
  Texts of this seat put together: T3, T4, T5, T6, U1, BW14, BK8, BE6.
-/
import Derived.Test.YtdddknniooimmaaGreatJ11
import Derived.Test.YtdddknniooimmaaGreatJ9
import Derived.Test.YtdddknniooimmaaGreatJ6
import Derived.Test.YtdddknniooimmaaGreatJ7
import Derived.Test.YtdddknniooimmaaGreatJ10
set_option linter.unusedVariables false
set_option linter.unusedSimpArgs false
set_option maxRecDepth 100000
namespace Go.Proofs.YtdddknniooimmaaGreat
open Go.Abs

end Go.Proofs.YtdddknniooimmaaGreat

namespace Go.Proofs.YtdddknniooimmaaGreat
open Go.Abs

def ofR (l : List Cell) : List Row := if l.all onG then build (sortY l) else []
def ofE (l : List Cell) : Int := if l.all onG then 0 else 8
abbrev ofD (l : List Cell) : D := .tup [.agg (regRow (ofR l)), .int .i64 (ofE l)]

end Go.Proofs.YtdddknniooimmaaGreat

namespace Go.Proofs.YtdddknniooimmaaGreat
open Go.Abs

set_option maxHeartbeats 1000000 in
theorem rsame_ok (a b : List Row) (ha : smallR a) : PC Tryz.prog 26 [.agg (regRow a), .agg (regRow b)] (.p (.bool (decide (a = b)))) := by
  have hal := ha.1
  refine pc_of_awp cx (fn := Tryz.f26) (c := _) Tryz.func26 rfl rfl (Nat.le_of_ble_eq_true rfl) ?_
  rw [Tryz.ntmps26]; refine Nav.imp ?_
  refine awp_region cx [] fun K hK => ?_
  simp [push_cast]
  repeat (refine And.intro (by clear hK; intros; first | omega | (simp_all; done) | (simp_all <;> omega)) ?_)
  refine hK _ ?_; clear hK K; refine Nav.imp ?_
  refine awp_region cx [] fun K hK => ?_
  simp [push_cast]
  repeat (refine And.intro (by clear hK; intros; first | omega | (simp_all; done) | (simp_all <;> omega)) ?_)
  refine hK _ ?_; clear hK K; refine Nav.imp ?_
  refine awp_cond (by simp [push_cast] <;> exact rfl) (fun hb => ?_) (fun hb => ?_) <;> (refine Nav.imp ?_)
  · simp at hb
    have hne : a ≠ b := by intro e; subst e; simp at hb
    refine awp_region cx [] fun K hK => ?_
    simp [push_cast]
    repeat (refine And.intro (by clear hK; intros; first | omega | (simp_all; done) | (simp_all <;> omega)) ?_)
    refine hK _ ?_; clear hK K; refine Nav.imp ?_
    simp [push_cast, hne]
  · have hlen : a.length = b.length := by simp at hb; omega
    clear hb
    refine awp_region cx [] fun K hK => ?_
    simp [push_cast]
    repeat (refine And.intro (by clear hK; intros; first | omega | (simp_all; done) | (simp_all <;> omega)) ?_)
    refine hK _ ?_; clear hK K; refine Nav.imp ?_
    refine awp_loop (β := Nat) (fun k => ⟨65, [(2, .ptr 0 0 0), (3, .ptr 1 0 0), (5, .d (.int .i64 k))], [(0, some ⟨24, 1, [(regRow a).map .d]⟩), (1, some ⟨24, 1, [(regRow b).map .d]⟩)], 2⟩) (fun k => k ≤ a.length ∧ a.take k = b.take k) (fun k => a.length - k) 0 ?_ ⟨Nat.zero_le _, by simp⟩ ?_
    · refine weak_of [(0, some 0), (1, some 1)] rfl (by simp [upT, up, upL, push_cast]) (by simp [upH, upR, upL, up, push_cast]) (by simp [namesOk, push_cast]) (by simp [olds])
    · rintro k ⟨hk, hpre⟩
      refine Nav.imp ?_
      refine awp_region cx [] fun K hK => ?_
      simp [push_cast]
      repeat (refine And.intro (by clear hK; intros; first | omega | (simp_all; done) | (simp_all <;> omega)) ?_)
      refine hK _ ?_; clear hK K; refine Nav.imp ?_
      refine awp_cond (b := decide ((k : Int) < a.length)) (by simp [push_cast]) (fun hb => ?_) (fun hb => ?_) <;> (refine Nav.imp ?_)
      · have hlt : k < a.length := by simpa using hb
        obtain ⟨x, hx⟩ := getq hlt
        obtain ⟨y, hy⟩ : ∃ y, b[k]? = some y := getq (by omega)
        have e0 := wrap_i64 (n := (k : Int) + 1) (by omega) (by omega)
        have hxl := ha.2 x (List.mem_of_getElem? hx)
        have hno : x ≠ y → a ≠ b := fun h e => by
          subst e
          rw [hx] at hy
          exact h (Option.some.inj hy)
        obtain ⟨xy, xr⟩ := x
        obtain ⟨yy, yr⟩ := y
        simp only at hxl
        refine awp_region_draw cx mixed [] fun K hK => ?_
        simp [push_cast, hx, hy, Row.row]
        repeat (refine And.intro (by clear hK; intros; first | omega | (simp_all; done) | (simp_all <;> omega)) ?_)
        refine hK _ _ (by kernel_rfl) ?_; clear hK K; refine Nav.imp ?_
        refine awp_region cx [] fun K hK => ?_
        simp [push_cast, Row.row]
        repeat (refine And.intro (by clear hK; intros; first | omega | (simp_all; done) | (simp_all <;> omega)) ?_)
        refine hK _ ?_; clear hK K; refine Nav.imp ?_
        refine awp_cond (by simp [push_cast] <;> exact rfl) (fun hb => ?_) (fun hb => ?_) <;> (refine Nav.imp ?_)
        · have hn : a ≠ b := hno (by rintro ⟨⟩; simp at hb)
          refine awp_region cx [] fun K hK => ?_
          simp [push_cast]
          repeat (refine And.intro (by clear hK; intros; first | omega | (simp_all; done) | (simp_all <;> omega)) ?_)
          refine hK _ ?_; clear hK K; refine Nav.imp ?_
          simp [push_cast, hn]
        · simp at hb
          obtain ⟨hy0, hl0⟩ := hb
          have hl0 : xr.length = yr.length := by omega
          subst hy0
          refine awp_region cx [] fun K hK => ?_
          simp [push_cast]
          repeat (refine And.intro (by clear hK; intros; first | omega | (simp_all; done) | (simp_all <;> omega)) ?_)
          refine hK _ ?_; clear hK K; refine Nav.imp ?_
          refine awp_loop (β := Nat) (fun j => ⟨65, [(2, .ptr 0 0 0), (3, .ptr 1 0 0), (5, .d (.int .i64 k)), (6, .ptr 2 0 0), (7, .ptr 3 0 0), (8, .d (.int .i64 j))], [(0, some ⟨24, 1, [(regRow a).map .d]⟩), (1, some ⟨24, 1, [(regRow b).map .d]⟩), (2, some ⟨65, 2, [(Row.row ⟨xy, xr⟩).map .d]⟩), (3, some ⟨65, 2, [(Row.row ⟨xy, yr⟩).map .d]⟩)], 4⟩) (fun j => j ≤ xr.length ∧ xr.take j = yr.take j) (fun j => xr.length - j) 0 ?_ ⟨Nat.zero_le _, by simp⟩ ?_
          · refine weak_of [(0, some 0), (1, some 1), (2, some 17), (3, some 18)] rfl (by simp [upT, up, upL, push_cast, Row.row]) (by simp [upH, upR, upL, up, push_cast, Row.row]) (by simp [namesOk, push_cast]) (by simp [olds])
          · rintro j ⟨hj, hpr⟩
            refine Nav.imp ?_
            refine awp_region cx [] fun K hK => ?_
            simp [push_cast, Row.row]
            repeat (refine And.intro (by clear hK; intros; first | omega | (simp_all; done) | (simp_all <;> omega)) ?_)
            refine hK _ ?_; clear hK K; refine Nav.imp ?_
            refine awp_cond (b := decide ((j : Int) < xr.length)) (by simp [push_cast]) (fun hb => ?_) (fun hb => ?_) <;> (refine Nav.imp ?_)
            · have hjl : j < xr.length := by simpa using hb
              obtain ⟨p, hp⟩ := getq hjl
              obtain ⟨q, hq⟩ : ∃ y, yr[j]? = some y := getq (by omega)
              have e1 := wrap_i64 (n := (j : Int) + 1) (by omega) (by omega)
              have hn2 : p ≠ q → a ≠ b := fun h => hno fun e => by
                injection e with _ e2
                subst e2
                rw [hp] at hq
                exact h (Option.some.inj hq)
              obtain ⟨pa, pb⟩ := p
              obtain ⟨qa, qb⟩ := q
              refine awp_region_draw cx mixed [] fun K hK => ?_
              simp [push_cast, hp, hq, Row.row, Run.row]
              repeat (refine And.intro (by clear hK; intros; first | omega | (simp_all; done) | (simp_all <;> omega)) ?_)
              refine hK _ _ (by kernel_rfl) ?_; clear hK K; refine Nav.imp ?_
              refine awp_cond (by simp [push_cast] <;> exact rfl) (fun hb => ?_) (fun hb => ?_) <;> (refine Nav.imp ?_)
              · have hn : a ≠ b := hn2 (by rintro ⟨⟩; simp at hb)
                refine awp_region cx [] fun K hK => ?_
                simp [push_cast]
                repeat (refine And.intro (by clear hK; intros; first | omega | (simp_all; done) | (simp_all <;> omega)) ?_)
                refine hK _ ?_; clear hK K; refine Nav.imp ?_
                simp [push_cast, hn]
              · simp at hb
                obtain ⟨h1, h2⟩ := hb
                subst h1 h2
                refine awp_region cx [] fun K hK => ?_
                simp [push_cast, e1]
                repeat (refine And.intro (by clear hK; intros; first | omega | (simp_all; done) | (simp_all <;> omega)) ?_)
                refine hK _ ?_; clear hK K; refine Nav.imp ?_
                refine ⟨j + 1, ⟨hjl, take_eq_step hpr hp hq rfl⟩, by omega, ?_⟩
                refine weak_of [(0, some 0), (1, some 1), (2, some 2), (3, some 3)] rfl (by simp [upT, up, upL, push_cast, Row.row]) (by simp [upH, upR, upL, up, push_cast, Row.row]) (by simp [namesOk, push_cast]) (by simp [olds])
            · have hjn : j = xr.length := by simp at hb; omega
              subst hjn
              rw [List.take_length, hl0, List.take_length] at hpr
              subst hpr
              refine awp_region cx [] fun K hK => ?_
              simp [push_cast, e0]
              repeat (refine And.intro (by clear hK; intros; first | omega | (simp_all; done) | (simp_all <;> omega)) ?_)
              refine hK _ ?_; clear hK K; refine Nav.imp ?_
              refine ⟨k + 1, ⟨hlt, take_eq_step hpre hx hy rfl⟩, by omega, ?_⟩
              refine weak_of [(0, some 0), (1, some 1)] rfl (by simp [upT, up, upL, push_cast]) (by simp [upH, upR, upL, up, push_cast]) (by simp [namesOk, push_cast]) (by simp [olds])
      · have hge : k = a.length := by simp at hb; omega
        subst hge
        rw [List.take_length, hlen, List.take_length] at hpre
        refine awp_region cx [] fun K hK => ?_
        simp [push_cast]
        repeat (refine And.intro (by clear hK; intros; first | omega | (simp_all; done) | (simp_all <;> omega)) ?_)
        refine hK _ ?_; clear hK K; refine Nav.imp ?_
        simp [push_cast, hpre]
end Go.Proofs.YtdddknniooimmaaGreat

namespace Go.Proofs.YtdddknniooimmaaGreat
open Go.Abs

def cfD : List D → List D → Int
  | [.int _ ax, .int _ ay], [.int _ bx, .int _ by'] => orI (cmpI ay by') (cmpI ax bx)
  | _, _ => 0
def ofTl : Option (Int × List Run) → List (List AV)
  | none => []
  | some (y, L) => [[.d (.int .i64 y), .hs 3 0 L.length]]
def ofRl : Option (Int × List Run) → List Run
  | none => []
  | some (_, L) => L
def ofX (P : List Row) : Option (Int × List Run) → List Row
  | none => P
  | some (y, L) => P ++ [⟨y, L⟩]

end Go.Proofs.YtdddknniooimmaaGreat

namespace Go.Proofs.YtdddknniooimmaaGreat
open Go.Abs

def lenN (l : List Run) : Nat := (l.flatMap (runCells 0)).length
theorem lenN_take {l : List Run} {k : Nat} {r : Run} (h : l[k]? = some r) : lenN (l.take (k + 1)) = lenN (l.take k) + (r.b - r.a).toNat := by
  unfold lenN
  rw [flat_take _ h, List.length_append, runCells_len]
theorem rowCells_len (w : Row) : (rowCells w).length = lenN w.runs := by
  unfold rowCells lenN
  rw [List.length_flatMap, List.length_flatMap]
  simp only [runCells_len]
theorem lenN_bound {l : List Run} (h : rvalid l = true) : ∀ k, k ≤ l.length → lenN (l.take k) ≤ k * 2097152
  | 0, _ => by simp [lenN]
  | k + 1, hk => by
    obtain ⟨r, hr⟩ := getq (show k < l.length by omega)
    have h1 := lenN_bound h k (by omega)
    have h2 := fitsB_bd (rvalid_at h hr).2
    rw [lenN_take hr, Nat.succ_mul]
    omega

theorem length_ok (l : List Run) (hl : l.length ≤ 1000000) (hv : rvalid l = true) : PC Tryz.prog 55 [encRuns l] (.p (.int .i64 (lenN l))) := by
  have c1 := rvalid_ok l hl
  rw [hv] at c1
  refine pc_of_awp cx (fn := Tryz.f55) (c := _) Tryz.func55 rfl rfl (Nat.le_of_ble_eq_true rfl) ?_
  rw [Tryz.ntmps55]; refine Nav.imp ?_
  refine awp_region cx [] fun K hK => ?_
  simp [push_cast]
  repeat (refine And.intro (by clear hK; intros; first | omega | (simp_all; done) | (simp_all <;> omega)) ?_)
  refine hK _ ?_; clear hK K; refine Nav.imp ?_
  refine awp_region cx [(1, .p (.bool true))] fun K hK => ?_
  simp [push_cast, c1]
  repeat (refine And.intro (by clear hK; intros; first | omega | (simp_all; done) | (simp_all <;> omega)) ?_)
  refine hK _ ?_; clear hK K; refine Nav.imp ?_
  refine awp_cond (b := false) (by simp [push_cast]) (fun hb => ?_) (fun hb => ?_) <;> (refine Nav.imp ?_)
  · simp at hb
  · refine awp_region cx [] fun K hK => ?_
    simp [push_cast]
    repeat (refine And.intro (by clear hK; intros; first | omega | (simp_all; done) | (simp_all <;> omega)) ?_)
    refine hK _ ?_; clear hK K; refine Nav.imp ?_
    refine awp_region cx [] fun K hK => ?_
    simp [push_cast]
    repeat (refine And.intro (by clear hK; intros; first | omega | (simp_all; done) | (simp_all <;> omega)) ?_)
    refine hK _ ?_; clear hK K; refine Nav.imp ?_
    refine awp_loop (β := Nat × Nat) (fun b => ⟨24, [(3, .d (.int .i64 b.2)), (9, .d (encRuns l)), (10, .d (.int .i64 l.length)), (11, .d (.int .i64 b.1))], [], 0⟩) (fun b => b.1 ≤ l.length ∧ b.2 = lenN (l.take b.1)) (fun b => l.length - b.1) (0, 0) ?_ ⟨Nat.zero_le _, by simp [lenN]⟩ ?_
    · refine weak_of [] rfl (by simp [upT, up, upL, push_cast]) (by simp [upH, upR, upL, up, push_cast]) (by simp [namesOk, push_cast]) (by simp [olds])
    · rintro ⟨k, n0⟩ ⟨hk, hn⟩
      simp only at hk hn
      refine Nav.imp ?_
      refine awp_region cx [] fun K hK => ?_
      simp [push_cast]
      repeat (refine And.intro (by clear hK; intros; first | omega | (simp_all; done) | (simp_all <;> omega)) ?_)
      refine hK _ ?_; clear hK K; refine Nav.imp ?_
      refine awp_cond (b := decide ((k : Int) < l.length)) (by simp [push_cast]) (fun hb => ?_) (fun hb => ?_) <;> (refine Nav.imp ?_)
      · have hlt : k < l.length := by simpa using hb
        obtain ⟨r, hr⟩ := getq hlt
        have hs := lenN_take hr
        have hbd := lenN_bound hv k (by omega)
        rw [← hn] at hs hbd
        have hrf := rvalid_at hv hr
        have hf := fitsB_bd hrf.2
        obtain ⟨ra, rb⟩ := r
        simp only at hs hrf hf
        have e0 := wrap_i64 (n := (k : Int) + 1) (by omega) (by omega)
        have e1 := wrap_i64 (n := rb - ra) (by omega) (by omega)
        have e2 := wrap_i64 (n := (n0 : Int) + (rb - ra)) (by omega) (by omega)
        have e3 : (n0 : Int) + (rb - ra) = (lenN (l.take (k + 1)) : Nat) := by rw [hs]; omega
        rw [e3] at e2
        generalize hn1 : lenN (l.take (k + 1)) = n1 at *
        refine awp_region cx [] fun K hK => ?_
        simp [push_cast, hr, Run.row]
        repeat (refine And.intro (by clear hK; intros; first | omega | (simp_all; done) | (simp_all <;> omega)) ?_)
        refine hK _ ?_; clear hK K; refine Nav.imp ?_
        refine awp_region cx [] fun K hK => ?_
        simp [push_cast, e1, e2, e3, Run.row]
        repeat (refine And.intro (by clear hK; intros; first | omega | (simp_all; done) | (simp_all <;> omega)) ?_)
        refine hK _ ?_; clear hK K; refine Nav.imp ?_
        refine awp_region cx [] fun K hK => ?_
        simp [push_cast, e0]
        repeat (refine And.intro (by clear hK; intros; first | omega | (simp_all; done) | (simp_all <;> omega)) ?_)
        refine hK _ ?_; clear hK K; refine Nav.imp ?_
        refine ⟨(k + 1, n1), ⟨hlt, hn1.symm⟩, by simp only; omega, ?_⟩
        refine weak_of [] rfl (by simp [upT, up, upL, push_cast]) (by simp [upH, upR, upL, up, push_cast]) (by simp [namesOk, push_cast]) (by simp [olds])
      · have hge : k = l.length := by simp at hb; omega
        subst hge
        rw [List.take_length] at hn
        subst hn
        refine awp_region cx [] fun K hK => ?_
        simp [push_cast]
        repeat (refine And.intro (by clear hK; intros; first | omega | (simp_all; done) | (simp_all <;> omega)) ?_)
        refine hK _ ?_; clear hK K; refine Nav.imp ?_
        simp [push_cast]

def countR (R : List Row) : Nat := if validR R then (regCells R).length else 0
theorem rows_bound {R : List Row} (h : validR R = true) (hR : smallR R) : ∀ i, i ≤ R.length → (rowsTo R i).length ≤ i * 2097152000000
  | 0, _ => by simp [rowsTo]
  | i + 1, hi => by
    obtain ⟨w, hw⟩ := getq (show i < R.length by omega)
    have h1 := rows_bound h hR i (by omega)
    have h2 := lenN_bound (fine_rv (validR_at h hw).2) w.runs.length (Nat.le_refl _)
    have h3 := hR.2 w (List.mem_of_getElem? hw)
    rw [rowsTo_next hw, List.length_append, rowCells_len, Nat.succ_mul]
    rw [List.take_length] at h2
    have := Nat.mul_le_mul_right 2097152 h3
    omega
theorem rows_big {R : List Row} (h : validR R = true) (hR : smallR R) {i : Nat} (hi : i ≤ R.length) : (rowsTo R i).length ≤ 2097152000000000000 := by
  have h1 := rows_bound h hR i hi
  have h2 := hR.1
  have := Nat.mul_le_mul_right 2097152000000 (show i ≤ 1000000 by omega)
  omega

theorem count_ok (R : List Row) (hR : smallR R) : PC Tryz.prog 42 [.agg (regRow R)] (.p (.int .i64 (countR R))) := by
  have c1 := valid_ok R hR
  have hl := hR.1
  have hC : countR R = if validR R then (regCells R).length else 0 := rfl
  generalize hv : validR R = v at *
  refine pc_of_awp cx (fn := Tryz.f42) (c := _) Tryz.func42 rfl rfl (Nat.le_of_ble_eq_true rfl) ?_
  rw [Tryz.ntmps42]; refine Nav.imp ?_
  refine awp_region cx [] fun K hK => ?_
  simp [push_cast]
  repeat (refine And.intro (by clear hK; intros; first | omega | (simp_all; done) | (simp_all <;> omega)) ?_)
  refine hK _ ?_; clear hK K; refine Nav.imp ?_
  refine awp_region cx [(1, .p (.bool v))] fun K hK => ?_
  simp [push_cast, c1]
  repeat (refine And.intro (by clear hK; intros; first | omega | (simp_all; done) | (simp_all <;> omega)) ?_)
  refine hK _ ?_; clear hK K; refine Nav.imp ?_
  refine awp_cond (b := !v) (by simp [push_cast]) (fun hb => ?_) (fun hb => ?_) <;> (refine Nav.imp ?_)
  · simp at hb
    rw [hC, hb]
    refine awp_region cx [] fun K hK => ?_
    simp [push_cast]
    repeat (refine And.intro (by clear hK; intros; first | omega | (simp_all; done) | (simp_all <;> omega)) ?_)
    refine hK _ ?_; clear hK K; refine Nav.imp ?_
    simp [push_cast]
  · simp at hb
    rw [hb] at hv hC
    rw [hC, if_pos rfl]
    clear hC
    refine awp_region cx [] fun K hK => ?_
    simp [push_cast]
    repeat (refine And.intro (by clear hK; intros; first | omega | (simp_all; done) | (simp_all <;> omega)) ?_)
    refine hK _ ?_; clear hK K; refine Nav.imp ?_
    refine awp_region cx [] fun K hK => ?_
    simp [push_cast]
    repeat (refine And.intro (by clear hK; intros; first | omega | (simp_all; done) | (simp_all <;> omega)) ?_)
    refine hK _ ?_; clear hK K; refine Nav.imp ?_
    refine awp_loop (β := Nat × Nat) (fun b => ⟨23, [(3, .d (.int .i64 b.2)), (10, .d (encRows R)), (11, .d (.int .i64 R.length)), (12, .d (.int .i64 b.1))], [], 0⟩) (fun b => b.1 ≤ R.length ∧ b.2 = (rowsTo R b.1).length) (fun b => R.length - b.1) (0, 0) ?_ ⟨Nat.zero_le _, by simp [rowsTo]⟩ ?_
    · refine weak_of [] rfl (by simp [upT, up, upL, push_cast]) (by simp [upH, upR, upL, up, push_cast]) (by simp [namesOk, push_cast]) (by simp [olds])
    · rintro ⟨k, n0⟩ ⟨hk, hn⟩
      simp only at hk hn
      refine Nav.imp ?_
      refine awp_region cx [] fun K hK => ?_
      simp [push_cast]
      repeat (refine And.intro (by clear hK; intros; first | omega | (simp_all; done) | (simp_all <;> omega)) ?_)
      refine hK _ ?_; clear hK K; refine Nav.imp ?_
      refine awp_cond (b := decide ((k : Int) < R.length)) (by simp [push_cast]) (fun hb => ?_) (fun hb => ?_) <;> (refine Nav.imp ?_)
      · have hlt : k < R.length := by simpa using hb
        obtain ⟨w, hw⟩ := getq hlt
        have hs : (rowsTo R (k + 1)).length = n0 + lenN w.runs := by rw [rowsTo_next hw, List.length_append, rowCells_len, hn]
        have hbd := rows_big hv hR (i := k + 1) hlt
        have c2 := length_ok w.runs (hR.2 w (List.mem_of_getElem? hw)) (fine_rv (validR_at hv hw).2)
        have e0 := wrap_i64 (n := (k : Int) + 1) (by omega) (by omega)
        have e2 := wrap_i64 (n := (n0 : Int) + (lenN w.runs : Nat)) (by omega) (by omega)
        have e3 : (n0 : Int) + (lenN w.runs : Nat) = ((rowsTo R (k + 1)).length : Nat) := by rw [hs]; omega
        rw [e3] at e2
        generalize hn1 : (rowsTo R (k + 1)).length = n1 at *
        obtain ⟨y, ru⟩ := w
        simp only at c2 e3
        generalize lenN ru = m at *
        refine awp_region cx [] fun K hK => ?_
        simp [push_cast, hw, Row.row]
        repeat (refine And.intro (by clear hK; intros; first | omega | (simp_all; done) | (simp_all <;> omega)) ?_)
        refine hK _ ?_; clear hK K; refine Nav.imp ?_
        refine awp_region cx [(3, .p (.int .i64 m))] fun K hK => ?_
        simp [push_cast, c2, e2, e3, Row.row]
        repeat (refine And.intro (by clear hK; intros; first | omega | (simp_all; done) | (simp_all <;> omega)) ?_)
        refine hK _ ?_; clear hK K; refine Nav.imp ?_
        refine awp_region cx [] fun K hK => ?_
        simp [push_cast, e0]
        repeat (refine And.intro (by clear hK; intros; first | omega | (simp_all; done) | (simp_all <;> omega)) ?_)
        refine hK _ ?_; clear hK K; refine Nav.imp ?_
        refine ⟨(k + 1, n1), ⟨hlt, hn1.symm⟩, by simp only; omega, ?_⟩
        refine weak_of [] rfl (by simp [upT, up, upL, push_cast]) (by simp [upH, upR, upL, up, push_cast]) (by simp [namesOk, push_cast]) (by simp [olds])
      · have hge : k = R.length := by simp at hb; omega
        subst hge
        rw [rowsTo_all] at hn
        subst hn
        refine awp_region cx [] fun K hK => ?_
        simp [push_cast]
        repeat (refine And.intro (by clear hK; intros; first | omega | (simp_all; done) | (simp_all <;> omega)) ?_)
        refine hK _ ?_; clear hK K; refine Nav.imp ?_
        simp [push_cast]

def smallB (R : List Row) : Bool := decide (R.length ≤ 40) && R.all (fun w => decide (w.runs.length ≤ 40)) && decide (countR R ≤ 600)
end Go.Proofs.YtdddknniooimmaaGreat

namespace Go.Proofs.YtdddknniooimmaaGreat
open Go.Abs

theorem eflat_len (y : Int) (l : List Run) : (l.flatMap (eRun y)).length = lenN l := by
  unfold lenN
  rw [List.length_flatMap, List.length_flatMap]
  simp only [runCells_len]
  simp [eRun]
theorem wflat_len (y : Int) (l : List Run) : (l.flatMap (wRun y)).length = lenN l := by
  unfold lenN
  rw [List.length_flatMap, List.length_flatMap]
  simp only [runCells_len]
  simp [wRun]
theorem vflat_len (y : Int) : ∀ (l : List Run), (l.flatMap (vRun y)).length = 2 * l.length
  | [] => rfl
  | r :: l => by
    have := vflat_len y l
    simp only [List.flatMap_cons, List.length_append, vRun, List.length_cons, List.length_nil] at *
    omega
set_option maxHeartbeats 16000000 in
theorem blength_ok (R : List Row) (hR : smallR R) (hbig : validR R = true → (collectL R).length ≤ 10000000) : PC Tryz.prog 14 [.agg (regRow R)] (.p (.int .i64 (if validR R then (collectL R).length else 0 : Nat))) := by
  have c1 := valid_ok R hR
  have hv0 : validR R = validR R := rfl
  generalize hv : validR R = v at c1 hbig
  have hl := hR.1
  refine pc_of_awp cx (fn := Tryz.f14) (c := _) Tryz.func14 rfl rfl (Nat.le_of_ble_eq_true rfl) ?_
  rw [Tryz.ntmps14]; refine Nav.imp ?_
  refine awp_region cx [] fun K hK => ?_
  simp [push_cast]
  repeat (refine And.intro (by clear hK; intros; first | omega | (simp_all; done) | (simp_all <;> omega)) ?_)
  refine hK _ ?_; clear hK K; refine Nav.imp ?_
  refine awp_region cx [(1, .p (.bool v))] fun K hK => ?_
  simp [push_cast, c1]
  repeat (refine And.intro (by clear hK; intros; first | omega | (simp_all; done) | (simp_all <;> omega)) ?_)
  refine hK _ ?_; clear hK K; refine Nav.imp ?_
  refine awp_cond (b := !v) (by simp [push_cast]) (fun hb => ?_) (fun hb => ?_) <;> (refine Nav.imp ?_)
  · simp at hb
    subst hb
    refine awp_region cx [] fun K hK => ?_
    simp [push_cast]
    repeat (refine And.intro (by clear hK; intros; first | omega | (simp_all; done) | (simp_all <;> omega)) ?_)
    refine hK _ ?_; clear hK K; refine Nav.imp ?_
    simp [push_cast]
  · simp at hb
    subst hb
    have hbig := hbig rfl
    rw [if_pos rfl]
    obtain ⟨full, hfull⟩ : ∃ full, full = collectL R := ⟨_, rfl⟩
    have htk : ∀ i, i ≤ R.length → ((R.take i).flatMap (rowCr R)).length ≤ 10000000 := fun i _ => by
      have e : collectL R = (R.take i).flatMap (rowCr R) ++ (R.drop i).flatMap (rowCr R) := by
        unfold collectL
        rw [← List.flatMap_append, List.take_append_drop]
      rw [e, List.length_append] at hbig
      omega
    have hend : collectL R = (R.take R.length).flatMap (rowCr R) := by rw [List.take_length]; rfl
    rw [hend]
    have hnx : ∀ i w, R[i]? = some w → ((R.take (i + 1)).flatMap (rowCr R)).length = ((R.take i).flatMap (rowCr R)).length + (rowCr R w).length := fun i w h => by rw [flat_take _ h, List.length_append]
    generalize hC : (fun i => ((R.take i).flatMap (rowCr R)).length) = C at *
    have hC' : ∀ i, ((R.take i).flatMap (rowCr R)).length = C i := fun i => by rw [← hC]
    have hC0 : C 0 = 0 := by rw [← hC]; rfl
    simp only [hC'] at htk hnx ⊢
    clear hC hC' hend hfull
    refine awp_region cx [] fun K hK => ?_
    simp [push_cast]
    repeat (refine And.intro (by clear hK; intros; first | omega | (simp_all; done) | (simp_all <;> omega)) ?_)
    refine hK _ ?_; clear hK K; refine Nav.imp ?_
    refine awp_region cx [] fun K hK => ?_
    simp [push_cast]
    repeat (refine And.intro (by clear hK; intros; first | omega | (simp_all; done) | (simp_all <;> omega)) ?_)
    refine hK _ ?_; clear hK K; refine Nav.imp ?_
    refine awp_loop (β := Nat) (fun i => ⟨45, [(1, .ptr 0 0 0), (3, .d (.int .i64 (C i : Nat))), (12, .d (encRows R)), (13, .d (.int .i64 R.length)), (14, .d (.int .i64 i))], [(0, some ⟨24, 1, [[.d (encRows R)]]⟩)], 1⟩) (fun i => i ≤ R.length) (fun i => R.length - i) 0 ?_ (Nat.zero_le _) ?_
    · refine weak_of [(0, some 0)] rfl (by simp [upT, up, upL, push_cast, hC0]) (by simp [upH, upR, upL, up, push_cast, hC0]) (by simp [namesOk, push_cast]) (by simp [olds])
    · intro i hi
      refine Nav.imp ?_
      refine awp_region cx [] fun K hK => ?_
      simp [push_cast]
      repeat (refine And.intro (by clear hK; intros; first | omega | (simp_all; done) | (simp_all <;> omega)) ?_)
      refine hK _ ?_; clear hK K; refine Nav.imp ?_
      refine awp_cond (b := decide ((i : Int) < R.length)) (by simp [push_cast]) (fun hb => ?_) (fun hb => ?_) <;> (refine Nav.imp ?_)
      · have hlt : i < R.length := by simpa using hb
        obtain ⟨w, hw⟩ := getq hlt
        have c1 := around_ok R i w hv hR hw
        have e0 := wrap_i64 (n := (i : Int) + 1) (by omega) (by omega)
        obtain ⟨hy, hfw⟩ := validR_at hv hw
        have hB := rowOf_rv hv (w.y - 1)
        have hU := rowOf_rv hv (w.y + 1)
        have hBl : (rowOf R (w.y - 1)).length ≤ 1000000 := rowOf_len3 hR _
        have hUl : (rowOf R (w.y + 1)).length ≤ 1000000 := rowOf_len3 hR _
        have hwl := hR.2 w (List.mem_of_getElem? hw)
        have c2 := subtract_ok w.runs _ hwl hBl (fine_rv hfw) hB
        have c3 := subtract_ok w.runs _ hwl hUl (fine_rv hfw) hU
        have hL1 := sub_bd hfw hB
        have hL2 := sub_bd hfw hU
        have hLl1 := sub_len hfw hB
        have hLl2 := sub_len hfw hU
        have v1 : rvalid (sweep fD w.runs (rowOf R (w.y - 1))) = true := sweep_valid rfl (fine_rv hfw) hB
        have v2 : rvalid (sweep fD w.runs (rowOf R (w.y + 1))) = true := sweep_valid rfl (fine_rv hfw) hU
        have c4 := length_ok _ hLl1 v1
        have c5 := length_ok _ hLl2 v2
        have q1 := eflat_len w.y (sweep fD w.runs (rowOf R (w.y - 1)))
        have q2 := wflat_len w.y (sweep fD w.runs (rowOf R (w.y + 1)))
        have q3 := vflat_len w.y w.runs
        have hn1 := hnx i w hw
        have ht1 := htk (i + 1) hlt
        have ht0 := htk i hi
        unfold rowCr at hn1
        rw [List.length_append, List.length_append, q3] at hn1
        obtain ⟨y, rs⟩ := w
        simp only at *
        generalize rowOf R (y - 1) = B at *
        generalize rowOf R (y + 1) = U at *
        generalize sweep fD rs B = L1 at *
        generalize sweep fD rs U = L2 at *
        generalize (L1.flatMap (eRun y)).length = n1 at *
        generalize (L2.flatMap (wRun y)).length = n2 at *
        rw [← q1] at c4
        rw [← q2] at c5
        have hC1 : ((C (i + 1) : Nat) : Int) = (C i : Int) + (n1 + n2 + 2 * rs.length) := by omega
        have ht2 : (C i : Int) + (n1 + n2 + 2 * rs.length) ≤ 10000000 := by omega
        generalize C i = C0 at *
        have w1 := wrap_i64 (n := (n1 : Int) + n2) (by omega) (by omega)
        have w2 := wrap_i64 (n := (2 : Int) * rs.length) (by omega) (by omega)
        have w3 := wrap_i64 (n := (n1 : Int) + n2 + 2 * rs.length) (by omega) (by omega)
        have w4 := wrap_i64 (n := (C0 : Int) + (n1 + n2 + 2 * rs.length)) (by omega) (by omega)
        refine awp_region cx [] fun K hK => ?_
        simp [push_cast, hw]
        repeat (refine And.intro (by clear hK; intros; first | omega | (simp_all; done) | (simp_all <;> omega)) ?_)
        refine hK _ ?_; clear hK K; refine Nav.imp ?_
        refine awp_region cx [(2, .p (.tup [encRuns B, encRuns U]))] fun K hK => ?_
        simp [push_cast, c1]
        repeat (refine And.intro (by clear hK; intros; first | omega | (simp_all; done) | (simp_all <;> omega)) ?_)
        refine hK _ ?_; clear hK K; refine Nav.imp ?_
        refine awp_region_draw cx mixed [(4, .p (encRuns L1)), (5, .p (.int .i64 n1)), (9, .p (encRuns L2)), (10, .p (.int .i64 n2))] fun K hK => ?_
        simp [push_cast, c2, c3, c4, c5, w1, w2, w3, w4]
        repeat (refine And.intro (by clear hK; intros; first | omega | (simp_all; done) | (simp_all <;> omega)) ?_)
        refine hK _ _ (by kernel_rfl) ?_; clear hK K; refine Nav.imp ?_
        refine awp_region cx [] fun K hK => ?_
        simp [push_cast, e0]
        repeat (refine And.intro (by clear hK; intros; first | omega | (simp_all; done) | (simp_all <;> omega)) ?_)
        refine hK _ ?_; clear hK K; refine Nav.imp ?_
        refine ⟨i + 1, hlt, by omega, ?_⟩
        refine weak_of [(0, some 0)] rfl (by simp [upT, up, upL, push_cast, hC1]) (by simp [upH, upR, upL, up, push_cast, hC1]) (by simp [namesOk, push_cast]) (by simp [olds])
      · have hie : i = R.length := by simp at hb; omega
        subst hie
        refine awp_region cx [] fun K hK => ?_
        simp [push_cast]
        repeat (refine And.intro (by clear hK; intros; first | omega | (simp_all; done) | (simp_all <;> omega)) ?_)
        refine hK _ ?_; clear hK K; refine Nav.imp ?_
        simp [push_cast]
end Go.Proofs.YtdddknniooimmaaGreat

namespace Go.Proofs.YtdddknniooimmaaGreat
open Go.Abs

theorem mv_bad {a : Cell} {h : Hd} {k : Int} (hk : 1 ≤ k) (ha : (-4096 ≤ a.x ∧ a.x ≤ 4096) ∧ -4096 ≤ a.y ∧ a.y ≤ 4096) : badE a (mv a h k) = false := by
  unfold badE
  simp only [Bool.or_eq_false_iff, decide_eq_false_iff_not]
  refine ⟨⟨by omega, by omega⟩, ?_⟩
  cases h <;> simp [mv] <;> omega
theorem poly_near {R : List Row} (hv : validR R = true) {L : List Crk} (hL : IsLp (Sof R) L) : ∀ p ∈ polyOf L, (-4096 ≤ p.x ∧ p.x ≤ 4096) ∧ -4096 ≤ p.y ∧ p.y ≤ 4096 := by
  have hC : ∀ d ∈ L, d ∈ collectL R := fun d hd => by
    obtain ⟨c, n, hc, pc, rfl, _⟩ := hL
    exact (collect_mem hv d).2 (orb_isC hc hd)
  intro p hp
  have : ∃ d ∈ L, d.p = p := by
    cases L with
    | nil => cases hp
    | cons c t =>
      rcases List.mem_cons.1 hp with rfl | hp
      · exact ⟨c, by simp, rfl⟩
      · obtain ⟨d, hd, e⟩ := turnG_mem hp; exact ⟨d, by simp [hd], e⟩
  obtain ⟨d, hd, rfl⟩ := this
  exact collect_near hv (hC d hd)
theorem trace_good {R : List Row} (hv : validR R = true) {Ls : List (List Crk)} (h : Lps (Sof R) Ls) : badL (Ls.map polyOf) = false := by
  unfold badL
  rw [List.any_eq_false]
  intro P hP
  obtain ⟨L, hL, rfl⟩ := List.mem_map.1 hP
  have hl := h.each L hL
  have hn := poly_near hv hl
  obtain ⟨p, P, hPe, hst, _⟩ := loop_path hl
  rw [hPe] at hn ⊢
  unfold badP
  rw [Bool.not_eq_true, List.any_eq_false]
  intro k hk
  rw [List.mem_range] at hk
  obtain ⟨h1, h2⟩ := cyc_get (p := p) (P := P) (k := k) (by simpa using hk)
  obtain ⟨a, ha⟩ := getq hk
  obtain ⟨b, hb⟩ := getq (l := p :: P) (k := (k + 1) % (p :: P).length) (Nat.mod_lt _ (by simp))
  rw [badAt_some ha hb, Bool.not_eq_true]
  obtain ⟨d, j, hj, rfl⟩ := pathAll_get hst k a b (h1.trans ha) (h2.trans hb)
  exact mv_bad hj (hn a (List.mem_of_getElem? ha))
theorem flat_sum_len : ∀ Ls : List (List Crk), ((Ls.map polyOf).map List.length).sum ≤ Ls.flatten.length
  | [] => by simp
  | L :: Ls => by
    have h1 := flat_sum_len Ls
    have h2 := polyOf_len L
    simp only [List.map_cons, List.sum_cons, List.flatten_cons, List.length_append]
    omega
theorem mem_sum_le : ∀ {l : List (List Cell)} {P : List Cell}, P ∈ l → P.length ≤ (l.map List.length).sum
  | Q :: l, P, h => by
    rw [List.map_cons, List.sum_cons]
    rcases List.mem_cons.1 h with rfl | h
    · omega
    · have := mem_sum_le h; omega
theorem len_le_flat {S : Cell → Bool} : ∀ {Ls : List (List Crk)}, (∀ L ∈ Ls, IsLp S L) → Ls.length ≤ Ls.flatten.length
  | [], _ => by simp
  | L :: Ls, h => by
    have h1 := len_le_flat fun M hM => h M (List.mem_cons_of_mem L hM)
    obtain ⟨c, n, hc, pc, rfl, _⟩ := h L (by simp)
    have := pc.pos
    rw [List.flatten_cons, List.length_append, orb_length, List.length_cons]
    omega
theorem trace_sizes {R : List Row} (hv : validR R = true) {Ls : List (List Crk)} (h : Lps (Sof R) Ls) : Ls.length ≤ (collectL R).length ∧ ((Ls.map polyOf).map List.length).sum ≤ (collectL R).length := by
  have hp := (lps_perm (collect_cracks hv) (collect_nodup hv) h).length_eq
  have h1 := len_le_flat h.each
  have h2 := flat_sum_len Ls
  omega
theorem back_trace {R : List Row} (hv : validR R = true) (hbig : (collectL R).length ≤ 1000000) {Ls : List (List Crk)} (h : Lps (Sof R) Ls) : PC Tryz.prog 37 [encPs (Ls.map polyOf)] (.p (.tup [.agg (regRow R), .int .i64 0])) := by
  obtain ⟨s1, s2⟩ := trace_sizes hv h
  obtain ⟨B, hB, hBc⟩ := back_spec (Ls.map polyOf) (by rw [List.length_map]; omega) (fun P hP => by have := mem_sum_le hP; omega) (by omega)
  have hg := trace_good hv h
  obtain ⟨b1, b2⟩ := hBc hg
  rw [hg] at hB
  have : B = R := region_uniq b1 hv fun c => by
    rw [b2, trace_wS hv h, rowOf_in hv]
    unfold Sof
    split
    · rename_i h; simp [h]
    · rename_i h; simp [h]
  rw [this] at hB
  exact hB

def R0 : List Row := [⟨1, [⟨2, 3⟩]⟩]
set_option maxHeartbeats 4000000 in
theorem awake_ok : PC Tryz.prog 35 [] (.p (.bool true)) := by
  have hv : validR R0 = true := by decide
  have hsm : smallR R0 := ⟨by decide, by decide⟩
  have hlen : (collectL R0).length = 4 := by decide
  obtain ⟨Ls, hL⟩ := lps_ex (collect_cracks hv)
  have c1 := trace_ok R0 hsm (fun _ => by omega) Ls fun _ => hL
  have c2 := back_trace hv (by omega) hL
  have c3 := blength_ok R0 hsm fun _ => by omega
  rw [hv, if_pos rfl] at c1 c3
  rw [hlen] at c3
  have c4 := rsame_ok R0 R0 hsm
  have e : Ls.map (fun L => [encCells (polyOf L)]) = (Ls.map polyOf).map polyRow := by rw [List.map_map]; rfl
  rw [e] at c1
  simp only [decide_true] at c4
  change PC _ _ [.sl ((Ls.map polyOf).map polyRow)] _ at c2
  generalize (Ls.map polyOf).map polyRow = ps at *
  have hR : regRow R0 = [.sl [[.int .i64 1, .sl [[.int .i64 2, .int .i64 3]]]]] := rfl
  rw [hR] at c1 c2 c3 c4
  clear e hL hlen hsm hv
  refine pc_of_awp cx (fn := Tryz.f35) (c := _) Tryz.func35 rfl rfl (Nat.le_of_ble_eq_true rfl) ?_
  rw [Tryz.ntmps35]; refine Nav.imp ?_
  refine awp_region cx [] fun K hK => ?_
  simp [push_cast]
  repeat (refine And.intro (by clear hK; intros; first | omega | (simp_all; done) | (simp_all <;> omega)) ?_)
  refine hK _ ?_; clear hK K; refine Nav.imp ?_
  refine awp_region cx [(1, .f (.sl [[.int .i64 2, .int .i64 3]])), (3, .f (.sl [[.int .i64 1, .sl [[.int .i64 2, .int .i64 3]]]]))] fun K hK => ?_
  simp [push_cast]
  repeat (refine And.intro (by clear hK; intros; first | omega | (simp_all; done) | (simp_all <;> omega)) ?_)
  refine hK _ ?_; clear hK K; refine Nav.imp ?_
  refine awp_region cx [(1, .p (.sl ps)), (2, .p (.tup [.agg [.sl [[.int .i64 1, .sl [[.int .i64 2, .int .i64 3]]]]], .int .i64 0]))] fun K hK => ?_
  simp [push_cast, c1, c2]
  repeat (refine And.intro (by clear hK; intros; first | omega | (simp_all; done) | (simp_all <;> omega)) ?_)
  refine hK _ ?_; clear hK K; refine Nav.imp ?_
  refine awp_region cx [(1, .p (.int .i64 4)), (10, .p (.bool true))] fun K hK => ?_
  simp [push_cast, c3, c4]
  repeat (refine And.intro (by clear hK; intros; first | omega | (simp_all; done) | (simp_all <;> omega)) ?_)
  refine hK _ ?_; clear hK K; refine Nav.imp ?_
  simp [push_cast]
end Go.Proofs.YtdddknniooimmaaGreat

namespace Go.Proofs.YtdddknniooimmaaGreat
open Go.Abs

structure GoodP (P : List Cell) : Prop where
  even : P.length % 2 = 0
  four : 4 ≤ P.length
  near : nrP P
  flags : ∀ k a b c, P[k]? = some a → P[(k + 1) % P.length]? = some b → P[(k + 2) % P.length]? = some c → ((a.x == b.x) == (a.y == b.y)) = false ∧ ((a.x == b.x) == (b.x == c.x)) = false
  low : ∀ p0, P.head? = some p0 → ∀ a ∈ P, ¬ lowC a p0
theorem good_loop {R : List Row} (hv : validR R = true) {L : List Crk} (hL : IsLp (Sof R) L) : GoodP (polyOf L) := by
  obtain ⟨c, K, hP, hch⟩ := loop_chain (collect_cracks hv) hL
  obtain ⟨he, h4⟩ := chain_even hch
  have hn := poly_near hv hL
  obtain ⟨c', hc1, _, _, hlow, Y, hY⟩ := lp_head hL
  refine ⟨by rw [hP, List.length_map]; exact he, by rw [hP, List.length_map]; exact h4, hn, fun k a b d ha hb hd => ?_, fun p0 h0 a ha hlt => ?_⟩
  · rw [hP] at ha hb hd
    rw [List.length_map] at hb hd
    rw [List.getElem?_map] at ha hb hd
    obtain ⟨a', ha', rfl⟩ := Option.map_eq_some_iff.1 ha
    obtain ⟨b', hb', rfl⟩ := Option.map_eq_some_iff.1 hb
    obtain ⟨d', hd', rfl⟩ := Option.map_eq_some_iff.1 hd
    have r1 := chain_cyc hch ha' hb'
    have r2 := chain_cyc hch hb' (b := d') (by
      rw [← hd']
      congr 1
      rw [Nat.add_mod, Nat.mod_mod, ← Nat.add_mod])
    exact rel_flags r1 r2
  · rw [hY] at h0
    have h0 : c'.p = p0 := by injection h0
    subst h0
    have : ∃ d ∈ L, d.p = a := by
      cases L with
      | nil => cases ha
      | cons e t =>
        rcases List.mem_cons.1 ha with rfl | ha
        · exact ⟨e, by simp, rfl⟩
        · obtain ⟨d, hd, e'⟩ := turnG_mem ha; exact ⟨d, by simp [hd], e'⟩
    obtain ⟨d, hd, rfl⟩ := this
    by_cases e : d = c'
    · rw [e] at hlt; exact lowC_irr _ hlt
    · exact lowC_asym hlt (hlow d hd e)
theorem sum_const (l : List Crk) (f : Crk → Int) (h : ∀ c ∈ l, f c = 1) : (l.map f).sum = l.length := by
  induction l with
  | nil => rfl
  | cons a l ih =>
    rw [List.map_cons, List.sum_cons, h a (by simp), ih fun c hc => h c (by simp [hc]), List.length_cons]
    omega
theorem loop_len {S : Cell → Bool} {L : List Crk} (hL : IsLp S L) : cycTo epsL (polyOf L) (polyOf L).length = L.length := by
  obtain ⟨p, P, hP, _, hs⟩ := loop_path hL
  rw [hP, cyc_path, hs epsL epsL_adds]
  exact sum_const L _ fun c _ => epsL_one c
theorem loop_area {S : Cell → Bool} {L : List Crk} (hL : IsLp S L) : cycTo epsA (polyOf L) (polyOf L).length = (L.map kapA).sum := by
  obtain ⟨p, P, hP, _, hs⟩ := loop_path hL
  rw [hP, cyc_path, hs epsA epsA_adds]
  congr 1
  exact List.map_congr_left fun c _ => epsA_one c
def lenL (l : List (List Cell)) : Int := (l.map fun P => cycTo epsL P P.length).sum
theorem trace_lens {S : Cell → Bool} : ∀ {Ls : List (List Crk)}, (∀ L ∈ Ls, IsLp S L) → lenL (Ls.map polyOf) = Ls.flatten.length ∧ areaL (Ls.map polyOf) = (Ls.flatten.map kapA).sum
  | [], _ => by simp [lenL, areaL]
  | L :: Ls, h => by
    obtain ⟨h1, h2⟩ := trace_lens (Ls := Ls) fun M hM => h M (by simp [hM])
    have hl := h L (by simp)
    unfold lenL areaL at *
    simp only [List.map_cons, List.sum_cons, List.flatten_cons, List.length_append, List.map_append, List.sum_append, loop_len hl, loop_area hl, h1, h2]
    exact ⟨by omega, trivial⟩
theorem trace_totals {R : List Row} (hv : validR R = true) {Ls : List (List Crk)} (h : Lps (Sof R) Ls) : lenL (Ls.map polyOf) = (collectL R).length ∧ areaL (Ls.map polyOf) = 2 * (regCells R).length := by
  have hp := lps_perm (collect_cracks hv) (collect_nodup hv) h
  obtain ⟨h1, h2⟩ := trace_lens h.each
  rw [h1, h2, hp.length_eq, perm_sum (hp.map kapA), area_sum hv]
  exact ⟨rfl, rfl⟩
end Go.Proofs.YtdddknniooimmaaGreat
