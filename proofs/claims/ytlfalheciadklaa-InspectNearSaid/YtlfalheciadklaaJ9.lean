/-
  Texts of this seat put together: X7, Y5, N5, N6, L0, K0, K1, K2.
-/
import Derived.Test.YtlfalheciadklaaJ8
import Derived.Test.YtlfalheciadklaaJ7
import Derived.Test.YtlfalheciadklaaJ4
import Derived.Test.YtlfalheciadklaaJ3
import Derived.Test.YtlfalheciadklaaChecked
set_option linter.unusedVariables false
set_option linter.unusedSimpArgs false
namespace Go.Proofs.Ytlfalheciadklaa
open Go.Abs

def withinB (a b : List Row) : Bool := validR a && validR b && decide ((opR fD a b).length = 0)
theorem withinR_big (a b : List Row) (hA : bigR a) (hB : bigR b) : PC Try.prog 29 [.agg (regRow a), .agg (regRow b)] (.p (.bool (withinB a b))) := by
  have c1 := valid_big a hA
  have c2 := valid_big b hB
  have c3 := subtractR_big a b hA hB
  unfold withinB
  generalize validR a = v at *
  generalize validR b = w at *
  generalize opR fD a b = r at *
  have hr : ((r.length : Int) == 0) = decide (r.length = 0) := by rw [Bool.eq_iff_iff]; simp
  cases v with
  | false =>
    refine pc_of_awp cx (fn := Try.f29) (c := _) Try.func29 rfl rfl (Nat.le_of_ble_eq_true rfl) ?_
    rw [Try.ntmps29]; refine Nav.imp ?_
    refine awp_region cx [] fun K hK => ?_
    simp [push_cast]
    repeat (refine And.intro (by clear hK; intros; first | omega | (simp_all; done) | (simp_all <;> omega)) ?_)
    refine hK _ ?_; clear hK K; refine Nav.imp ?_
    refine awp_region cx [(1, .p (.bool false)), (4, .skip), (9, .skip)] fun K hK => ?_
    simp [push_cast, c1]
    repeat (refine And.intro (by clear hK; intros; first | omega | (simp_all; done) | (simp_all <;> omega)) ?_)
    refine hK _ ?_; clear hK K; refine Nav.imp ?_
    simp [push_cast]
  | true =>
    cases w with
    | false =>
      refine pc_of_awp cx (fn := Try.f29) (c := _) Try.func29 rfl rfl (Nat.le_of_ble_eq_true rfl) ?_
      rw [Try.ntmps29]; refine Nav.imp ?_
      refine awp_region cx [] fun K hK => ?_
      simp [push_cast]
      repeat (refine And.intro (by clear hK; intros; first | omega | (simp_all; done) | (simp_all <;> omega)) ?_)
      refine hK _ ?_; clear hK K; refine Nav.imp ?_
      refine awp_region cx [(1, .p (.bool true)), (4, .p (.bool false)), (9, .skip)] fun K hK => ?_
      simp [push_cast, c1, c2]
      repeat (refine And.intro (by clear hK; intros; first | omega | (simp_all; done) | (simp_all <;> omega)) ?_)
      refine hK _ ?_; clear hK K; refine Nav.imp ?_
      simp [push_cast]
    | true =>
      refine pc_of_awp cx (fn := Try.f29) (c := _) Try.func29 rfl rfl (Nat.le_of_ble_eq_true rfl) ?_
      rw [Try.ntmps29]; refine Nav.imp ?_
      refine awp_region cx [] fun K hK => ?_
      simp [push_cast]
      repeat (refine And.intro (by clear hK; intros; first | omega | (simp_all; done) | (simp_all <;> omega)) ?_)
      refine hK _ ?_; clear hK K; refine Nav.imp ?_
      refine awp_region cx [(1, .p (.bool true)), (4, .p (.bool true)), (9, .p (.agg (regRow r)))] fun K hK => ?_
      simp [push_cast, c1, c2, c3]
      repeat (refine And.intro (by clear hK; intros; first | omega | (simp_all; done) | (simp_all <;> omega)) ?_)
      refine hK _ ?_; clear hK K; refine Nav.imp ?_
      simp [push_cast, hr]
theorem withinR_ok (a b : List Row) (hA : smallR a) (hB : smallR b) : PC Try.prog 29 [.agg (regRow a), .agg (regRow b)] (.p (.bool (withinB a b))) := withinR_big a b (big_of hA) (big_of hB)
end Go.Proofs.Ytlfalheciadklaa

set_option linter.unusedVariables false
set_option linter.unusedSimpArgs false
set_option maxRecDepth 100000
namespace Go.Proofs.Ytlfalheciadklaa
open Go.Abs



theorem rsubtract_big (a b : List Row) (hA : bigR a) (hB : bigR b) : PC Try.prog 57 [.agg (regRow a), .agg (regRow b)] (.p (.agg (regRow (opR fD a b)))) := by
  have c1 := operated_big 2 fD rfl keptD a b hA hB
  generalize opR fD a b = r at *
  refine pc_of_awp cx (fn := Try.f57) (c := _) Try.func57 rfl rfl (Nat.le_of_ble_eq_true rfl) ?_
  rw [Try.ntmps57]; refine Nav.imp ?_
  refine awp_region cx [] fun K hK => ?_
  simp [push_cast]
  repeat (refine And.intro (by clear hK; intros; first | omega | (simp_all; done) | (simp_all <;> omega)) ?_)
  refine hK _ ?_; clear hK K; refine Nav.imp ?_
  refine awp_region cx [(2, .p (.agg (regRow r)))] fun K hK => ?_
  simp [push_cast, c1]
  repeat (refine And.intro (by clear hK; intros; first | omega | (simp_all; done) | (simp_all <;> omega)) ?_)
  refine hK _ ?_; clear hK K; refine Nav.imp ?_
  simp [push_cast]


theorem rsubtract_ok (a b : List Row) (hA : smallR a) (hB : smallR b) : PC Try.prog 57 [.agg (regRow a), .agg (regRow b)] (.p (.agg (regRow (opR fD a b)))) := rsubtract_big a b (big_of hA) (big_of hB)

theorem opR_small {f : Bool → Bool → Bool} (hf : f false false = false) (a b : List Row) : smallR (opR f a b) := by
  cases ha : validR a with
  | false => rw [show opR f a b = [] from by simp [opR, ha]]; exact ⟨by simp, by simp⟩
  | true =>
    cases hb : validR b with
    | false => rw [show opR f a b = [] from by simp [opR, ha, hb]]; exact ⟨by simp, by simp⟩
    | true => exact valid_small (opR_facts hf ha hb).1
end Go.Proofs.Ytlfalheciadklaa

set_option linter.unusedVariables false
set_option linter.unusedSimpArgs false
set_option maxRecDepth 100000
namespace Go.Proofs.Ytlfalheciadklaa
open Go.Abs

/-! Lists of regions: what is loose; equality. -/
abbrev encRegs (l : List (List Row)) : D := .sl (l.map regRow)
theorem regRow_len (R : List Row) : (regRow R).length = 1 := rfl
def lsAt (L : List (List Row)) (k : Int) (i : Nat) : List Row := if i = 0 then [] else missR ((L[i]?).getD []) ((L[i - 1]?).getD []) k
def looseL (L : List (List Row)) (k : Int) : List (List Row) := (List.range L.length).map (lsAt L k)
theorem looseL_len (L : List (List Row)) (k : Int) : (looseL L k).length = L.length := by simp [looseL]
theorem looseL_at {L : List (List Row)} {k : Int} {i : Nat} (h : i < L.length) : (looseL L k)[i]? = some (lsAt L k i) := by simp [looseL, h]
theorem lsAt_succ {L : List (List Row)} {k : Int} {i : Nat} {R S : List Row} (h1 : L[i + 1]? = some R) (h2 : L[i]? = some S) : lsAt L k (i + 1) = missR R S k := by simp [lsAt, h1, h2]
theorem looseL_small {L : List (List Row)} {k : Int} {i : Nat} {R : List Row} (h : (looseL L k)[i]? = some R) : validR R = true := by
  have hi : i < L.length := by rw [← looseL_len L k]; exact (List.getElem?_eq_some_iff.1 h).1
  rw [looseL_at hi] at h
  cases h
  unfold lsAt
  split
  · rfl
  · exact miss_valid _ _ _

def bigL (L : List (List Row)) : Prop := ∀ R ∈ L, bigR R ∧ (validR R = true → (regCells R).length ≤ 1000000)

set_option maxHeartbeats 2000000 in
theorem loose_ok (L : List (List Row)) (k : Int) (hL : bigL L) (hn : L.length ≤ 1000) : PC Try.prog 22 [encRegs L, .int .i64 k] (.p (encRegs (looseL L k))) := by
  have hlen := looseL_len L k
  have hat := fun i (h : i < L.length) => @looseL_at L k i h
  have hsucc := fun i R S h1 h2 => @lsAt_succ L k i R S h1 h2
  have h0 : (looseL L k).take 1 = (List.replicate L.length ([] : List Row)).take 1 := by
    cases hq : L with
    | nil => rfl
    | cons x xs => simp [looseL, List.range_succ_eq_map, lsAt, List.replicate_succ]
  generalize looseL L k = Z0 at *
  have hm1 : 24 * (L.length : Int) ≤ 281474976710656 := by omega
  have hm2 : (L.length : Int) ≤ 9223372036854775807 := by omega
  have hrep : List.map (fun r : List AV => List.map den r) (List.replicate L.length [AV.nl]) = dr ((List.replicate L.length ([] : List Row)).map regRow) := by simp [dr, den]
  refine pc_of_awp cx (fn := Try.f22) (c := _) Try.func22 rfl rfl (Nat.le_of_ble_eq_true rfl) ?_
  rw [Try.ntmps22]; refine Nav.imp ?_
  refine awp_region cx [] fun K hK => ?_
  simp [push_cast]
  repeat (refine And.intro (by clear hK; intros; first | omega | (simp_all; done) | (simp_all <;> omega)) ?_)
  refine hK _ ?_; clear hK K; refine Nav.imp ?_
  refine awp_region cx [] fun K hK => ?_
  simp [push_cast, hm1, hm2]
  repeat (refine And.intro (by clear hK; intros; first | omega | (simp_all; done) | (simp_all <;> omega)) ?_)
  refine hK _ ?_; clear hK K; refine Nav.imp ?_
  refine awp_den 3 rfl (by rfl) fun K hK => ?_
  simp [push_cast, den, hrep]
  refine hK _ ?_; clear hK K; refine Nav.imp ?_
  refine awp_region cx [] fun K hK => ?_
  simp [push_cast]
  repeat (refine And.intro (by clear hK; intros; first | omega | (simp_all; done) | (simp_all <;> omega)) ?_)
  refine hK _ ?_; clear hK K; refine Nav.imp ?_
  refine awp_loop (β := Nat × List (List Row)) (fun b => ⟨31, [(0, .d (encRegs L)), (1, .d (.int .i64 k)), (5, .hs 0 0 b.2.length), (6, .d (.int .i64 (b.1 + 1)))], [(0, some ⟨24, 1, dr (b.2.map regRow)⟩)], 1⟩) (fun b => b.1 ≤ L.length ∧ b.2.length = L.length ∧ b.2.take (b.1 + 1) = Z0.take (b.1 + 1)) (fun b => L.length - b.1) (0, List.replicate L.length []) ?_ ⟨Nat.zero_le _, by simp, h0.symm⟩ ?_
  · refine weak_of [(0, some 3)] rfl (by simp [upT, up, upL, push_cast]) (by simp [upH, upR, upL, up, push_cast]) (by simp [namesOk, push_cast]) (by simp [olds])
  · rintro ⟨i, Z⟩ ⟨hi, hZl, hZ⟩
    simp only at hi hZl hZ
    refine Nav.imp ?_
    refine awp_region cx [] fun K hK => ?_
    simp [push_cast]
    repeat (refine And.intro (by clear hK; intros; first | omega | (simp_all; done) | (simp_all <;> omega)) ?_)
    refine hK _ ?_; clear hK K; refine Nav.imp ?_
    by_cases hlt : i + 1 < L.length
    · have q1 : (i : Int) + 1 < L.length := by omega
      obtain ⟨R, hR⟩ := getq hlt
      obtain ⟨S, hS⟩ : ∃ S, L[i]? = some S := getq (by omega)
      have e0 := wrap_i64 (n := (i : Int) + 1 + 1) (by omega) (by omega)
      have e1 := wrap_i64 (n := (i : Int)) (by omega) (by omega)
      have e2 : ((i : Int) + 1).toNat = i + 1 := by omega
      have e3 : ((i : Int) + 1 - 1).toNat = i := by omega
      have e4 : (0 : Int) ≤ (i : Int) + 1 := by omega
      have e5 : (0 : Int) ≤ (i : Int) + 1 - 1 := by omega
      have c1 := missing_ok R S k (hL R (List.mem_of_getElem? hR)).1 (hL S (List.mem_of_getElem? hS)).1
      have hz0 := hat (i + 1) hlt
      rw [hsucc i R S hR hS] at hz0
      generalize missR R S k = M at *
      obtain ⟨y, hy⟩ : ∃ y, Z[i + 1]? = some y := getq (by omega)
      obtain ⟨Y, hY⟩ : ∃ Y, Y = Z.set (i + 1) M := ⟨_, rfl⟩
      have hset : (dr (Z.map regRow)).set (i + 1) [.d (.sl (M.map Row.row))] = dr (Y.map regRow) := by rw [hY]; simp [dr, List.map_set]
      have hYl : Y.length = Z.length := by rw [hY]; simp
      have hYt : Y.take (i + 1 + 1) = Z0.take (i + 1 + 1) := by
        rw [hY, take_get hz0, take_get (x := M) (by rw [List.getElem?_set_self (by omega)]), List.take_set_of_le (by omega), hZ]
      clear hY
      refine awp_cond (b := true) (by simp [push_cast, q1]) (fun hb => ?_) (fun hb => ?_) <;> (refine Nav.imp ?_)
      · refine awp_region_draw cx mixed [(12, .p (.agg (regRow M)))] fun K hK => ?_
        simp [push_cast, hR, hS, e1, e2, e3, e4, e5, c1, hy, hset, hZl, q1]
        repeat (refine And.intro (by clear hK; intros; first | omega | (simp_all; done) | (simp_all <;> omega)) ?_)
        refine hK _ _ (by kernel_rfl) ?_; clear hK K; refine Nav.imp ?_
        refine awp_region cx [] fun K hK => ?_
        simp [push_cast, e0]
        repeat (refine And.intro (by clear hK; intros; first | omega | (simp_all; done) | (simp_all <;> omega)) ?_)
        refine hK _ ?_; clear hK K; refine Nav.imp ?_
        have hYL : Y.length = L.length := by omega
        refine ⟨(i + 1, Y), ⟨by simp only; omega, by simp only; omega, hYt⟩, by simp only; omega, ?_⟩
        refine weak_of [(0, some 0)] rfl (by simp [upT, up, upL, push_cast, hYL]) (by simp [upH, upR, upL, up, push_cast, hYL]) (by simp [namesOk, push_cast]) (by simp [olds])
      · simp at hb
    · have q1 : ¬ (i : Int) + 1 < L.length := by omega
      have hfull : Z = Z0 := by
        rw [List.take_of_length_le (by omega), List.take_of_length_le (by omega)] at hZ; exact hZ
      refine awp_cond (b := false) (by simp [push_cast, q1]) (fun hb => ?_) (fun hb => ?_) <;> (refine Nav.imp ?_)
      · simp at hb
      · have ht2 : List.take Z.length (Z.map regRow) = Z.map regRow := List.take_of_length_le (by simp)
        refine awp_freeze 0 (Z.map regRow) rfl (by simp [push_cast, ht2]) fun K hK => ?_
        simp [push_cast, St.fz, fzT, fzH, fzO, fz, fzL, fzR, fzR_dr, fzR_app, fzR_set, fzL_map, ht2]
        refine hK _ ?_; clear hK K; refine Nav.imp ?_
        refine awp_region cx [] fun K hK => ?_
        simp [push_cast]
        repeat (refine And.intro (by clear hK; intros; first | omega | (simp_all; done) | (simp_all <;> omega)) ?_)
        refine hK _ ?_; clear hK K; refine Nav.imp ?_
        simp [push_cast, hfull]

set_option maxHeartbeats 2000000 in
theorem rloose_ok (L : List (List Row)) (k : Int) (hL : bigL L) (hn : L.length ≤ 1000) : PC Try.prog 23 [encRegs L, .int .i64 k] (.p (encRegs (looseL L k))) := by
  have hlen := looseL_len L k
  have hat := fun i (h : i < L.length) => @looseL_at L k i h
  have hsucc := fun i R S h1 h2 => @lsAt_succ L k i R S h1 h2
  have hz : lsAt L k 0 = [] := rfl
  generalize looseL L k = Z0 at *
  refine pc_of_awp cx (fn := Try.f23) (c := _) Try.func23 rfl rfl (Nat.le_of_ble_eq_true rfl) ?_
  rw [Try.ntmps23]; refine Nav.imp ?_
  refine awp_region cx [] fun K hK => ?_
  simp [push_cast]
  repeat (refine And.intro (by clear hK; intros; first | omega | (simp_all; done) | (simp_all <;> omega)) ?_)
  refine hK _ ?_; clear hK K; refine Nav.imp ?_
  refine awp_region cx [] fun K hK => ?_
  simp [push_cast]
  repeat (refine And.intro (by clear hK; intros; first | omega | (simp_all; done) | (simp_all <;> omega)) ?_)
  refine hK _ ?_; clear hK K; refine Nav.imp ?_
  refine awp_region cx [] fun K hK => ?_
  simp [push_cast]
  repeat (refine And.intro (by clear hK; intros; first | omega | (simp_all; done) | (simp_all <;> omega)) ?_)
  refine hK _ ?_; clear hK K; refine Nav.imp ?_
  refine awp_loop (β := Nat × List (List Row)) (fun b => ⟨32, [(0, .d (encRegs L)), (1, .d (.int .i64 k)), (5, .hs 0 0 b.2.length), (9, .d (.int .i64 L.length)), (10, .d (.int .i64 b.1))], [(0, some ⟨24, 1, dr (b.2.map regRow)⟩)], 1⟩) (fun b => b.1 ≤ L.length ∧ b.2 = Z0.take b.1) (fun b => L.length - b.1) (0, []) ?_ ⟨Nat.zero_le _, by simp⟩ ?_
  · refine weak_of [(0, none)] rfl (by simp [upT, up, upL, push_cast]) (by simp [upH, upR, upL, up, push_cast]) (by simp [namesOk, push_cast]) (by simp [olds])
  · rintro ⟨i, Z⟩ ⟨hi, hZ⟩
    simp only at hi hZ
    refine Nav.imp ?_
    refine awp_region cx [] fun K hK => ?_
    simp [push_cast]
    repeat (refine And.intro (by clear hK; intros; first | omega | (simp_all; done) | (simp_all <;> omega)) ?_)
    refine hK _ ?_; clear hK K; refine Nav.imp ?_
    refine awp_cond (b := decide ((i : Int) < L.length)) (by simp [push_cast]) (fun hb => ?_) (fun hb => ?_) <;> (refine Nav.imp ?_)
    · have hlt : i < L.length := by simpa using hb
      obtain ⟨R, hR⟩ := getq hlt
      have e0 := wrap_i64 (n := (i : Int) + 1) (by omega) (by omega)
      have hz0 := hat i hlt
      have hnx := take_get hz0
      rw [← hZ] at hnx
      have hZl : Z.length ≤ 1000 := by rw [hZ]; simp; omega
      have hZ24 : (Z.length + 1) * 24 ≤ 140737488355328 := by omega
      cases i with
      | zero =>
        rw [hz] at hnx
        have hZn : Z = [] := by rw [hZ]; rfl
        subst hZn
        refine awp_region cx [] fun K hK => ?_
        simp [push_cast]
        repeat (refine And.intro (by clear hK; intros; first | omega | (simp_all; done) | (simp_all <;> omega)) ?_)
        refine hK _ ?_; clear hK K; refine Nav.imp ?_
        refine awp_region cx [] fun K hK => ?_
        simp [push_cast]
        repeat (refine And.intro (by clear hK; intros; first | omega | (simp_all; done) | (simp_all <;> omega)) ?_)
        refine hK _ ?_; clear hK K; refine Nav.imp ?_
        refine awp_region cx [] fun K hK => ?_
        simp [push_cast]
        repeat (refine And.intro (by clear hK; intros; first | omega | (simp_all; done) | (simp_all <;> omega)) ?_)
        refine hK _ ?_; clear hK K; refine Nav.imp ?_
        refine awp_cond (b := false) (by simp [push_cast]) (fun hb => ?_) (fun hb => ?_) <;> (refine Nav.imp ?_)
        · simp at hb
        · refine awp_region cx [] fun K hK => ?_
          simp [push_cast]
          repeat (refine And.intro (by clear hK; intros; first | omega | (simp_all; done) | (simp_all <;> omega)) ?_)
          refine hK _ ?_; clear hK K; refine Nav.imp ?_
          refine awp_den 10 rfl (by rfl) fun K hK => ?_
          simp [push_cast, den]
          refine hK _ ?_; clear hK K; refine Nav.imp ?_
          refine awp_region cx [] fun K hK => ?_
          simp [push_cast, e0]
          repeat (refine And.intro (by clear hK; intros; first | omega | (simp_all; done) | (simp_all <;> omega)) ?_)
          refine hK _ ?_; clear hK K; refine Nav.imp ?_
          refine ⟨(1, [[]]), ⟨by simp only; omega, hnx.symm⟩, by simp only; omega, ?_⟩
          refine weak_of [(0, some 10)] rfl (by simp [upT, up, upL, push_cast, den]) (by simp [upH, upR, upL, up, push_cast, den]) (by simp [namesOk, push_cast]) (by simp [olds])
      | succ j =>
        obtain ⟨S, hS⟩ : ∃ S, L[j]? = some S := getq (by omega)
        have q0 : (0 : Int) < (j : Int) + 1 := by omega
        have e1 := wrap_i64 (n := (j : Int)) (by omega) (by omega)
        have e2 : ((j : Int) + 1).toNat = j + 1 := by omega
        have e3 : ((j : Int) + 1 - 1).toNat = j := by omega
        have e4 : (0 : Int) ≤ (j : Int) + 1 := by omega
        have e5 : (0 : Int) ≤ (j : Int) + 1 - 1 := by omega
        have hLR := hL R (List.mem_of_getElem? hR)
        have c1 := rmissing_ok R S k hLR.1 (hL S (List.mem_of_getElem? hS)).1 hLR.2
        rw [hsucc j R S hR hS] at hnx
        generalize missR R S k = M at *
        refine awp_region cx [] fun K hK => ?_
        simp [push_cast]
        repeat (refine And.intro (by clear hK; intros; first | omega | (simp_all; done) | (simp_all <;> omega)) ?_)
        refine hK _ ?_; clear hK K; refine Nav.imp ?_
        refine awp_region cx [] fun K hK => ?_
        simp [push_cast]
        repeat (refine And.intro (by clear hK; intros; first | omega | (simp_all; done) | (simp_all <;> omega)) ?_)
        refine hK _ ?_; clear hK K; refine Nav.imp ?_
        refine awp_region cx [] fun K hK => ?_
        simp [push_cast, q0]
        repeat (refine And.intro (by clear hK; intros; first | omega | (simp_all; done) | (simp_all <;> omega)) ?_)
        refine hK _ ?_; clear hK K; refine Nav.imp ?_
        refine awp_cond (b := true) (by simp [push_cast, q0]) (fun hb => ?_) (fun hb => ?_) <;> (refine Nav.imp ?_)
        · refine awp_region_draw cx mixed [(10, .p (.agg (regRow M)))] fun K hK => ?_
          simp [push_cast, hR, hS, e1, e2, e3, e4, e5, c1]
          repeat (refine And.intro (by clear hK; intros; first | omega | (simp_all; done) | (simp_all <;> omega)) ?_)
          refine hK _ _ (by kernel_rfl) ?_; clear hK K; refine Nav.imp ?_
          have e6 := wrap_i64 (n := (j : Int) + 1 + 1) (by omega) (by omega)
          refine awp_region cx [] fun K hK => ?_
          simp [push_cast, hZ24]
          repeat (refine And.intro (by clear hK; intros; first | omega | (simp_all; done) | (simp_all <;> omega)) ?_)
          refine hK _ ?_; clear hK K; refine Nav.imp ?_
          refine awp_region cx [] fun K hK => ?_
          simp [push_cast, e6]
          repeat (refine And.intro (by clear hK; intros; first | omega | (simp_all; done) | (simp_all <;> omega)) ?_)
          refine hK _ ?_; clear hK K; refine Nav.imp ?_
          refine ⟨(j + 1 + 1, Z ++ [M]), ⟨hlt, hnx.symm⟩, by simp only; omega, ?_⟩
          refine weak_of [(0, some 22)] rfl (by simp [upT, up, upL, push_cast]) (by simp [upH, upR, upL, up, push_cast]) (by simp [namesOk, push_cast]) (by simp [olds])
        · simp at hb
    · have hge : i = L.length := by simp at hb; omega
      subst hge
      have hfull : Z = Z0 := by rw [hZ]; exact List.take_of_length_le (by omega)
      have ht2 : List.take Z.length (Z.map regRow) = Z.map regRow := List.take_of_length_le (by simp)
      refine awp_freeze 0 (Z.map regRow) rfl (by simp [push_cast, ht2]) fun K hK => ?_
      simp [push_cast, St.fz, fzT, fzH, fzO, fz, fzL, fzR, fzR_dr, fzR_app, fzR_set, fzL_map, ht2]
      refine hK _ ?_; clear hK K; refine Nav.imp ?_
      refine awp_region cx [] fun K hK => ?_
      simp [push_cast]
      repeat (refine And.intro (by clear hK; intros; first | omega | (simp_all; done) | (simp_all <;> omega)) ?_)
      refine hK _ ?_; clear hK K; refine Nav.imp ?_
      simp [push_cast, hfull]
end Go.Proofs.Ytlfalheciadklaa

set_option linter.unusedVariables false
set_option linter.unusedSimpArgs false
set_option maxRecDepth 100000
namespace Go.Proofs.Ytlfalheciadklaa
open Go.Abs

/-! Equality of lists of regions. -/
def eqB (a b : List (List Row)) : Bool := a.all validR && decide (a = b)
theorem eqB_no {a b : List (List Row)} {k : Nat} {p q : List Row} (hp : a[k]? = some p) (hq : b[k]? = some q) (h : sameB p q = false) : eqB a b = false := by
  unfold eqB
  cases hd : decide (a = b) with
  | false => simp
  | true =>
    have e : a = b := by simpa using hd
    subst e
    rw [hp] at hq
    cases hq
    rw [Bool.and_true, List.all_eq_false]
    refine ⟨p, List.mem_of_getElem? hp, ?_⟩
    unfold sameB at h
    simpa using h
theorem eqB_step {a b : List (List Row)} {k : Nat} {p q : List Row} (ha : a.take k = b.take k) (hv : (a.take k).all validR = true) (hp : a[k]? = some p) (hq : b[k]? = some q) (h : sameB p q = true) : a.take (k + 1) = b.take (k + 1) ∧ (a.take (k + 1)).all validR = true := by
  unfold sameB at h
  simp only [Bool.and_eq_true, decide_eq_true_eq] at h
  obtain ⟨⟨h1, h2⟩, rfl⟩ := h
  refine ⟨take_eq_step ha hp hq rfl, ?_⟩
  rw [take_get hp, List.all_append, hv]
  simp [h1]
theorem eqB_len {a b : List (List Row)} (h : a.length ≠ b.length) : eqB a b = false := by
  unfold eqB
  have : a ≠ b := by intro e; rw [e] at h; exact h rfl
  simp [this]

def bigS (L : List (List Row)) : Prop := ∀ R ∈ L, bigR R
theorem equalRegs_ok (a b : List (List Row)) (hA : bigS a) (hB : bigS b) (hl : a.length ≤ 1000) : PC Try.prog 60 [encRegs a, encRegs b, .fn (.func 31) []] (.p (.bool (eqB a b))) := by
  refine pc_of_awp cx (fn := Try.f60) (c := _) Try.func60 rfl rfl (Nat.le_of_ble_eq_true rfl) ?_
  rw [Try.ntmps60]; refine Nav.imp ?_
  refine awp_region cx [] fun K hK => ?_
  simp [push_cast]
  repeat (refine And.intro (by clear hK; intros; first | omega | (simp_all; done) | (simp_all <;> omega)) ?_)
  refine hK _ ?_; clear hK K; refine Nav.imp ?_
  refine awp_region cx [] fun K hK => ?_
  simp [push_cast]
  repeat (refine And.intro (by clear hK; intros; first | omega | (simp_all; done) | (simp_all <;> omega)) ?_)
  refine hK _ ?_; clear hK K; refine Nav.imp ?_
  refine awp_cond (by simp [push_cast] <;> exact rfl) (fun hb => ?_) (fun hb => ?_) <;> (refine Nav.imp ?_)
  · simp at hb
    have hne := eqB_len (a := a) (b := b) (by omega)
    refine awp_region cx [] fun K hK => ?_
    simp [push_cast]
    repeat (refine And.intro (by clear hK; intros; first | omega | (simp_all; done) | (simp_all <;> omega)) ?_)
    refine hK _ ?_; clear hK K; refine Nav.imp ?_
    simp [push_cast, hne]
  · have hlen : a.length = b.length := by simp at hb; omega
    clear hb
    refine awp_region cx [] fun K hK => ?_
    simp [push_cast]
    repeat (refine And.intro (by clear hK; intros; first | omega | (simp_all; done) | (simp_all <;> omega)) ?_)
    refine hK _ ?_; clear hK K; refine Nav.imp ?_
    refine awp_loop (β := Nat) (fun k => ⟨32, [(1, .d (encRegs b)), (2, .d (.fn (.func 31) [])), (15, .d (encRegs a)), (16, .d (.int .i64 a.length)), (17, .d (.int .i64 k))], [], 0⟩) (fun k => k ≤ a.length ∧ a.take k = b.take k ∧ (a.take k).all validR = true) (fun k => a.length - k) 0 ?_ ⟨Nat.zero_le _, by simp, by simp⟩ ?_
    · refine weak_of [] rfl (by simp [upT, up, upL, push_cast]) (by simp [upH, upR, upL, up, push_cast]) (by simp [namesOk, push_cast]) (by simp [olds])
    · rintro k ⟨hk, hpre, hval⟩
      refine Nav.imp ?_
      refine awp_region cx [] fun K hK => ?_
      simp [push_cast]
      repeat (refine And.intro (by clear hK; intros; first | omega | (simp_all; done) | (simp_all <;> omega)) ?_)
      refine hK _ ?_; clear hK K; refine Nav.imp ?_
      refine awp_cond (b := decide ((k : Int) < a.length)) (by simp [push_cast]) (fun hb => ?_) (fun hb => ?_) <;> (refine Nav.imp ?_)
      · have hlt : k < a.length := by simpa using hb
        obtain ⟨p, hp⟩ := getq hlt
        obtain ⟨q, hq⟩ : ∃ y, b[k]? = some y := getq (by omega)
        have e0 := wrap_i64 (n := (k : Int) + 1) (by omega) (by omega)
        have c1 := sameR_big p q (hA p (List.mem_of_getElem? hp)) (hB q (List.mem_of_getElem? hq))
        have hno := eqB_no hp hq
        have hyes := eqB_step hpre hval hp hq
        generalize sameB p q = e at *
        refine awp_region cx [] fun K hK => ?_
        simp [push_cast, hp]
        repeat (refine And.intro (by clear hK; intros; first | omega | (simp_all; done) | (simp_all <;> omega)) ?_)
        refine hK _ ?_; clear hK K; refine Nav.imp ?_
        refine awp_region cx [] fun K hK => ?_
        simp [push_cast, hq]
        repeat (refine And.intro (by clear hK; intros; first | omega | (simp_all; done) | (simp_all <;> omega)) ?_)
        refine hK _ ?_; clear hK K; refine Nav.imp ?_
        refine awp_region cx [(3, .p (.bool e))] fun K hK => ?_
        simp [push_cast, c1]
        repeat (refine And.intro (by clear hK; intros; first | omega | (simp_all; done) | (simp_all <;> omega)) ?_)
        refine hK _ ?_; clear hK K; refine Nav.imp ?_
        refine awp_cond (b := !e) (by simp [push_cast]) (fun hb => ?_) (fun hb => ?_) <;> (refine Nav.imp ?_)
        · simp at hb
          have hn := hno hb
          refine awp_region cx [] fun K hK => ?_
          simp [push_cast]
          repeat (refine And.intro (by clear hK; intros; first | omega | (simp_all; done) | (simp_all <;> omega)) ?_)
          refine hK _ ?_; clear hK K; refine Nav.imp ?_
          simp [push_cast, hn]
        · simp at hb
          obtain ⟨y1, y2⟩ := hyes hb
          refine awp_region cx [] fun K hK => ?_
          simp [push_cast, e0]
          repeat (refine And.intro (by clear hK; intros; first | omega | (simp_all; done) | (simp_all <;> omega)) ?_)
          refine hK _ ?_; clear hK K; refine Nav.imp ?_
          refine ⟨k + 1, ⟨hlt, y1, y2⟩, by omega, ?_⟩
          refine weak_of [] rfl (by simp [upT, up, upL, push_cast]) (by simp [upH, upR, upL, up, push_cast]) (by simp [namesOk, push_cast]) (by simp [olds])
      · have hge : k = a.length := by simp at hb; omega
        subst hge
        rw [List.take_length, hlen, List.take_length] at hpre
        rw [List.take_length] at hval
        have hy : eqB a b = true := by unfold eqB; rw [hval, hpre]; simp
        refine awp_region cx [] fun K hK => ?_
        simp [push_cast]
        repeat (refine And.intro (by clear hK; intros; first | omega | (simp_all; done) | (simp_all <;> omega)) ?_)
        refine hK _ ?_; clear hK K; refine Nav.imp ?_
        simp [push_cast, hy]
theorem iequal_ok (a b : List (List Row)) (hA : bigS a) (hB : bigS b) (hl : a.length ≤ 1000) : PC Try.prog 25 [encRegs a, encRegs b] (.p (.bool (eqB a b))) := by
  have c1 := equalRegs_ok a b hA hB hl
  generalize eqB a b = e at *
  refine pc_of_awp cx (fn := Try.f25) (c := _) Try.func25 rfl rfl (Nat.le_of_ble_eq_true rfl) ?_
  rw [Try.ntmps25]; refine Nav.imp ?_
  refine awp_region cx [] fun K hK => ?_
  simp [push_cast]
  repeat (refine And.intro (by clear hK; intros; first | omega | (simp_all; done) | (simp_all <;> omega)) ?_)
  refine hK _ ?_; clear hK K; refine Nav.imp ?_
  refine awp_region cx [(2, .p (.bool e))] fun K hK => ?_
  simp [push_cast, c1]
  repeat (refine And.intro (by clear hK; intros; first | omega | (simp_all; done) | (simp_all <;> omega)) ?_)
  refine hK _ ?_; clear hK K; refine Nav.imp ?_
  simp [push_cast]

set_option maxHeartbeats 2000000 in
theorem requal_ok (a b : List (List Row)) (hA : bigS a) (hl : a.length ≤ 1000) : PC Try.prog 26 [encRegs a, encRegs b] (.p (.bool (eqB a b))) := by
  refine pc_of_awp cx (fn := Try.f26) (c := _) Try.func26 rfl rfl (Nat.le_of_ble_eq_true rfl) ?_
  rw [Try.ntmps26]; refine Nav.imp ?_
  refine awp_region cx [] fun K hK => ?_
  simp [push_cast]
  repeat (refine And.intro (by clear hK; intros; first | omega | (simp_all; done) | (simp_all <;> omega)) ?_)
  refine hK _ ?_; clear hK K; refine Nav.imp ?_
  refine awp_region cx [] fun K hK => ?_
  simp [push_cast]
  repeat (refine And.intro (by clear hK; intros; first | omega | (simp_all; done) | (simp_all <;> omega)) ?_)
  refine hK _ ?_; clear hK K; refine Nav.imp ?_
  refine awp_cond (by simp [push_cast] <;> exact rfl) (fun hb => ?_) (fun hb => ?_) <;> (refine Nav.imp ?_)
  · simp at hb
    have hne := eqB_len (a := a) (b := b) (by omega)
    refine awp_region cx [] fun K hK => ?_
    simp [push_cast]
    repeat (refine And.intro (by clear hK; intros; first | omega | (simp_all; done) | (simp_all <;> omega)) ?_)
    refine hK _ ?_; clear hK K; refine Nav.imp ?_
    simp [push_cast, hne]
  · have hlen : a.length = b.length := by simp at hb; omega
    clear hb
    refine awp_region cx [] fun K hK => ?_
    simp [push_cast]
    repeat (refine And.intro (by clear hK; intros; first | omega | (simp_all; done) | (simp_all <;> omega)) ?_)
    refine hK _ ?_; clear hK K; refine Nav.imp ?_
    refine awp_loop (β := Nat) (fun k => ⟨35, [(0, .d (encRegs a)), (1, .d (encRegs b)), (12, .d (.int .i64 a.length)), (13, .d (.int .i64 k))], [], 0⟩) (fun k => k ≤ a.length ∧ a.take k = b.take k ∧ (a.take k).all validR = true) (fun k => a.length - k) 0 ?_ ⟨Nat.zero_le _, by simp, by simp⟩ ?_
    · refine weak_of [] rfl (by simp [upT, up, upL, push_cast]) (by simp [upH, upR, upL, up, push_cast]) (by simp [namesOk, push_cast]) (by simp [olds])
    · rintro k ⟨hk, hpre, hval⟩
      refine Nav.imp ?_
      refine awp_region cx [] fun K hK => ?_
      simp [push_cast]
      repeat (refine And.intro (by clear hK; intros; first | omega | (simp_all; done) | (simp_all <;> omega)) ?_)
      refine hK _ ?_; clear hK K; refine Nav.imp ?_
      refine awp_cond (b := decide ((k : Int) < a.length)) (by simp [push_cast]) (fun hb => ?_) (fun hb => ?_) <;> (refine Nav.imp ?_)
      · have hlt : k < a.length := by simpa using hb
        obtain ⟨p, hp⟩ := getq hlt
        obtain ⟨q, hq⟩ : ∃ y, b[k]? = some y := getq (by omega)
        have e0 := wrap_i64 (n := (k : Int) + 1) (by omega) (by omega)
        have c1 := validR_big p (hA p (List.mem_of_getElem? hp))
        have c2 := fun h => rsame_ok p q (small_valid h)
        have hno := eqB_no hp hq
        have hyes := eqB_step hpre hval hp hq
        unfold sameB at hno hyes
        refine awp_region cx [] fun K hK => ?_
        simp [push_cast]
        repeat (refine And.intro (by clear hK; intros; first | omega | (simp_all; done) | (simp_all <;> omega)) ?_)
        refine hK _ ?_; clear hK K; refine Nav.imp ?_
        cases hv : validR p with
        | false =>
          rw [hv] at c1
          have hn := hno (by rw [hv]; rfl)
          refine awp_region_draw cx mixed [(4, .p (.bool false)), (15, .skip)] fun K hK => ?_
          simp [push_cast, hp, hq, c1]
          repeat (refine And.intro (by clear hK; intros; first | omega | (simp_all; done) | (simp_all <;> omega)) ?_)
          refine hK _ _ (by kernel_rfl) ?_; clear hK K; refine Nav.imp ?_
          refine awp_cond (b := true) (by simp [push_cast]) (fun hb => ?_) (fun hb => ?_) <;> (refine Nav.imp ?_)
          · refine awp_region cx [] fun K hK => ?_
            simp [push_cast]
            repeat (refine And.intro (by clear hK; intros; first | omega | (simp_all; done) | (simp_all <;> omega)) ?_)
            refine hK _ ?_; clear hK K; refine Nav.imp ?_
            simp [push_cast, hn]
          · simp at hb
        | true =>
          rw [hv] at c1
          replace c2 := c2 hv
          by_cases hpq : p = q
          · have hy := hyes (by rw [← hpq, hv]; simp)
            rw [decide_eq_true hpq] at c2
            refine awp_region_draw cx mixed [(4, .p (.bool true)), (15, .p (.bool true))] fun K hK => ?_
            simp [push_cast, hp, hq, c1, c2]
            repeat (refine And.intro (by clear hK; intros; first | omega | (simp_all; done) | (simp_all <;> omega)) ?_)
            refine hK _ _ (by kernel_rfl) ?_; clear hK K; refine Nav.imp ?_
            refine awp_cond (b := false) (by simp [push_cast]) (fun hb => ?_) (fun hb => ?_) <;> (refine Nav.imp ?_)
            · simp at hb
            · refine awp_region cx [] fun K hK => ?_
              simp [push_cast, e0]
              repeat (refine And.intro (by clear hK; intros; first | omega | (simp_all; done) | (simp_all <;> omega)) ?_)
              refine hK _ ?_; clear hK K; refine Nav.imp ?_
              refine ⟨k + 1, ⟨hlt, hy.1, hy.2⟩, by omega, ?_⟩
              refine weak_of [] rfl (by simp [upT, up, upL, push_cast]) (by simp [upH, upR, upL, up, push_cast]) (by simp [namesOk, push_cast]) (by simp [olds])
          · have hn := hno (by simp [hpq])
            rw [decide_eq_false hpq] at c2
            refine awp_region_draw cx mixed [(4, .p (.bool true)), (15, .p (.bool false))] fun K hK => ?_
            simp [push_cast, hp, hq, c1, c2]
            repeat (refine And.intro (by clear hK; intros; first | omega | (simp_all; done) | (simp_all <;> omega)) ?_)
            refine hK _ _ (by kernel_rfl) ?_; clear hK K; refine Nav.imp ?_
            refine awp_cond (b := true) (by simp [push_cast]) (fun hb => ?_) (fun hb => ?_) <;> (refine Nav.imp ?_)
            · refine awp_region cx [] fun K hK => ?_
              simp [push_cast]
              repeat (refine And.intro (by clear hK; intros; first | omega | (simp_all; done) | (simp_all <;> omega)) ?_)
              refine hK _ ?_; clear hK K; refine Nav.imp ?_
              simp [push_cast, hn]
            · simp at hb
      · have hge : k = a.length := by simp at hb; omega
        subst hge
        rw [List.take_length, hlen, List.take_length] at hpre
        rw [List.take_length] at hval
        have hy : eqB a b = true := by unfold eqB; rw [hval, hpre]; simp
        refine awp_region cx [] fun K hK => ?_
        simp [push_cast]
        repeat (refine And.intro (by clear hK; intros; first | omega | (simp_all; done) | (simp_all <;> omega)) ?_)
        refine hK _ ?_; clear hK K; refine Nav.imp ?_
        simp [push_cast, hy]

theorem outside_ok (a b : List Row) (hA : bigR a) (hB : bigR b) : PC Try.prog 18 [.agg (regRow a), .agg (regRow b)] (.p (.agg (regRow (opR fD b a)))) := by
  have c1 := subtractR_big b a hB hA
  generalize opR fD b a = r at *
  refine pc_of_awp cx (fn := Try.f18) (c := _) Try.func18 rfl rfl (Nat.le_of_ble_eq_true rfl) ?_
  rw [Try.ntmps18]; refine Nav.imp ?_
  refine awp_region cx [] fun K hK => ?_
  simp [push_cast]
  repeat (refine And.intro (by clear hK; intros; first | omega | (simp_all; done) | (simp_all <;> omega)) ?_)
  refine hK _ ?_; clear hK K; refine Nav.imp ?_
  refine awp_region cx [(2, .p (.agg (regRow r)))] fun K hK => ?_
  simp [push_cast, c1]
  repeat (refine And.intro (by clear hK; intros; first | omega | (simp_all; done) | (simp_all <;> omega)) ?_)
  refine hK _ ?_; clear hK K; refine Nav.imp ?_
  simp [push_cast]
theorem routside_ok (a b : List Row) (hA : bigR a) (hB : bigR b) : PC Try.prog 19 [.agg (regRow a), .agg (regRow b)] (.p (.agg (regRow (opR fD b a)))) := by
  have c1 := rsubtract_big b a hB hA
  generalize opR fD b a = r at *
  refine pc_of_awp cx (fn := Try.f19) (c := _) Try.func19 rfl rfl (Nat.le_of_ble_eq_true rfl) ?_
  rw [Try.ntmps19]; refine Nav.imp ?_
  refine awp_region cx [] fun K hK => ?_
  simp [push_cast]
  repeat (refine And.intro (by clear hK; intros; first | omega | (simp_all; done) | (simp_all <;> omega)) ?_)
  refine hK _ ?_; clear hK K; refine Nav.imp ?_
  refine awp_region cx [(2, .p (.agg (regRow r)))] fun K hK => ?_
  simp [push_cast, c1]
  repeat (refine And.intro (by clear hK; intros; first | omega | (simp_all; done) | (simp_all <;> omega)) ?_)
  refine hK _ ?_; clear hK K; refine Nav.imp ?_
  simp [push_cast]

/-! The law's own functions. -/
def fewL (L : List (List Row)) : List (List Row) := (L.take 12).filter fun R => !heavyB R
theorem fewL_len (L : List (List Row)) : (fewL L).length ≤ 12 := Nat.le_trans (List.length_filter_le _ _) (by simp; omega)
theorem fewL_mem {L : List (List Row)} {R : List Row} (h : R ∈ fewL L) : R ∈ L ∧ heavyB R = false := by
  obtain ⟨h1, h2⟩ := List.mem_filter.1 h
  exact ⟨List.mem_of_mem_take h1, by simpa using h2⟩
theorem fewL_big {L : List (List Row)} (hL : bigS L) : bigL (fewL L) := fun R hR => by
  obtain ⟨h1, h2⟩ := fewL_mem hR
  exact ⟨hL R h1, fun hv => by have := (heavy_facts h2).2 hv; omega⟩
set_option maxHeartbeats 2000000 in
theorem few56_ok (L : List (List Row)) (hL : bigS L) (hlen : L.length ≤ 9223372036854775807) : PC Try.prog 20 [encRegs L] (.p (encRegs (fewL L))) := by
  have hfe : (L.take (min L.length 12)).filter (fun R => !heavyB R) = fewL L := by
    unfold fewL
    rw [Nat.min_comm, ← List.take_eq_take_min]
  generalize fewL L = res at *
  refine pc_of_awp cx (fn := Try.f20) (c := _) Try.func20 rfl rfl (Nat.le_of_ble_eq_true rfl) ?_
  rw [Try.ntmps20]; refine Nav.imp ?_
  refine awp_region cx [] fun K hK => ?_
  simp [push_cast]
  repeat (refine And.intro (by clear hK; intros; first | omega | (simp_all; done) | (simp_all <;> omega)) ?_)
  refine hK _ ?_; clear hK K; refine Nav.imp ?_
  refine awp_region cx [] fun K hK => ?_
  simp [push_cast]
  repeat (refine And.intro (by clear hK; intros; first | omega | (simp_all; done) | (simp_all <;> omega)) ?_)
  refine hK _ ?_; clear hK K; refine Nav.imp ?_
  refine awp_region cx [] fun K hK => ?_
  simp [push_cast]
  repeat (refine And.intro (by clear hK; intros; first | omega | (simp_all; done) | (simp_all <;> omega)) ?_)
  refine hK _ ?_; clear hK K; refine Nav.imp ?_
  refine awp_loop (β := Nat × List (List Row)) (fun b => ⟨29, [(0, .d (encRegs L)), (3, .hs 0 0 b.2.length), (4, .d (.int .i64 b.1))], [(0, some ⟨24, 1, dr (b.2.map regRow)⟩)], 1⟩) (fun b => b.1 ≤ min L.length 12 ∧ b.2 = (L.take b.1).filter fun R => !heavyB R) (fun b => min L.length 12 - b.1) (0, []) ?_ ⟨Nat.zero_le _, by simp⟩ ?_
  · refine weak_of [(0, none)] rfl (by simp [upT, up, upL, push_cast]) (by simp [upH, upR, upL, up, push_cast]) (by simp [namesOk, push_cast]) (by simp [olds])
  · rintro ⟨i, Z⟩ ⟨hi, hZ⟩
    simp only at hi hZ
    refine Nav.imp ?_
    have hZl : Z.length ≤ 12 := by have := List.length_filter_le (fun R => !heavyB R) (L.take i); rw [← hZ] at this; simp at this; omega
    by_cases hlt : i < min L.length 12
    · obtain ⟨R, hR⟩ := getq (l := L) (k := i) (by omega)
      have e0 := wrap_i64 (n := (i : Int) + 1) (by omega) (by omega)
      have q1 : i < L.length := by omega
      have q2 : (i : Int) < 12 := by omega
      have c1 := heavy56_ok R (hL R (List.mem_of_getElem? hR))
      have hnx := filter_take (p := fun R => !heavyB R) hR
      rw [← hZ] at hnx
      have hZ24 : (Z.length + 1) * 24 ≤ 140737488355328 := by omega
      refine awp_region cx [] fun K hK => ?_
      simp [push_cast, q1, q2]
      repeat (refine And.intro (by clear hK; intros; first | omega | (simp_all; done) | (simp_all <;> omega)) ?_)
      refine hK _ ?_; clear hK K; refine Nav.imp ?_
      refine awp_cond (b := true) (by simp [push_cast, q1, q2]) (fun hb => ?_) (fun hb => ?_) <;> (refine Nav.imp ?_)
      · cases hh : heavyB R with
        | true =>
          rw [hh] at c1
          simp only [hh, Bool.not_true, Bool.false_eq_true, if_false, List.append_nil] at hnx
          refine awp_region cx [(4, .p (.bool true))] fun K hK => ?_
          simp [push_cast, hR, c1]
          repeat (refine And.intro (by clear hK; intros; first | omega | (simp_all; done) | (simp_all <;> omega)) ?_)
          refine hK _ ?_; clear hK K; refine Nav.imp ?_
          refine awp_cond (b := false) (by simp [push_cast]) (fun hb => ?_) (fun hb => ?_) <;> (refine Nav.imp ?_)
          · simp at hb
          · refine awp_region cx [] fun K hK => ?_
            simp [push_cast, e0]
            repeat (refine And.intro (by clear hK; intros; first | omega | (simp_all; done) | (simp_all <;> omega)) ?_)
            refine hK _ ?_; clear hK K; refine Nav.imp ?_
            refine ⟨(i + 1, Z), ⟨hlt, hnx.symm⟩, by simp only; omega, ?_⟩
            refine weak_of [(0, some 0)] rfl (by simp [upT, up, upL, push_cast]) (by simp [upH, upR, upL, up, push_cast]) (by simp [namesOk, push_cast]) (by simp [olds])
        | false =>
          rw [hh] at c1
          simp only [hh, Bool.not_false, if_true] at hnx
          refine awp_region cx [(4, .p (.bool false))] fun K hK => ?_
          simp [push_cast, hR, c1]
          repeat (refine And.intro (by clear hK; intros; first | omega | (simp_all; done) | (simp_all <;> omega)) ?_)
          refine hK _ ?_; clear hK K; refine Nav.imp ?_
          refine awp_cond (b := true) (by simp [push_cast]) (fun hb => ?_) (fun hb => ?_) <;> (refine Nav.imp ?_)
          · refine awp_region cx [] fun K hK => ?_
            simp [push_cast, hR, hZ24]
            repeat (refine And.intro (by clear hK; intros; first | omega | (simp_all; done) | (simp_all <;> omega)) ?_)
            refine hK _ ?_; clear hK K; refine Nav.imp ?_
            refine awp_region cx [] fun K hK => ?_
            simp [push_cast, e0]
            repeat (refine And.intro (by clear hK; intros; first | omega | (simp_all; done) | (simp_all <;> omega)) ?_)
            refine hK _ ?_; clear hK K; refine Nav.imp ?_
            refine ⟨(i + 1, Z ++ [R]), ⟨hlt, hnx.symm⟩, by simp only; omega, ?_⟩
            refine weak_of [(0, some 21)] rfl (by simp [upT, up, upL, push_cast]) (by simp [upH, upR, upL, up, push_cast]) (by simp [namesOk, push_cast]) (by simp [olds])
          · simp at hb
      · simp at hb
    · have hie : i = min L.length 12 := by omega
      subst hie
      rw [hfe] at hZ
      subst hZ
      have ht2 : List.take Z.length (Z.map regRow) = Z.map regRow := List.take_of_length_le (by simp)
      by_cases hq : min L.length 12 < L.length
      · have q2 : (12 : Int) ≤ ((min L.length 12 : Nat) : Int) := by omega
        refine awp_region cx [] fun K hK => ?_
        simp [push_cast, hq, q2]
        repeat (refine And.intro (by clear hK; intros; first | omega | (simp_all; done) | (simp_all <;> omega)) ?_)
        refine hK _ ?_; clear hK K; refine Nav.imp ?_
        refine awp_cond (b := false) (by simp [push_cast, hq, q2]) (fun hb => ?_) (fun hb => ?_) <;> (refine Nav.imp ?_)
        · simp at hb
        · refine awp_freeze 0 (Z.map regRow) rfl (by simp [push_cast, ht2]) fun K hK => ?_
          simp [push_cast, St.fz, fzT, fzH, fzO, fz, fzL, fzR, fzR_dr, fzR_app, fzR_set, fzL_map, ht2]
          refine hK _ ?_; clear hK K; refine Nav.imp ?_
          refine awp_region cx [] fun K hK => ?_
          simp [push_cast]
          repeat (refine And.intro (by clear hK; intros; first | omega | (simp_all; done) | (simp_all <;> omega)) ?_)
          refine hK _ ?_; clear hK K; refine Nav.imp ?_
          simp [push_cast]
      · refine awp_region cx [] fun K hK => ?_
        simp [push_cast, hq]
        repeat (refine And.intro (by clear hK; intros; first | omega | (simp_all; done) | (simp_all <;> omega)) ?_)
        refine hK _ ?_; clear hK K; refine Nav.imp ?_
        refine awp_cond (b := false) (by simp [push_cast, hq]) (fun hb => ?_) (fun hb => ?_) <;> (refine Nav.imp ?_)
        · simp at hb
        · refine awp_freeze 0 (Z.map regRow) rfl (by simp [push_cast, ht2]) fun K hK => ?_
          simp [push_cast, St.fz, fzT, fzH, fzO, fz, fzL, fzR, fzR_dr, fzR_app, fzR_set, fzL_map, ht2]
          refine hK _ ?_; clear hK K; refine Nav.imp ?_
          refine awp_region cx [] fun K hK => ?_
          simp [push_cast]
          repeat (refine And.intro (by clear hK; intros; first | omega | (simp_all; done) | (simp_all <;> omega)) ?_)
          refine hK _ ?_; clear hK K; refine Nav.imp ?_
          simp [push_cast]

theorem same56_ok (a b : List (List Row)) (hA : ∀ R ∈ a, smallR R) (hl : a.length ≤ 1000) : PC Try.prog 21 [encRegs a, encRegs b] (.p (.bool (decide (a = b)))) := by
  refine pc_of_awp cx (fn := Try.f21) (c := _) Try.func21 rfl rfl (Nat.le_of_ble_eq_true rfl) ?_
  rw [Try.ntmps21]; refine Nav.imp ?_
  refine awp_region cx [] fun K hK => ?_
  simp [push_cast]
  repeat (refine And.intro (by clear hK; intros; first | omega | (simp_all; done) | (simp_all <;> omega)) ?_)
  refine hK _ ?_; clear hK K; refine Nav.imp ?_
  refine awp_region cx [] fun K hK => ?_
  simp [push_cast]
  repeat (refine And.intro (by clear hK; intros; first | omega | (simp_all; done) | (simp_all <;> omega)) ?_)
  refine hK _ ?_; clear hK K; refine Nav.imp ?_
  refine awp_cond (by simp [push_cast] <;> exact rfl) (fun hb => ?_) (fun hb => ?_) <;> (refine Nav.imp ?_)
  · simp at hb
    have hne : a ≠ b := by intro e; subst e; simp at hb
    refine awp_region cx [] fun K hK => ?_
    simp [push_cast]
    repeat (refine And.intro (by clear hK; intros; first | omega | (simp_all; done) | (simp_all <;> omega)) ?_)
    refine hK _ ?_; clear hK K; refine Nav.imp ?_
    simp [push_cast, hne]
  · have hlen : a.length = b.length := by simp at hb; omega
    clear hb
    refine awp_region cx [] fun K hK => ?_
    simp [push_cast]
    repeat (refine And.intro (by clear hK; intros; first | omega | (simp_all; done) | (simp_all <;> omega)) ?_)
    refine hK _ ?_; clear hK K; refine Nav.imp ?_
    refine awp_loop (β := Nat) (fun k => ⟨27, [(0, .d (encRegs a)), (1, .d (encRegs b)), (12, .d (.int .i64 a.length)), (13, .d (.int .i64 k))], [], 0⟩) (fun k => k ≤ a.length ∧ a.take k = b.take k) (fun k => a.length - k) 0 ?_ ⟨Nat.zero_le _, by simp⟩ ?_
    · refine weak_of [] rfl (by simp [upT, up, upL, push_cast]) (by simp [upH, upR, upL, up, push_cast]) (by simp [namesOk, push_cast]) (by simp [olds])
    · rintro k ⟨hk, hpre⟩
      refine Nav.imp ?_
      refine awp_region cx [] fun K hK => ?_
      simp [push_cast]
      repeat (refine And.intro (by clear hK; intros; first | omega | (simp_all; done) | (simp_all <;> omega)) ?_)
      refine hK _ ?_; clear hK K; refine Nav.imp ?_
      refine awp_cond (b := decide ((k : Int) < a.length)) (by simp [push_cast]) (fun hb => ?_) (fun hb => ?_) <;> (refine Nav.imp ?_)
      · have hlt : k < a.length := by simpa using hb
        obtain ⟨p, hp⟩ := getq hlt
        obtain ⟨q, hq⟩ : ∃ y, b[k]? = some y := getq (by omega)
        have e0 := wrap_i64 (n := (k : Int) + 1) (by omega) (by omega)
        have c1 := rsame_ok p q (hA p (List.mem_of_getElem? hp))
        have hno : p ≠ q → a ≠ b := fun h e => by
          subst e
          rw [hp] at hq
          exact h (Option.some.inj hq)
        have hyes : p = q → a.take (k + 1) = b.take (k + 1) := take_eq_step hpre hp hq
        generalize he : decide (p = q) = e at c1
        refine awp_region cx [] fun K hK => ?_
        simp [push_cast]
        repeat (refine And.intro (by clear hK; intros; first | omega | (simp_all; done) | (simp_all <;> omega)) ?_)
        refine hK _ ?_; clear hK K; refine Nav.imp ?_
        refine awp_region_draw cx mixed [(8, .p (.bool e))] fun K hK => ?_
        simp [push_cast, hp, hq, c1]
        repeat (refine And.intro (by clear hK; intros; first | omega | (simp_all; done) | (simp_all <;> omega)) ?_)
        refine hK _ _ (by kernel_rfl) ?_; clear hK K; refine Nav.imp ?_
        refine awp_cond (b := !e) (by simp [push_cast]) (fun hb => ?_) (fun hb => ?_) <;> (refine Nav.imp ?_)
        · simp at hb
          rw [hb] at he
          have hn : a ≠ b := hno (by simpa using he)
          refine awp_region cx [] fun K hK => ?_
          simp [push_cast]
          repeat (refine And.intro (by clear hK; intros; first | omega | (simp_all; done) | (simp_all <;> omega)) ?_)
          refine hK _ ?_; clear hK K; refine Nav.imp ?_
          simp [push_cast, hn]
        · simp at hb
          rw [hb] at he
          refine awp_region cx [] fun K hK => ?_
          simp [push_cast, e0]
          repeat (refine And.intro (by clear hK; intros; first | omega | (simp_all; done) | (simp_all <;> omega)) ?_)
          refine hK _ ?_; clear hK K; refine Nav.imp ?_
          refine ⟨k + 1, ⟨hlt, hyes (by simpa using he)⟩, by omega, ?_⟩
          refine weak_of [] rfl (by simp [upT, up, upL, push_cast]) (by simp [upH, upR, upL, up, push_cast]) (by simp [namesOk, push_cast]) (by simp [olds])
      · have hge : k = a.length := by simp at hb; omega
        subst hge
        rw [List.take_length, hlen, List.take_length] at hpre
        refine awp_region cx [] fun K hK => ?_
        simp [push_cast]
        repeat (refine And.intro (by clear hK; intros; first | omega | (simp_all; done) | (simp_all <;> omega)) ?_)
        refine hK _ ?_; clear hK K; refine Nav.imp ?_
        simp [push_cast, hpre]
def oneRow (a b : Int) : List Row := [⟨0, [⟨a, b⟩]⟩]
theorem row56_ok (a b : Int) : PC Try.prog 51 [.int .i64 a, .int .i64 b] (.p (.agg (regRow (oneRow a b)))) := by
  refine pc_of_awp cx (fn := Try.f51) (c := _) Try.func51 rfl rfl (Nat.le_of_ble_eq_true rfl) ?_
  rw [Try.ntmps51]; refine Nav.imp ?_
  refine awp_region cx [] fun K hK => ?_
  simp [push_cast]
  repeat (refine And.intro (by clear hK; intros; first | omega | (simp_all; done) | (simp_all <;> omega)) ?_)
  refine hK _ ?_; clear hK K; refine Nav.imp ?_
  refine awp_region cx [(3, .f (.sl [[.int .i64 a, .int .i64 b]])), (5, .f (.sl [[.int .i64 0, .sl [[.int .i64 a, .int .i64 b]]]]))] fun K hK => ?_
  simp [push_cast]
  repeat (refine And.intro (by clear hK; intros; first | omega | (simp_all; done) | (simp_all <;> omega)) ?_)
  refine hK _ ?_; clear hK K; refine Nav.imp ?_
  simp [push_cast, oneRow, Row.row, Run.row]
theorem row30_ok (a b : Int) : PC Try.prog 72 [.int .i64 a, .int .i64 b] (.p (.agg (regRow (oneRow a b)))) := by
  refine pc_of_awp cx (fn := Try.f72) (c := _) Try.func72 rfl rfl (Nat.le_of_ble_eq_true rfl) ?_
  rw [Try.ntmps72]; refine Nav.imp ?_
  refine awp_region cx [] fun K hK => ?_
  simp [push_cast]
  repeat (refine And.intro (by clear hK; intros; first | omega | (simp_all; done) | (simp_all <;> omega)) ?_)
  refine hK _ ?_; clear hK K; refine Nav.imp ?_
  refine awp_region cx [(3, .f (.sl [[.int .i64 a, .int .i64 b]])), (5, .f (.sl [[.int .i64 0, .sl [[.int .i64 a, .int .i64 b]]]]))] fun K hK => ?_
  simp [push_cast]
  repeat (refine And.intro (by clear hK; intros; first | omega | (simp_all; done) | (simp_all <;> omega)) ?_)
  refine hK _ ?_; clear hK K; refine Nav.imp ?_
  simp [push_cast, oneRow, Row.row, Run.row]
end Go.Proofs.Ytlfalheciadklaa

set_option linter.unusedVariables false
set_option linter.unusedSimpArgs false
set_option maxRecDepth 100000
namespace Go.Proofs.Ytlfalheciadklaa
open Go.Abs

/-! What the laws are called with. -/
theorem cell_of {f : Nat} {ds : List D} (h : hasT Try.prog (f + 2) 44 ds) : ∃ c : Cell, ds = c.row := by
  obtain ⟨hl, hp⟩ := hasT_struct (n := 2) (ts := [3, 3]) Try.underlying44 (by kernel_rfl) rfl (by kernel_rfl) h
  obtain ⟨d0, r0, e0, h0, hp0⟩ := parts_one (by kernel_rfl) hp (by simp_all <;> omega)
  subst e0
  obtain ⟨d1, r1, e1, h1, hp1⟩ := parts_one (by kernel_rfl) hp0 (by simp_all <;> omega)
  subst e1
  simp only [parts] at hp1
  subst hp1
  obtain ⟨n0, e0, w0⟩ := hasT_int Try.underlying3 h0
  cases e0
  obtain ⟨n1, e1, w1⟩ := hasT_int Try.underlying3 h1
  cases e1
  exact ⟨⟨n0, n1⟩, rfl⟩
theorem cells_of {f : Nat} {d : D} (h : hasT Try.prog (f + 3) 52 [d]) : ∃ l : List Cell, d = encCells l := by
  obtain ⟨rows, he, _, hr⟩ := hasT_slice Try.underlying52 h
  cases he
  obtain ⟨l, rfl⟩ := rows_of (row := Cell.row) fun r hr' => cell_of (hr r hr')
  exact ⟨l, rfl⟩
theorem run_of {f : Nat} {ds : List D} (h : hasT Try.prog (f + 2) 63 ds) : ∃ c : Run, ds = c.row := by
  obtain ⟨hl, hp⟩ := hasT_struct (n := 2) (ts := [3, 3]) Try.underlying63 (by kernel_rfl) rfl (by kernel_rfl) h
  obtain ⟨d0, r0, e0, h0, hp0⟩ := parts_one (by kernel_rfl) hp (by simp_all <;> omega)
  subst e0
  obtain ⟨d1, r1, e1, h1, hp1⟩ := parts_one (by kernel_rfl) hp0 (by simp_all <;> omega)
  subst e1
  simp only [parts] at hp1
  subst hp1
  obtain ⟨n0, e0, w0⟩ := hasT_int Try.underlying3 h0
  cases e0
  obtain ⟨n1, e1, w1⟩ := hasT_int Try.underlying3 h1
  cases e1
  exact ⟨⟨n0, n1⟩, rfl⟩
theorem runs_of {f : Nat} {d : D} (h : hasT Try.prog (f + 3) 58 [d]) : ∃ l : List Run, d = encRuns l := by
  obtain ⟨rows, he, _, hr⟩ := hasT_slice Try.underlying58 h
  cases he
  obtain ⟨l, rfl⟩ := rows_of (row := Run.row) fun r hr' => run_of (hr r hr')
  exact ⟨l, rfl⟩
theorem regrows_of {f : Nat} {d : D} (h : hasT Try.prog (f + 5) 22 [d]) : ∃ l : List Row, d = encRows l := by
  obtain ⟨rows, he, _, hr⟩ := hasT_slice Try.underlying22 h
  cases he
  obtain ⟨l, rfl⟩ := rows_of (row := Row.row) fun r hr' => by
    obtain ⟨hl, hp⟩ := hasT_struct (n := 2) (ts := [3, 58]) Try.underlying60 (by kernel_rfl) rfl (by kernel_rfl) (hr r hr')
    obtain ⟨d0, r0, e0, h0, hp0⟩ := parts_one (by kernel_rfl) hp (by simp_all <;> omega)
    subst e0
    obtain ⟨d1, r1, e1, h1, hp1⟩ := parts_one (by kernel_rfl) hp0 (by simp_all <;> omega)
    subst e1
    simp only [parts] at hp1
    subst hp1
    obtain ⟨n0, e0, w0⟩ := hasT_int Try.underlying3 h0
    cases e0
    obtain ⟨c, rfl⟩ := runs_of h1
    exact ⟨⟨n0, c⟩, rfl⟩
  exact ⟨l, rfl⟩
theorem region_of {f : Nat} {ds : List D} (h : hasT Try.prog (f + 6) 24 ds) : ∃ l : List Row, ds = regRow l := by
  obtain ⟨hl, hp⟩ := hasT_struct (n := 1) (ts := [22]) Try.underlying24 (by kernel_rfl) rfl (by kernel_rfl) h
  obtain ⟨d0, r0, e0, h0, hp0⟩ := parts_one (by kernel_rfl) hp (by simp_all <;> omega)
  subst e0
  simp only [parts] at hp0
  subst hp0
  obtain ⟨c, rfl⟩ := regrows_of h0
  exact ⟨c, rfl⟩

theorem arg_region {x : D} (h : hasV Try.prog 24 x) : ∃ R : List Row, x = .agg (regRow R) := by
  simp only [hasV, Try.underlying24] at h
  obtain ⟨cs, rfl, h⟩ := h
  obtain ⟨s, rfl⟩ := region_of (f := 24) h
  exact ⟨s, rfl⟩
theorem arg_cells {x : D} (h : hasV Try.prog 52 x) : ∃ l : List Cell, x = encCells l := by
  simp only [hasV, Try.underlying52] at h
  exact cells_of (f := 27) h
theorem arg_cell {x : D} (h : hasV Try.prog 44 x) : ∃ c : Cell, x = .agg c.row := by
  simp only [hasV, Try.underlying44] at h
  obtain ⟨cs, rfl, h⟩ := h
  obtain ⟨s, rfl⟩ := cell_of (f := 28) h
  exact ⟨s, rfl⟩
theorem arg_int {x : D} (h : hasV Try.prog 3 x) : ∃ n : Int, x = .int .i64 n := by
  obtain ⟨n, rfl, _⟩ := hasV_int Try.underlying3 h
  exact ⟨n, rfl⟩

theorem own : ownKnob Try.prog.godebug = none := by kernel_rfl
theorem laidOut : laidOutB Try.prog = true := by kernel_rfl
def zeroCell : Value := .agg #[.int .i64 0, .int .i64 0]
def zeroReg : Value := .agg #[.slice none 0 0]
end Go.Proofs.Ytlfalheciadklaa

set_option linter.unusedVariables false
set_option linter.unusedSimpArgs false
set_option maxRecDepth 100000
namespace Go.Proofs.Ytlfalheciadklaa
open Go.Abs Go.ChangeShapes Go.WideShapes Go.ChangeAt Go.RowKit

/-! What the laws of package inspect are called with; their example. -/
theorem big_rows {f : Nat} {d : D} (h : hasT Try.prog (f + 5) 22 [d]) : ∃ l : List Row, d = encRows l ∧ bigR l := by
  obtain ⟨rows, e, hlen, hr⟩ := hasT_slice Try.underlying22 h
  have hrow : ∀ r ∈ rows, ∃ w : Row, r = w.row ∧ w.runs.length ≤ 9223372036854775807 := fun r hr' => by
    obtain ⟨hl, hp⟩ := hasT_struct (n := 2) (ts := [3, 58]) Try.underlying60 (by kernel_rfl) (by kernel_rfl) (by kernel_rfl) (hr r hr')
    obtain ⟨d0, r0, e0, h0, hp0⟩ := parts_one (by kernel_rfl) hp (by omega)
    subst e0
    obtain ⟨d1, r1, e1, h1, hp1⟩ := parts_one (by kernel_rfl) hp0 (by simp at hl ⊢; omega)
    subst e1
    simp only [parts] at hp1
    subst hp1
    obtain ⟨n, en, _⟩ := hasT_int Try.underlying3 h0
    cases en
    obtain ⟨rr, er, hrl, hrr⟩ := hasT_slice Try.underlying58 h1
    cases er
    obtain ⟨l, rfl⟩ := rows_of (row := Run.row) fun x hx => run_of (f := f) (hrr x hx)
    exact ⟨⟨n, l⟩, rfl, by simpa [maxLen] using hrl⟩
  have key : ∀ rows : List (List D), (∀ r ∈ rows, ∃ w : Row, r = w.row ∧ w.runs.length ≤ 9223372036854775807) → ∃ l : List Row, rows = l.map Row.row ∧ ∀ w ∈ l, w.runs.length ≤ 9223372036854775807 := by
    intro rows
    induction rows with
    | nil => intro _; exact ⟨[], rfl, by simp⟩
    | cons r rows ih =>
      intro h
      obtain ⟨w, hw, hwl⟩ := h r (by simp)
      obtain ⟨l, hl, hll⟩ := ih fun x hx => h x (by simp [hx])
      exact ⟨w :: l, by rw [hw, hl]; rfl, fun v hv => by rcases List.mem_cons.1 hv with rfl | hv; exact hwl; exact hll v hv⟩
  obtain ⟨l, rfl, hl⟩ := key rows hrow
  cases e
  exact ⟨l, rfl, by simpa [maxLen] using hlen, hl⟩
theorem big_region {f : Nat} {ds : List D} (h : hasT Try.prog (f + 6) 24 ds) : ∃ l : List Row, ds = regRow l ∧ bigR l := by
  obtain ⟨hl, hp⟩ := hasT_struct (n := 1) (ts := [22]) Try.underlying24 (by kernel_rfl) (by kernel_rfl) (by kernel_rfl) h
  obtain ⟨d0, r0, e0, h0, hp0⟩ := parts_one (by kernel_rfl) hp (by omega)
  subst e0
  simp only [parts] at hp0
  subst hp0
  obtain ⟨l, rfl, hb⟩ := big_rows (f := f) h0
  exact ⟨l, rfl, hb⟩
theorem arg_regionB {x : D} (h : hasV Try.prog 24 x) : ∃ R : {R : List Row // bigR R}, x = .agg (regRow R.1) := by
  unfold hasV at h
  rw [Try.underlying24] at h
  obtain ⟨cs, rfl, h⟩ := h
  obtain ⟨l, rfl, hb⟩ := big_region (f := 24) h
  exact ⟨⟨l, hb⟩, rfl⟩
theorem arg_regionsB {x : D} (h : hasV Try.prog 31 x) : ∃ L : {L : List (List Row) // bigS L ∧ L.length ≤ 9223372036854775807}, x = encRegs L.1 := by
  unfold hasV at h
  rw [Try.underlying31] at h
  obtain ⟨rows, e, hlen, hr⟩ := hasT_slice (f := 29) Try.underlying31 h
  have key : ∀ rows : List (List D), (∀ r ∈ rows, ∃ R : List Row, r = regRow R ∧ bigR R) → ∃ L : List (List Row), rows = L.map regRow ∧ bigS L := by
    intro rows
    induction rows with
    | nil => intro _; exact ⟨[], rfl, fun R hR => by simp at hR⟩
    | cons r rows ih =>
      intro h
      obtain ⟨w, hw, hwl⟩ := h r (by simp)
      obtain ⟨l, hl, hll⟩ := ih fun x hx => h x (by simp [hx])
      exact ⟨w :: l, by rw [hw, hl]; rfl, fun v hv => by rcases List.mem_cons.1 hv with rfl | hv; exact hwl; exact hll v hv⟩
  obtain ⟨L, rfl, hL⟩ := key rows fun r hr' => big_region (f := 23) (hr r hr')
  cases e
  exact ⟨⟨L, hL, by simpa [maxLen] using hlen⟩, rfl⟩
end Go.Proofs.Ytlfalheciadklaa

set_option linter.unusedVariables false
set_option linter.unusedSimpArgs false
set_option maxRecDepth 100000
namespace Go.Proofs.Ytlfalheciadklaa
open Go.Abs Go.ChangeShapes Go.WideShapes Go.ChangeAt Go.RowKit

def awO : List (List Row) := [[], oneRow 0 1]
theorem one_big (a b : Int) : bigR (oneRow a b) := ⟨by simp [oneRow], by simp [oneRow]⟩
theorem one_small (a b : Int) : smallR (oneRow a b) := ⟨by simp [oneRow], by simp [oneRow]⟩
theorem nil_big : bigR [] := ⟨by simp, by simp⟩
theorem aw_loose : looseL awO 64 = awO := by decide +kernel
theorem aw_miss1 : missR (oneRow 0 10) (oneRow 4 5) 4 = oneRow 9 10 := by decide +kernel
theorem aw_miss2 : missR (oneRow 0 10) (oneRow 4 5) 5 = [] := by decide +kernel
theorem aw_out : opR fD (oneRow 1 5) (oneRow 0 3) = oneRow 3 5 := by
  rw [← opR_on (ys := [0]) rfl (by decide) (by decide) (by decide) (fun w hw => by simp [oneRow] at hw; rcases hw with rfl | rfl <;> simp)]
  decide +kernel
theorem aw_eq1 : eqB awO awO = true := by decide +kernel
theorem aw_eq2 : eqB awO (awO.take 1) = false := by decide +kernel
theorem awO_big : bigL awO := fun R hR => by
  have : R = [] ∨ R = oneRow 0 1 := by simpa [awO] using hR
  rcases this with rfl | rfl
  · exact ⟨nil_big, fun _ => by simp [regCells]⟩
  · exact ⟨one_big _ _, fun _ => by decide +kernel⟩
set_option maxHeartbeats 4000000 in
theorem awake56_ok : PC Try.prog 14 [] (.p (.bool true)) := by
  have r1 := row56_ok
  have c1 := loose_ok awO 64 awO_big (by decide)
  rw [aw_loose] at c1
  have c2 := missing_ok (oneRow 0 10) (oneRow 4 5) 4 (one_big _ _) (one_big _ _)
  have c3 := missing_ok (oneRow 0 10) (oneRow 4 5) 5 (one_big _ _) (one_big _ _)
  rw [aw_miss1] at c2
  rw [aw_miss2] at c3
  have c4 := rsame_ok (oneRow 9 10) (oneRow 9 10) (one_small _ _)
  have c5 := outside_ok (oneRow 0 3) (oneRow 1 5) (one_big _ _) (one_big _ _)
  rw [aw_out] at c5
  have c6 := rsame_ok (oneRow 3 5) (oneRow 3 5) (one_small _ _)
  have c7 := rsame_ok (oneRow 0 1) (oneRow 0 1) (one_small _ _)
  rw [decide_eq_true rfl] at c4 c6 c7
  have hbs : bigS awO := fun R hR => (awO_big R hR).1
  have c8 := iequal_ok awO awO hbs hbs (by decide)
  have c9 := iequal_ok awO (awO.take 1) hbs (fun R hR => hbs R (List.mem_of_mem_take hR)) (by decide)
  rw [aw_eq1] at c8
  rw [aw_eq2] at c9
  simp only [awO, encRegs, List.take_succ_cons, List.take_zero, List.map_cons, List.map_nil] at c1 c8 c9
  refine pc_of_awp cx (fn := Try.f14) (c := _) Try.func14 rfl rfl (Nat.le_of_ble_eq_true rfl) ?_
  rw [Try.ntmps14]; refine Nav.imp ?_
  refine awp_region cx [] fun K hK => ?_
  simp [push_cast]
  repeat (refine And.intro (by clear hK; intros; first | omega | (simp_all; done) | (simp_all <;> omega)) ?_)
  refine hK _ ?_; clear hK K; refine Nav.imp ?_
  refine awp_region cx [(1, .p (.agg (regRow (oneRow 0 1)))), (2, .f (.sl [regRow [], regRow (oneRow 0 1)])), (3, .p (.sl [regRow [], regRow (oneRow 0 1)]))] fun K hK => ?_
  simp [push_cast, r1, c1]
  repeat (refine And.intro (by clear hK; intros; first | omega | (simp_all; done) | (simp_all <;> omega)) ?_)
  refine hK _ ?_; clear hK K; refine Nav.imp ?_
  refine awp_region_draw cx mixed [(0, .p (.agg (regRow (oneRow 0 10)))), (1, .p (.agg (regRow (oneRow 4 5)))), (2, .p (.agg (regRow (oneRow 9 10)))), (3, .p (.agg (regRow (oneRow 9 10)))), (4, .p (.bool true)), (6, .p (.agg (regRow (oneRow 0 10)))), (7, .p (.agg (regRow (oneRow 4 5)))), (8, .p (.agg (regRow []))), (14, .p (.agg (regRow (oneRow 0 3)))), (15, .p (.agg (regRow (oneRow 1 5)))), (16, .p (.agg (regRow (oneRow 3 5)))), (17, .p (.agg (regRow (oneRow 3 5)))), (18, .p (.bool true)), (37, .p (.agg (regRow (oneRow 0 1)))), (38, .p (.bool true)), (43, .p (.agg (regRow (oneRow 0 1)))), (44, .f (.sl [regRow [], regRow (oneRow 0 1)])), (45, .p (.bool true)), (51, .p (.bool false))] fun K hK => ?_
  simp [push_cast, r1, c2, c3, c4, c5, c6, c7, c8, c9]
  repeat (refine And.intro (by clear hK; intros; first | omega | (simp_all; done) | (simp_all <;> omega)) ?_)
  refine hK _ _ (by kernel_rfl) ?_; clear hK K; refine Nav.imp ?_
  simp [push_cast]
end Go.Proofs.Ytlfalheciadklaa

set_option linter.unusedVariables false
set_option linter.unusedSimpArgs false
set_option maxRecDepth 100000
namespace Go.Proofs.Ytlfalheciadklaa
open Go.Abs Go.ChangeShapes Go.WideShapes Go.ChangeAt Go.RowKit

theorem opR_valid {f : Bool → Bool → Bool} (hf : f false false = false) (a b : List Row) : validR (opR f a b) = true := by
  cases ha : validR a with
  | false => rw [show opR f a b = [] from by simp [opR, ha]]; rfl
  | true =>
    cases hb : validR b with
    | false => rw [show opR f a b = [] from by simp [opR, ha, hb]]; rfl
    | true => exact (opR_facts hf ha hb).1
set_option maxHeartbeats 2000000 in
theorem inspectmissing_ok (S M : List Row) (k : Int) (hS : bigR S) (hM : bigR M) : PC Try.prog 3 [.agg (regRow S), .agg (regRow M), .int .i64 k] (.p (.bool true)) := by
  have c0 := awake56_ok
  have c1 := heavy56_ok S hS
  have c2 := heavy56_ok M hM
  cases h1 : heavyB S with
  | true =>
    rw [h1] at c1
    refine pc_of_awp cx (fn := Try.f3) (c := _) Try.func3 rfl rfl (Nat.le_of_ble_eq_true rfl) ?_
    rw [Try.ntmps3]; refine Nav.imp ?_
    refine awp_region cx [] fun K hK => ?_
    simp [push_cast]
    repeat (refine And.intro (by clear hK; intros; first | omega | (simp_all; done) | (simp_all <;> omega)) ?_)
    refine hK _ ?_; clear hK K; refine Nav.imp ?_
    refine awp_region cx [(1, .p (.bool true)), (4, .skip)] fun K hK => ?_
    simp [push_cast, c1]
    repeat (refine And.intro (by clear hK; intros; first | omega | (simp_all; done) | (simp_all <;> omega)) ?_)
    refine hK _ ?_; clear hK K; refine Nav.imp ?_
    refine awp_cond (b := true) (by simp [push_cast]) (fun hb => ?_) (fun hb => ?_) <;> (refine Nav.imp ?_)
    · refine awp_region cx [(0, .p (.bool true))] fun K hK => ?_
      simp [push_cast, c0]
      repeat (refine And.intro (by clear hK; intros; first | omega | (simp_all; done) | (simp_all <;> omega)) ?_)
      refine hK _ ?_; clear hK K; refine Nav.imp ?_
      simp [push_cast]
    · simp at hb
  | false =>
    rw [h1] at c1
    cases h2 : heavyB M with
    | true =>
      rw [h2] at c2
      refine pc_of_awp cx (fn := Try.f3) (c := _) Try.func3 rfl rfl (Nat.le_of_ble_eq_true rfl) ?_
      rw [Try.ntmps3]; refine Nav.imp ?_
      refine awp_region cx [] fun K hK => ?_
      simp [push_cast]
      repeat (refine And.intro (by clear hK; intros; first | omega | (simp_all; done) | (simp_all <;> omega)) ?_)
      refine hK _ ?_; clear hK K; refine Nav.imp ?_
      refine awp_region cx [(1, .p (.bool false)), (4, .p (.bool true))] fun K hK => ?_
      simp [push_cast, c1, c2]
      repeat (refine And.intro (by clear hK; intros; first | omega | (simp_all; done) | (simp_all <;> omega)) ?_)
      refine hK _ ?_; clear hK K; refine Nav.imp ?_
      refine awp_cond (b := true) (by simp [push_cast]) (fun hb => ?_) (fun hb => ?_) <;> (refine Nav.imp ?_)
      · refine awp_region cx [(0, .p (.bool true))] fun K hK => ?_
        simp [push_cast, c0]
        repeat (refine And.intro (by clear hK; intros; first | omega | (simp_all; done) | (simp_all <;> omega)) ?_)
        refine hK _ ?_; clear hK K; refine Nav.imp ?_
        simp [push_cast]
      · simp at hb
    | false =>
      rw [h2] at c2
      have c3 := missing_ok S M k hS hM
      have c4 := rmissing_ok S M k hS hM fun hv => by have := (heavy_facts h1).2 hv; omega
      have c5 := rsame_ok (missR S M k) (missR S M k) (small_valid (miss_valid S M k))
      have c6 := outside_ok S M hS hM
      have c7 := routside_ok S M hS hM
      have c8 := rsame_ok (opR fD M S) (opR fD M S) (small_valid (opR_valid rfl M S))
      rw [decide_eq_true rfl] at c5 c8
      generalize missR S M k = R1 at *
      generalize opR fD M S = R2 at *
      refine pc_of_awp cx (fn := Try.f3) (c := _) Try.func3 rfl rfl (Nat.le_of_ble_eq_true rfl) ?_
      rw [Try.ntmps3]; refine Nav.imp ?_
      refine awp_region cx [] fun K hK => ?_
      simp [push_cast]
      repeat (refine And.intro (by clear hK; intros; first | omega | (simp_all; done) | (simp_all <;> omega)) ?_)
      refine hK _ ?_; clear hK K; refine Nav.imp ?_
      refine awp_region cx [(1, .p (.bool false)), (4, .p (.bool false))] fun K hK => ?_
      simp [push_cast, c1, c2]
      repeat (refine And.intro (by clear hK; intros; first | omega | (simp_all; done) | (simp_all <;> omega)) ?_)
      refine hK _ ?_; clear hK K; refine Nav.imp ?_
      refine awp_cond (b := false) (by simp [push_cast]) (fun hb => ?_) (fun hb => ?_) <;> (refine Nav.imp ?_)
      · simp at hb
      · refine awp_region_draw cx mixed [(3, .p (.agg (regRow R1))), (7, .p (.agg (regRow R1))), (8, .p (.bool true)), (12, .p (.agg (regRow R2))), (15, .p (.agg (regRow R2))), (16, .p (.bool true)), (19, .p (.bool true))] fun K hK => ?_
        simp [push_cast, c0, c3, c4, c5, c6, c7, c8]
        repeat (refine And.intro (by clear hK; intros; first | omega | (simp_all; done) | (simp_all <;> omega)) ?_)
        refine hK _ _ (by kernel_rfl) ?_; clear hK K; refine Nav.imp ?_
        simp [push_cast]

set_option maxRecDepth 100000 in
theorem inspectMissing_lifted (os : Os) (started : os.Started) (H : Type) (enc : TypeId × Value → H) :
    ReturnsInHanded {} Try.checked os 3 .any (Rows.inspectMissingSpec.pre6 enc Try.prog Try.f3 Rows.inspectMissingRow.domain false) (Rows.inspectMissingSpec.post enc Try.prog Try.f3 false true false false) := by
  refine returnsInHanded_of_change (C := Try.checked) own started (by kernel_rfl) Try.func3
    (ChangeSpec.witness6 (enc := enc) (C := Try.checked) false ⟨#[], #[zeroReg, zeroReg, .int .i64 0], []⟩ 8 (by kernel_rfl) (by kernel_rfl) (by kernel_rfl) (by kernel_rfl)) ?_
  intro W base args ds gs before hval hW _ _
  exact law_contract rfl (fun ds h => by match ds, h with | [a0, a1, a2], _ => rfl) laidOut (by simp only [Try.params3]; intro t ht; simp at ht; rcases ht with rfl | rfl <;> exact ⟨by kernel_rfl, of_decide_eq_true (by kernel_rfl)⟩) (by kernel_rfl) rfl Try.underlying4
    (fun xs hx => by
      simp only [Try.params3, hasVs] at hx
      obtain ⟨x0, r0, rfl, h0, x1, r1, rfl, h1, x2, r2, rfl, h2, rfl⟩ := hx
      obtain ⟨⟨S, hS⟩, rfl⟩ := arg_regionB h0
      obtain ⟨⟨M, hM⟩, rfl⟩ := arg_regionB h1
      obtain ⟨k, rfl⟩ := arg_int h2
      exact inspectmissing_ok S M k hS hM) W base args ds gs before hval hW

theorem inspectMissing_holds : Rows.InspectMissingSaid :=
  OpenClaim.holds_of_wide 3 Try.f3 rfl rfl rfl rfl rfl rfl rfl ⟨rfl, rfl, rfl, rfl, rfl⟩ rfl rfl rfl rfl rfl (by kernel_rfl) Try.func3 (by kernel_rfl)
    (of_decide_eq_true (by kernel_rfl)) (by unfold Func.isWrapper; first | (rw [if_pos (by decide +kernel)]; kernel_rfl) | (rw [if_neg (by decide +kernel)]; exact ⟨rfl, rfl⟩))
    (fun os started H enc _ => inspectMissing_lifted os started H enc)

end Go.Proofs.Ytlfalheciadklaa
