/-
  Texts of this seat put together: T3, T4, T5, AbsS, S1, T6, U1, U2.
-/
import Derived.Test.YtagakfaiimaifaaGreatJ7
import Derived.Test.YtagakfaiimaifaaGreatJ3
import Derived.Test.YtagakfaiimaifaaGreatJ4
import Derived.Test.YtagakfaiimaifaaGreatJ5
import Derived.Shelf.SlSortCmp.NoneTotal
import Derived.Lib.QuietBelow
import Derived.Test.YtagakfaiimaifaaGreatChecked
import Derived.Deep.RegionHeld3
import Derived.Deep.DrawnRows
set_option linter.unusedVariables false
set_option linter.unusedSimpArgs false
set_option maxRecDepth 100000
namespace Go.Proofs.YtagakfaiimaifaaGreat
open Go.Abs

theorem with_ok (l : List Run) (x : Int) (hl : l.length ≤ 1000000) (hx : -4096 ≤ x ∧ x < 4096) : PC Tryz.prog 98 [encRuns l, .int .i64 x] (.p (encRuns (addRun l x))) := by
  have h16 : (l.length + 1) * 16 ≤ 140737488355328 := by omega
  have ex := wrap_i64 (n := x + 1) (by omega) (by omega)
  refine pc_of_awp cx (fn := Tryz.f98) (c := _) Tryz.func98 rfl rfl (Nat.le_of_ble_eq_true rfl) ?_
  rw [Tryz.ntmps98]; refine Nav.imp ?_
  refine awp_region cx [] fun K hK => ?_
  simp [push_cast]
  repeat (refine And.intro (by clear hK; intros; first | omega | (simp_all; done) | (simp_all <;> omega)) ?_)
  refine hK _ ?_; clear hK K; refine Nav.imp ?_
  refine awp_region cx [] fun K hK => ?_
  simp [push_cast]
  repeat (refine And.intro (by clear hK; intros; first | omega | (simp_all; done) | (simp_all <;> omega)) ?_)
  refine hK _ ?_; clear hK K; refine Nav.imp ?_
  rcases List.eq_nil_or_concat l with rfl | ⟨L, r, rfl⟩
  · rw [addRun_nil]
    refine awp_region cx [] fun K hK => ?_
    simp [push_cast]
    repeat (refine And.intro (by clear hK; intros; first | omega | (simp_all; done) | (simp_all <;> omega)) ?_)
    refine hK _ ?_; clear hK K; refine Nav.imp ?_
    refine awp_cond (b := false) (by simp [push_cast]) (fun hb => ?_) (fun hb => ?_) <;> (refine Nav.imp ?_)
    · simp at hb
    · refine awp_region cx [] fun K hK => ?_
      simp [push_cast]
      repeat (refine And.intro (by clear hK; intros; first | omega | (simp_all; done) | (simp_all <;> omega)) ?_)
      refine hK _ ?_; clear hK K; refine Nav.imp ?_
      refine awp_cond (b := false) (by simp [push_cast]) (fun hb => ?_) (fun hb => ?_) <;> (refine Nav.imp ?_)
      · simp at hb
      · refine awp_region cx [] fun K hK => ?_
        simp [push_cast, ex]
        repeat (refine And.intro (by clear hK; intros; first | omega | (simp_all; done) | (simp_all <;> omega)) ?_)
        refine hK _ ?_; clear hK K; refine Nav.imp ?_
        simp [push_cast]
  · rw [List.concat_eq_append] at *
    have hz : (L ++ [r])[L.length]? = some r := by simp
    have hlen : (L ++ [r]).length = L.length + 1 := by simp
    have hadd := addRun_end L r x
    have htk : ((L ++ [r]).map Run.row).take L.length = L.map Run.row := by simp
    obtain ⟨ra, rb⟩ := r
    simp only at hadd
    generalize hA : L ++ [⟨ra, rb⟩] = A at *
    have e1 := wrap_i64 (n := ((L.length + 1 : Nat) : Int) - 1) (by omega) (by omega)
    have e2 : (((L.length + 1 : Nat) : Int) - 1) = L.length := by omega
    rw [e2] at e1
    have e3 : (0 : Int) < (L.length : Int) + 1 := by omega
    have hle : L.length ≤ A.length := by omega
    have hL16 : L.length * 16 ≤ 140737488355328 := by omega
    have hL17 : (L.length + 1) * 16 ≤ 140737488355328 := by omega
    have hA16 : A.length * 16 ≤ 140737488355328 := by omega
    rw [hlen]
    refine awp_region cx [] fun K hK => ?_
    simp [push_cast, hz, e1, e2, e3, Run.row]
    repeat (refine And.intro (by clear hK; intros; first | omega | (simp_all; done) | (simp_all <;> omega)) ?_)
    refine hK _ ?_; clear hK K; refine Nav.imp ?_
    refine awp_cond (b := decide (x < rb)) (by simp [push_cast, e3]) (fun hb => ?_) (fun hb => ?_) <;> (refine Nav.imp ?_)
    · have hb : x < rb := by simpa using hb
      have hm : max rb (x + 1) = rb := by omega
      rw [hadd, if_neg (by omega), hm, hA]
      refine awp_region cx [] fun K hK => ?_
      simp [push_cast]
      repeat (refine And.intro (by clear hK; intros; first | omega | (simp_all; done) | (simp_all <;> omega)) ?_)
      refine hK _ ?_; clear hK K; refine Nav.imp ?_
      simp [push_cast]
    · have hb : ¬ x < rb := by simpa using hb
      refine awp_region cx [] fun K hK => ?_
      simp [push_cast, hz, e1, e2, e3, Run.row]
      repeat (refine And.intro (by clear hK; intros; first | omega | (simp_all; done) | (simp_all <;> omega)) ?_)
      refine hK _ ?_; clear hK K; refine Nav.imp ?_
      refine awp_cond (b := x == rb) (by simp [push_cast, e3]) (fun hb => ?_) (fun hb => ?_) <;> (refine Nav.imp ?_)
      · have hb2 : x = rb := by simpa using hb
        subst hb2
        have hm : max x (x + 1) = x + 1 := by omega
        rw [hadd, if_neg (by omega), hm]
        refine awp_region_draw cx mixed [] fun K hK => ?_
        simp [push_cast, hz, e1, e2, e3, Run.row, htk, ex, hle, hL16, hL17]
        repeat (refine And.intro (by clear hK; intros; first | omega | (simp_all; done) | (simp_all <;> omega)) ?_)
        refine hK _ _ (by kernel_rfl) ?_; clear hK K; refine Nav.imp ?_
        have ht : List.take (L.length + 1) (L.map Run.row ++ [[D.int IntKind.i64 ra, D.int IntKind.i64 (x + 1)]]) = L.map Run.row ++ [[D.int IntKind.i64 ra, D.int IntKind.i64 (x + 1)]] := List.take_of_length_le (by simp)
        have ht2 : List.take L.length (L.map Run.row) = L.map Run.row := List.take_of_length_le (by simp)
        simp [push_cast, ht, ht2]
      · have hb2 : ¬ x = rb := by simpa using hb
        rw [hadd, if_pos (by omega)]
        refine awp_region cx [] fun K hK => ?_
        simp [push_cast, ex, hA16, h16]
        repeat (refine And.intro (by clear hK; intros; first | omega | (simp_all; done) | (simp_all <;> omega)) ?_)
        refine hK _ ?_; clear hK K; refine Nav.imp ?_
        have ht : List.take (A.length + 1) (A.map Run.row ++ [[D.int IntKind.i64 x, D.int IntKind.i64 (x + 1)]]) = A.map Run.row ++ [[D.int IntKind.i64 x, D.int IntKind.i64 (x + 1)]] := List.take_of_length_le (by simp)
        simp [push_cast, ht, Run.row]
end Go.Proofs.YtagakfaiimaifaaGreat

set_option linter.unusedVariables false
set_option linter.unusedSimpArgs false
set_option maxRecDepth 100000
namespace Go.Proofs.YtagakfaiimaifaaGreat
open Go.Abs

/-! The reference: the region of cells. -/
/-- What Of returns: a region, and an error's number. -/
def ofR (l : List Cell) : List Row := if l.all onG then build (sortY l) else []
def ofE (l : List Cell) : Int := if l.all onG then 0 else 8
abbrev ofD (l : List Cell) : D := .tup [.agg (regRow (ofR l)), .int .i64 (ofE l)]

theorem addC_small {R : List Row} {n : Nat} (c : Cell) (h1 : R.length ≤ n) (h2 : ∀ w ∈ R, w.runs.length ≤ n) : (addC R c).length ≤ n + 1 ∧ ∀ w ∈ addC R c, w.runs.length ≤ n + 1 := by
  refine ⟨Nat.le_trans (addC_len R c) (by omega), fun w hw => ?_⟩
  rcases List.eq_nil_or_concat R with rfl | ⟨P, v, rfl⟩
  · rw [addC_nil] at hw; simp at hw; subst hw; simp
  · rw [List.concat_eq_append] at *
    rw [addC_end] at hw
    split at hw
    · rcases List.mem_append.1 hw with hw | hw
      · have := h2 w (by simp [hw]); omega
      · simp at hw
        subst hw
        have hv := h2 v (by simp)
        simp only
        rcases List.eq_nil_or_concat v.runs with e | ⟨L, r, e⟩
        · rw [e, addRun_nil]; simp
        · rw [List.concat_eq_append] at e
          rw [e] at hv ⊢
          rw [addRun_end]
          split <;> simp at hv ⊢ <;> omega
    · rcases List.mem_append.1 hw with hw | hw
      · have := h2 w hw; omega
      · simp at hw; subst hw; simp
theorem build_small (l : List Cell) : (build l).length ≤ l.length ∧ ∀ w ∈ build l, w.runs.length ≤ l.length := by
  have : ∀ k, k ≤ l.length → (build (l.take k)).length ≤ k ∧ ∀ w ∈ build (l.take k), w.runs.length ≤ k := by
    intro k
    induction k with
    | zero => intro _; simp [build]
    | succ k ih =>
      intro hk
      obtain ⟨c, hc⟩ := getq (show k < l.length by omega)
      rw [build_take hc]
      have := ih (by omega)
      exact addC_small c this.1 this.2
  have := this l.length (Nat.le_refl _)
  rwa [List.take_length] at this

set_option maxHeartbeats 4000000 in
theorem rof_ok (l : List Cell) (hl : l.length ≤ 1000000) : PC Tryz.prog 56 [encCells l] (.p (ofD l)) := by
  have hD : ofD l = .tup [.agg (regRow (ofR l)), .int .i64 (ofE l)] := rfl
  rw [hD]
  refine pc_of_awp cx (fn := Tryz.f56) (c := _) Tryz.func56 rfl rfl (Nat.le_of_ble_eq_true rfl) ?_
  rw [Tryz.ntmps56]; refine Nav.imp ?_
  refine awp_region cx [] fun K hK => ?_
  simp [push_cast]
  repeat (refine And.intro (by clear hK; intros; first | omega | (simp_all; done) | (simp_all <;> omega)) ?_)
  refine hK _ ?_; clear hK K; refine Nav.imp ?_
  refine awp_region cx [] fun K hK => ?_
  simp [push_cast]
  repeat (refine And.intro (by clear hK; intros; first | omega | (simp_all; done) | (simp_all <;> omega)) ?_)
  refine hK _ ?_; clear hK K; refine Nav.imp ?_
  refine awp_loop (β := Nat) (fun k => ⟨82, [(0, .d (encCells l)), (2, .ptr 0 0 0), (3, .d (.int .i64 0)), (4, .d (.int .i64 k))], [(0, some ⟨24, 1, [[.nl]]⟩)], 1⟩) (fun k => k ≤ l.length ∧ ∀ c ∈ l.take k, onG c = true) (fun k => l.length - k) 0 ?_ ⟨Nat.zero_le _, by simp⟩ ?_
  · refine weak_of [(0, some 0)] rfl (by simp [upT, up, upL, push_cast]) (by simp [upH, upR, upL, up, push_cast]) (by simp [namesOk, push_cast]) (by simp [olds])
  · rintro k ⟨hk, hon⟩
    refine Nav.imp ?_
    refine awp_region cx [] fun K hK => ?_
    simp [push_cast]
    repeat (refine And.intro (by clear hK; intros; first | omega | (simp_all; done) | (simp_all <;> omega)) ?_)
    refine hK _ ?_; clear hK K; refine Nav.imp ?_
    refine awp_cond (b := decide ((k : Int) < l.length)) (by simp [push_cast]) (fun hb => ?_) (fun hb => ?_) <;> (refine Nav.imp ?_)
    · have hlt : k < l.length := by simpa using hb
      obtain ⟨c, hc⟩ := getq hlt
      have e0 := wrap_i64 (n := (k : Int) + 1) (by omega) (by omega)
      have c1 := inRange_ok c
      generalize hv : onG c = v at c1
      refine awp_region cx [(4, .p (.bool v))] fun K hK => ?_
      simp [push_cast, hc, c1]
      repeat (refine And.intro (by clear hK; intros; first | omega | (simp_all; done) | (simp_all <;> omega)) ?_)
      refine hK _ ?_; clear hK K; refine Nav.imp ?_
      refine awp_cond (b := !v) (by simp [push_cast]) (fun hb => ?_) (fun hb => ?_) <;> (refine Nav.imp ?_)
      · simp at hb
        rw [hb] at hv
        have hall : l.all onG = false := by
          rw [Bool.eq_false_iff]
          intro h
          have := List.all_eq_true.1 h c (List.mem_of_getElem? hc)
          rw [hv] at this; cases this
        have h1 : ofR l = [] := by simp [ofR, hall]
        have h2 : ofE l = 8 := by simp [ofE, hall]
        rw [h1, h2]
        refine awp_region cx [] fun K hK => ?_
        simp [push_cast]
        repeat (refine And.intro (by clear hK; intros; first | omega | (simp_all; done) | (simp_all <;> omega)) ?_)
        refine hK _ ?_; clear hK K; refine Nav.imp ?_
        simp [push_cast]
      · simp at hb
        rw [hb] at hv
        refine awp_region cx [] fun K hK => ?_
        simp [push_cast, e0]
        repeat (refine And.intro (by clear hK; intros; first | omega | (simp_all; done) | (simp_all <;> omega)) ?_)
        refine hK _ ?_; clear hK K; refine Nav.imp ?_
        refine ⟨k + 1, ⟨hlt, fun d hd => ?_⟩, by omega, ?_⟩
        · rw [take_get hc] at hd
          rcases List.mem_append.1 hd with hd | hd
          · exact hon d hd
          · simp at hd; subst hd; exact hv
        · refine weak_of [(0, some 0)] rfl (by simp [upT, up, upL, push_cast]) (by simp [upH, upR, upL, up, push_cast]) (by simp [namesOk, push_cast]) (by simp [olds])
    · have hge : k = l.length := by simp at hb; omega
      subst hge
      rw [List.take_length] at hon
      have hall : l.all onG = true := List.all_eq_true.2 hon
      have h1 : ofR l = build (sortY l) := by simp [ofR, hall]
      have h2 : ofE l = 0 := by simp [ofE, hall]
      have c1 := sorted_ok l hl
      have hslen : (sortY l).length = l.length := (sortY_perm l).length_eq
      have hson : ∀ c ∈ sortY l, onG c = true := fun c hc => hon c ((sortY_perm l).mem_iff.1 hc)
      rw [h1, h2]
      clear h1 h2 hb hall
      generalize sortY l = s at *
      refine awp_region cx [(1, .p (encCells s))] fun K hK => ?_
      simp [push_cast, c1]
      repeat (refine And.intro (by clear hK; intros; first | omega | (simp_all; done) | (simp_all <;> omega)) ?_)
      refine hK _ ?_; clear hK K; refine Nav.imp ?_
      refine awp_region cx [] fun K hK => ?_
      simp [push_cast]
      repeat (refine And.intro (by clear hK; intros; first | omega | (simp_all; done) | (simp_all <;> omega)) ?_)
      refine hK _ ?_; clear hK K; refine Nav.imp ?_
      refine awp_region cx [] fun K hK => ?_
      simp [push_cast]
      repeat (refine And.intro (by clear hK; intros; first | omega | (simp_all; done) | (simp_all <;> omega)) ?_)
      refine hK _ ?_; clear hK K; refine Nav.imp ?_
      refine awp_loop (β := Nat × List Row) (fun b => ⟨82, [(0, .d (encCells s)), (2, .ptr 0 0 0), (5, .ptr 1 0 0), (6, .d (.int .i64 b.1))], [(0, some ⟨24, 1, [[.nl]]⟩), (1, some ⟨24, 1, [[.hs 2 0 b.2.length]]⟩), (2, some ⟨52, 2, dr (b.2.map Row.row)⟩)], 3⟩) (fun b => b.1 ≤ s.length ∧ b.2 = build (s.take b.1)) (fun b => s.length - b.1) (0, []) ?_ ⟨Nat.zero_le _, by simp [build]⟩ ?_
      · refine weak_of [(0, some 0), (1, some 8), (2, none)] rfl (by simp [upT, up, upL, push_cast]) (by simp [upH, upR, upL, up, push_cast]) (by simp [namesOk, push_cast]) (by simp [olds])
      · rintro ⟨k, X⟩ ⟨hk, hX⟩
        simp only at hk hX
        refine Nav.imp ?_
        refine awp_region cx [] fun K hK => ?_
        simp [push_cast]
        repeat (refine And.intro (by clear hK; intros; first | omega | (simp_all; done) | (simp_all <;> omega)) ?_)
        refine hK _ ?_; clear hK K; refine Nav.imp ?_
        refine awp_cond (b := decide ((k : Int) < s.length)) (by simp [push_cast]) (fun hb => ?_) (fun hb => ?_) <;> (refine Nav.imp ?_)
        · have hlt : k < s.length := by simpa using hb
          obtain ⟨c, hc⟩ := getq hlt
          have e0 := wrap_i64 (n := (k : Int) + 1) (by omega) (by omega)
          have hcg := onG_bd (hson c (List.mem_of_getElem? hc))
          have hnx : build (s.take (k + 1)) = addC X c := by rw [build_take hc, hX]
          have hsm := build_small (s.take k)
          rw [← hX] at hsm
          have hXl : X.length ≤ 1000000 := by have := hsm.1; simp at this; omega
          have hXr : ∀ w ∈ X, w.runs.length ≤ 1000000 := fun w hw => by have := hsm.2 w hw; simp at this; omega
          have hX32 : (X.length + 1) * 32 ≤ 140737488355328 := by omega
          clear hX hsm
          obtain ⟨x, y⟩ := c
          simp only at hcg
          refine awp_region cx [] fun K hK => ?_
          simp [push_cast]
          repeat (refine And.intro (by clear hK; intros; first | omega | (simp_all; done) | (simp_all <;> omega)) ?_)
          refine hK _ ?_; clear hK K; refine Nav.imp ?_
          rcases List.eq_nil_or_concat X with rfl | ⟨P, w, rfl⟩
          · rw [addC_nil] at hnx
            have c1 := with_ok [] x (by simp) (by omega)
            rw [addRun_nil] at c1
            simp only [encRuns, List.map_nil] at c1
            refine awp_region_draw cx mixed [] fun K hK => ?_
            simp [push_cast, hc]
            repeat (refine And.intro (by clear hK; intros; first | omega | (simp_all; done) | (simp_all <;> omega)) ?_)
            refine hK _ _ (by kernel_rfl) ?_; clear hK K; refine Nav.imp ?_
            refine awp_cond (b := true) (by simp [push_cast]) (fun hb => ?_) (fun hb => ?_) <;> (refine Nav.imp ?_)
            · refine awp_region_draw cx mixed [] fun K hK => ?_
              simp [push_cast, hc]
              repeat (refine And.intro (by clear hK; intros; first | omega | (simp_all; done) | (simp_all <;> omega)) ?_)
              refine hK _ _ (by kernel_rfl) ?_; clear hK K; refine Nav.imp ?_
              refine awp_region cx [] fun K hK => ?_
              simp [push_cast]
              repeat (refine And.intro (by clear hK; intros; first | omega | (simp_all; done) | (simp_all <;> omega)) ?_)
              refine hK _ ?_; clear hK K; refine Nav.imp ?_
              refine awp_region_draw cx mixed [(16, .p (encRuns [⟨x, x + 1⟩]))] fun K hK => ?_
              simp [push_cast, hc, c1]
              repeat (refine And.intro (by clear hK; intros; first | omega | (simp_all; done) | (simp_all <;> omega)) ?_)
              refine hK _ _ (by kernel_rfl) ?_; clear hK K; refine Nav.imp ?_
              refine awp_region cx [] fun K hK => ?_
              simp [push_cast, e0]
              repeat (refine And.intro (by clear hK; intros; first | omega | (simp_all; done) | (simp_all <;> omega)) ?_)
              refine hK _ ?_; clear hK K; refine Nav.imp ?_
              refine ⟨(k + 1, [⟨y, [⟨x, x + 1⟩]⟩]), ⟨hlt, hnx.symm⟩, by simp only; omega, ?_⟩
              refine weak_of [(0, some 0), (1, some 1), (2, some 37)] rfl (by simp [upT, up, upL, push_cast, Row.row]) (by simp [upH, upR, upL, up, push_cast, Row.row]) (by simp [namesOk, push_cast]) (by simp [olds])
            · simp at hb
          · rw [List.concat_eq_append] at *
            rw [addC_end] at hnx
            have hz : (P ++ [w])[P.length]? = some w := by simp
            have hlen : (P ++ [w]).length = P.length + 1 := by simp
            have hwr := hXr w (by simp)
            obtain ⟨wy, wr⟩ := w
            simp only at hnx hwr
            generalize hA : P ++ [⟨wy, wr⟩] = A at *
            have hA0 : ((A.length : Int) == 0) = false := by simp; rintro rfl; simp at hlen
            have e1 := wrap_i64 (n := (A.length : Int) - 1) (by omega) (by omega)
            have e2 : ((A.length : Int) - 1).toNat = P.length := by omega
            have e3 : (0 : Int) ≤ (A.length : Int) - 1 := by omega
            have e5 := wrap_i64 (n := (A.length : Int) + 1) (by omega) (by omega)
            have e6 := wrap_i64 (n := (A.length : Int)) (by omega) (by omega)
            refine awp_region_draw cx mixed [] fun K hK => ?_
            simp [push_cast, hc, hz, hA0, e1, e2, e3, Row.row]
            repeat (refine And.intro (by clear hK; intros; first | omega | (simp_all; done) | (simp_all <;> omega)) ?_)
            refine hK _ _ (by kernel_rfl) ?_; clear hK K; refine Nav.imp ?_
            refine awp_cond (b := wy != y) (by simp [push_cast, hA0]) (fun hb => ?_) (fun hb => ?_) <;> (refine Nav.imp ?_)
            · have hb : ¬ wy = y := by simpa using hb
              rw [if_neg hb] at hnx
              have c1 := with_ok [] x (by simp) (by omega)
              rw [addRun_nil] at c1
              simp only [encRuns, List.map_nil] at c1
              have hget : (dr (A.map Row.row) ++ [[AV.d (.int .i64 y), AV.nl]])[A.length]? = some [AV.d (.int .i64 y), AV.nl] := by
                rw [List.getElem?_append_right (by simp [dr])]; simp [dr]
              have hset : (dr (A.map Row.row) ++ [[AV.d (.int .i64 y), AV.nl]]).set A.length [AV.d (.int .i64 y), AV.d (encRuns [⟨x, x + 1⟩])] = dr ((A ++ [(⟨y, [⟨x, x + 1⟩]⟩ : Row)]).map Row.row) := by
                rw [List.set_append_right _ _ (by simp [dr])]; simp [dr, Row.row]
              refine awp_region_draw cx mixed [] fun K hK => ?_
              simp [push_cast, hc, hX32]
              repeat (refine And.intro (by clear hK; intros; first | omega | (simp_all; done) | (simp_all <;> omega)) ?_)
              refine hK _ _ (by kernel_rfl) ?_; clear hK K; refine Nav.imp ?_
              refine awp_region cx [] fun K hK => ?_
              simp [push_cast, e5]
              repeat (refine And.intro (by clear hK; intros; first | omega | (simp_all; done) | (simp_all <;> omega)) ?_)
              refine hK _ ?_; clear hK K; refine Nav.imp ?_
              refine awp_region_draw cx mixed [(16, .p (encRuns [⟨x, x + 1⟩]))] fun K hK => ?_
              simp [push_cast, hc, c1, e6, hget, hset]
              repeat (refine And.intro (by clear hK; intros; first | omega | (simp_all; done) | (simp_all <;> omega)) ?_)
              refine hK _ _ (by kernel_rfl) ?_; clear hK K; refine Nav.imp ?_
              refine awp_region cx [] fun K hK => ?_
              simp [push_cast, e0]
              repeat (refine And.intro (by clear hK; intros; first | omega | (simp_all; done) | (simp_all <;> omega)) ?_)
              refine hK _ ?_; clear hK K; refine Nav.imp ?_
              refine ⟨(k + 1, A ++ [⟨y, [⟨x, x + 1⟩]⟩]), ⟨hlt, hnx.symm⟩, by simp only; omega, ?_⟩
              refine weak_of [(0, some 0), (1, some 1), (2, some 37)] rfl (by simp [upT, up, upL, push_cast, Row.row]) (by simp [upH, upR, upL, up, push_cast, Row.row]) (by simp [namesOk, push_cast]) (by simp [olds])
            · have hb : wy = y := by simpa using hb
              rw [if_pos hb] at hnx
              have c1 := with_ok wr x hwr (by omega)
              have hset : (dr (A.map Row.row)).set P.length [AV.d (.int .i64 wy), AV.d (encRuns (addRun wr x))] = dr ((P ++ [(⟨wy, addRun wr x⟩ : Row)]).map Row.row) := by
                rw [← hA]; simp [dr, Row.row]
              generalize addRun wr x = nr at *
              refine awp_region_draw cx mixed [(16, .p (encRuns nr))] fun K hK => ?_
              simp [push_cast, hc, hz, c1, e1, e2, e3, hset, Row.row]
              repeat (refine And.intro (by clear hK; intros; first | omega | (simp_all; done) | (simp_all <;> omega)) ?_)
              refine hK _ _ (by kernel_rfl) ?_; clear hK K; refine Nav.imp ?_
              refine awp_region cx [] fun K hK => ?_
              simp [push_cast, e0]
              repeat (refine And.intro (by clear hK; intros; first | omega | (simp_all; done) | (simp_all <;> omega)) ?_)
              refine hK _ ?_; clear hK K; refine Nav.imp ?_
              have hlP : A.length = (P ++ [(⟨wy, nr⟩ : Row)]).length := by simp [hlen]
              rw [hlP]
              refine ⟨(k + 1, P ++ [(⟨wy, nr⟩ : Row)]), ⟨hlt, hnx.symm⟩, by simp only; omega, ?_⟩
              refine weak_of [(0, some 0), (1, some 1), (2, some 2)] rfl (by simp [upT, up, upL, push_cast, Row.row]) (by simp [upH, upR, upL, up, push_cast, Row.row]) (by simp [namesOk, push_cast]) (by simp [olds])
        · have hge : k = s.length := by simp at hb; omega
          subst hge
          rw [List.take_length] at hX
          rw [← hX]
          refine awp_freeze 2 (X.map Row.row) rfl (by simp [push_cast, Row.row]) fun K hK => ?_
          simp [push_cast, St.fz, fzT, fzH, fzO, fz, fzL, fzR, fzR_dr, fzR_app, fzR_set, fzL_map, Row.row]
          refine hK _ ?_; clear hK K; refine Nav.imp ?_
          refine awp_region cx [] fun K hK => ?_
          simp [push_cast]
          repeat (refine And.intro (by clear hK; intros; first | omega | (simp_all; done) | (simp_all <;> omega)) ?_)
          refine hK _ ?_; clear hK K; refine Nav.imp ?_
          simp [push_cast]
end Go.Proofs.YtagakfaiimaifaaGreat

set_option linter.unusedVariables false
set_option linter.unusedSimpArgs false
set_option maxRecDepth 100000
namespace Go.Proofs.YtagakfaiimaifaaGreat
open Go.Abs

set_option maxHeartbeats 1000000 in
theorem rsame_ok (a b : List Row) (ha : smallR a) : PC Tryz.prog 12 [.agg (regRow a), .agg (regRow b)] (.p (.bool (decide (a = b)))) := by
  have hal := ha.1
  refine pc_of_awp cx (fn := Tryz.f12) (c := _) Tryz.func12 rfl rfl (Nat.le_of_ble_eq_true rfl) ?_
  rw [Tryz.ntmps12]; refine Nav.imp ?_
  refine awp_region cx [] fun K hK => ?_
  simp [push_cast]
  repeat (refine And.intro (by clear hK; intros; first | omega | (simp_all; done) | (simp_all <;> omega)) ?_)
  refine hK _ ?_; clear hK K; refine Nav.imp ?_
  refine awp_region cx [] fun K hK => ?_
  simp [push_cast]
  repeat (refine And.intro (by clear hK; intros; first | omega | (simp_all; done) | (simp_all <;> omega)) ?_)
  refine hK _ ?_; clear hK K; refine Nav.imp ?_
  refine awp_cond (by simp [push_cast] <;> exact rfl) (fun hb => ?_) (fun hb => ?_) <;> (refine Nav.imp ?_)
  · simp at hb
    have hne : a ≠ b := by intro e; subst e; simp at hb
    refine awp_region cx [] fun K hK => ?_
    simp [push_cast]
    repeat (refine And.intro (by clear hK; intros; first | omega | (simp_all; done) | (simp_all <;> omega)) ?_)
    refine hK _ ?_; clear hK K; refine Nav.imp ?_
    simp [push_cast, hne]
  · have hlen : a.length = b.length := by simp at hb; omega
    clear hb
    refine awp_region cx [] fun K hK => ?_
    simp [push_cast]
    repeat (refine And.intro (by clear hK; intros; first | omega | (simp_all; done) | (simp_all <;> omega)) ?_)
    refine hK _ ?_; clear hK K; refine Nav.imp ?_
    refine awp_loop (β := Nat) (fun k => ⟨65, [(2, .ptr 0 0 0), (3, .ptr 1 0 0), (5, .d (.int .i64 k))], [(0, some ⟨24, 1, [(regRow a).map .d]⟩), (1, some ⟨24, 1, [(regRow b).map .d]⟩)], 2⟩) (fun k => k ≤ a.length ∧ a.take k = b.take k) (fun k => a.length - k) 0 ?_ ⟨Nat.zero_le _, by simp⟩ ?_
    · refine weak_of [(0, some 0), (1, some 1)] rfl (by simp [upT, up, upL, push_cast]) (by simp [upH, upR, upL, up, push_cast]) (by simp [namesOk, push_cast]) (by simp [olds])
    · rintro k ⟨hk, hpre⟩
      refine Nav.imp ?_
      refine awp_region cx [] fun K hK => ?_
      simp [push_cast]
      repeat (refine And.intro (by clear hK; intros; first | omega | (simp_all; done) | (simp_all <;> omega)) ?_)
      refine hK _ ?_; clear hK K; refine Nav.imp ?_
      refine awp_cond (b := decide ((k : Int) < a.length)) (by simp [push_cast]) (fun hb => ?_) (fun hb => ?_) <;> (refine Nav.imp ?_)
      · have hlt : k < a.length := by simpa using hb
        obtain ⟨x, hx⟩ := getq hlt
        obtain ⟨y, hy⟩ : ∃ y, b[k]? = some y := getq (by omega)
        have e0 := wrap_i64 (n := (k : Int) + 1) (by omega) (by omega)
        have hxl := ha.2 x (List.mem_of_getElem? hx)
        have hno : x ≠ y → a ≠ b := fun h e => by
          subst e
          rw [hx] at hy
          exact h (Option.some.inj hy)
        obtain ⟨xy, xr⟩ := x
        obtain ⟨yy, yr⟩ := y
        simp only at hxl
        refine awp_region_draw cx mixed [] fun K hK => ?_
        simp [push_cast, hx, hy, Row.row]
        repeat (refine And.intro (by clear hK; intros; first | omega | (simp_all; done) | (simp_all <;> omega)) ?_)
        refine hK _ _ (by kernel_rfl) ?_; clear hK K; refine Nav.imp ?_
        refine awp_region cx [] fun K hK => ?_
        simp [push_cast, Row.row]
        repeat (refine And.intro (by clear hK; intros; first | omega | (simp_all; done) | (simp_all <;> omega)) ?_)
        refine hK _ ?_; clear hK K; refine Nav.imp ?_
        refine awp_cond (by simp [push_cast] <;> exact rfl) (fun hb => ?_) (fun hb => ?_) <;> (refine Nav.imp ?_)
        · have hn : a ≠ b := hno (by rintro ⟨⟩; simp at hb)
          refine awp_region cx [] fun K hK => ?_
          simp [push_cast]
          repeat (refine And.intro (by clear hK; intros; first | omega | (simp_all; done) | (simp_all <;> omega)) ?_)
          refine hK _ ?_; clear hK K; refine Nav.imp ?_
          simp [push_cast, hn]
        · simp at hb
          obtain ⟨hy0, hl0⟩ := hb
          have hl0 : xr.length = yr.length := by omega
          subst hy0
          refine awp_region cx [] fun K hK => ?_
          simp [push_cast]
          repeat (refine And.intro (by clear hK; intros; first | omega | (simp_all; done) | (simp_all <;> omega)) ?_)
          refine hK _ ?_; clear hK K; refine Nav.imp ?_
          refine awp_loop (β := Nat) (fun j => ⟨65, [(2, .ptr 0 0 0), (3, .ptr 1 0 0), (5, .d (.int .i64 k)), (6, .ptr 2 0 0), (7, .ptr 3 0 0), (8, .d (.int .i64 j))], [(0, some ⟨24, 1, [(regRow a).map .d]⟩), (1, some ⟨24, 1, [(regRow b).map .d]⟩), (2, some ⟨52, 2, [(Row.row ⟨xy, xr⟩).map .d]⟩), (3, some ⟨52, 2, [(Row.row ⟨xy, yr⟩).map .d]⟩)], 4⟩) (fun j => j ≤ xr.length ∧ xr.take j = yr.take j) (fun j => xr.length - j) 0 ?_ ⟨Nat.zero_le _, by simp⟩ ?_
          · refine weak_of [(0, some 0), (1, some 1), (2, some 17), (3, some 18)] rfl (by simp [upT, up, upL, push_cast, Row.row]) (by simp [upH, upR, upL, up, push_cast, Row.row]) (by simp [namesOk, push_cast]) (by simp [olds])
          · rintro j ⟨hj, hpr⟩
            refine Nav.imp ?_
            refine awp_region cx [] fun K hK => ?_
            simp [push_cast, Row.row]
            repeat (refine And.intro (by clear hK; intros; first | omega | (simp_all; done) | (simp_all <;> omega)) ?_)
            refine hK _ ?_; clear hK K; refine Nav.imp ?_
            refine awp_cond (b := decide ((j : Int) < xr.length)) (by simp [push_cast]) (fun hb => ?_) (fun hb => ?_) <;> (refine Nav.imp ?_)
            · have hjl : j < xr.length := by simpa using hb
              obtain ⟨p, hp⟩ := getq hjl
              obtain ⟨q, hq⟩ : ∃ y, yr[j]? = some y := getq (by omega)
              have e1 := wrap_i64 (n := (j : Int) + 1) (by omega) (by omega)
              have hn2 : p ≠ q → a ≠ b := fun h => hno fun e => by
                injection e with _ e2
                subst e2
                rw [hp] at hq
                exact h (Option.some.inj hq)
              obtain ⟨pa, pb⟩ := p
              obtain ⟨qa, qb⟩ := q
              refine awp_region_draw cx mixed [] fun K hK => ?_
              simp [push_cast, hp, hq, Row.row, Run.row]
              repeat (refine And.intro (by clear hK; intros; first | omega | (simp_all; done) | (simp_all <;> omega)) ?_)
              refine hK _ _ (by kernel_rfl) ?_; clear hK K; refine Nav.imp ?_
              refine awp_cond (by simp [push_cast] <;> exact rfl) (fun hb => ?_) (fun hb => ?_) <;> (refine Nav.imp ?_)
              · have hn : a ≠ b := hn2 (by rintro ⟨⟩; simp at hb)
                refine awp_region cx [] fun K hK => ?_
                simp [push_cast]
                repeat (refine And.intro (by clear hK; intros; first | omega | (simp_all; done) | (simp_all <;> omega)) ?_)
                refine hK _ ?_; clear hK K; refine Nav.imp ?_
                simp [push_cast, hn]
              · simp at hb
                obtain ⟨h1, h2⟩ := hb
                subst h1 h2
                refine awp_region cx [] fun K hK => ?_
                simp [push_cast, e1]
                repeat (refine And.intro (by clear hK; intros; first | omega | (simp_all; done) | (simp_all <;> omega)) ?_)
                refine hK _ ?_; clear hK K; refine Nav.imp ?_
                refine ⟨j + 1, ⟨hjl, take_eq_step hpr hp hq rfl⟩, by omega, ?_⟩
                refine weak_of [(0, some 0), (1, some 1), (2, some 2), (3, some 3)] rfl (by simp [upT, up, upL, push_cast, Row.row]) (by simp [upH, upR, upL, up, push_cast, Row.row]) (by simp [namesOk, push_cast]) (by simp [olds])
            · have hjn : j = xr.length := by simp at hb; omega
              subst hjn
              rw [List.take_length, hl0, List.take_length] at hpr
              subst hpr
              refine awp_region cx [] fun K hK => ?_
              simp [push_cast, e0]
              repeat (refine And.intro (by clear hK; intros; first | omega | (simp_all; done) | (simp_all <;> omega)) ?_)
              refine hK _ ?_; clear hK K; refine Nav.imp ?_
              refine ⟨k + 1, ⟨hlt, take_eq_step hpre hx hy rfl⟩, by omega, ?_⟩
              refine weak_of [(0, some 0), (1, some 1)] rfl (by simp [upT, up, upL, push_cast]) (by simp [upH, upR, upL, up, push_cast]) (by simp [namesOk, push_cast]) (by simp [olds])
      · have hge : k = a.length := by simp at hb; omega
        subst hge
        rw [List.take_length, hlen, List.take_length] at hpre
        refine awp_region cx [] fun K hK => ?_
        simp [push_cast]
        repeat (refine And.intro (by clear hK; intros; first | omega | (simp_all; done) | (simp_all <;> omega)) ?_)
        refine hK _ ?_; clear hK K; refine Nav.imp ?_
        simp [push_cast, hpre]
end Go.Proofs.YtagakfaiimaifaaGreat

set_option linter.unusedVariables false
set_option linter.unusedSimpArgs false
namespace Go.Abs
open Go.Shelf Go.RowKit Go.Lib Go.Sort Go.Proofs

/-- Two sorted lists of the same elements are one. -/
theorem sorted_uniq {α : Type} (le : α → α → Prop) : ∀ (l l' : List α), l.Perm l' → l.Pairwise le → l'.Pairwise le → (∀ a ∈ l, ∀ b ∈ l, le a b → le b a → a = b) → l = l'
  | [], l', h, _, _, _ => by have := h.length_eq; simp at this; exact (List.length_eq_zero_iff.1 this.symm).symm
  | a :: l, [], h, _, _, _ => by have := h.length_eq; simp at this
  | a :: l, b :: l', h, h1, h2, h3 => by
    have hab : a = b := by
      have ha : a ∈ b :: l' := h.subset (by simp)
      have hb : b ∈ a :: l := h.symm.subset (by simp)
      rcases List.mem_cons.1 ha with e | ha
      · exact e
      · rcases List.mem_cons.1 hb with e | hb
        · exact e.symm
        · exact h3 a (by simp) b (by simp [hb]) ((List.pairwise_cons.1 h1).1 b hb) ((List.pairwise_cons.1 h2).1 a ha)
    subst hab
    rw [sorted_uniq le l l' h.cons_inv (List.pairwise_cons.1 h1).2 (List.pairwise_cons.1 h2).2 (fun x hx y hy => h3 x (by simp [hx]) y (by simp [hy]))]

/-- What a comparison does: it hands back a number, and lays at most new memory. -/
def CmpOk (P : Program) (cg : FuncId) (V : List D → Prop) (cf : List D → List D → Int) : Prop :=
  ∀ (ro : Nat → Prop) (w : World) (a b : List D) (va vb : List Value), (∀ blk, ro blk → blk < w.heap.size) → V a → V b → RepDs ro w a va → RepDs ro w b vb → OneCells va → OneCells vb →
    Calls P cg #[.agg va.toArray, .agg vb.toArray] w fun e w' => e = .returned (.int .i64 (cf a b)) ∧ ∃ q os, w' = grow (w.drewN q) os

structure CmpOrd (V : List D → Prop) (cf : List D → List D → Int) : Prop where
  irrefl : ∀ a, V a → ¬ cf a a < 0
  trans : ∀ a b c, V a → V b → V c → cf a b < 0 → cf b c < 0 → cf a c < 0
  ntrans : ∀ a b c, V a → V b → V c → ¬ cf a b < 0 → ¬ cf b c < 0 → ¬ cf a c < 0

section
variable (ro : Nat → Prop) (w : World) (V : List D → Prop) (k : Nat)
/-- An element: what it reads as, and its cells. -/
def Elt : Type := { x : List D × List Value // V x.1 ∧ x.2.length = k ∧ OneCells x.2 ∧ RepDs ro w x.1 x.2 }
def Elt.enc (x : Elt ro w V k) : List Value := x.1.2
end

theorem heap_sort {α : Type} [Inhabited α] (enc : α → List Value) (k : Nat) (w : World) (blk m : Nat) (d : Array α) (os : Array Obj) {b : Nat} (hb : b < w.heap.size) (hne : b ≠ blk) : (sortWorldK enc k w blk 0 m d os).heap[b]? = w.heap[b]? := by
  unfold sortWorldK
  rw [heap_grow_old _ _ (by simpa [putRowK] using hb)]
  simp only [putRowK, putRow, mapBlock, heap_ahead]
  rw [Array.getElem?_modify, if_neg (fun h => hne h.symm)]

theorem heap_sort_blk {α : Type} [Inhabited α] (enc : α → List Value) (k : Nat) (w : World) (blk m : Nat) (d : Array α) (os : Array Obj) {cur : Array Value} {e : TypeId} {fr : Nat × Nat} (h : w.heap[blk]? = some (.cells cur e fr)) : (sortWorldK enc k w blk 0 m d os).heap[blk]? = some (.cells (Go.Sort.putCells id 0 (flatK enc k d) cur) e fr) := by
  have hb : blk < w.heap.size := (Array.getElem?_eq_some_iff.1 h).1
  unfold sortWorldK
  rw [heap_grow_old _ _ (by simpa [putRowK] using hb)]
  simp only [putRowK, putRow, mapBlock, heap_ahead]
  rw [Array.getElem?_modify, if_pos rfl, h]
  rfl

theorem size_sort {α : Type} [Inhabited α] (enc : α → List Value) (k : Nat) (w : World) (blk m : Nat) (d : Array α) (os : Array Obj) : w.heap.size ≤ (sortWorldK enc k w blk 0 m d os).heap.size := by
  unfold sortWorldK
  rw [size_grow]
  simp [putRowK]

theorem drawn_sort {α : Type} [Inhabited α] (enc : α → List Value) (k : Nat) (w : World) (blk m : Nat) (d : Array α) (os : Array Obj) : w.drawn ≤ (sortWorldK enc k w blk 0 m d os).drawn := by
  simp [sortWorldK, putRowK, grow, putRow, mapBlock, ahead]

/-- A contract over plain data is one of a comparison. -/
theorem cmp_of_pc {P : Program} {cg : FuncId} {V : List D → Prop} {cf : List D → List D → Int} (h : ∀ a b, V a → V b → PC P cg [.agg a, .agg b] (.p (.int .i64 (cf a b)))) : CmpOk P cg V cf := by
  intro ro w a b va vb hro ha hb ra rb oa ob
  refine ((h a b ha hb).2 ro w [.agg va.toArray, .agg vb.toArray] hro ?_).mono ?_
  · simp only [RepDs, RepD]
    exact ⟨_, _, rfl, ⟨va, rfl, oa, ra⟩, _, _, rfl, ⟨vb, rfl, ob, rb⟩, rfl⟩
  · rintro e w' ⟨v, he, hB, hr⟩
    simp only [RepRes, RepD] at hr
    refine ⟨by rw [he, hr], ?_⟩
    obtain ⟨p, hp⟩ := regrown_of_below hB.kit
    have hd : w'.drawn = w.drawn + (w'.drawn - w.drawn) := by have := hB.tape.2; omega
    refine ⟨w'.drawn - w.drawn, p.os, ?_⟩
    have hpd : p.d = w'.drawn := by rw [hp]; rfl
    rw [hp]
    simp only [grow, redrawn, World.drewN]
    rw [hp] at hd
    simp only [grow, redrawn] at hd
    congr 1

theorem cmp_lays {P : Program} {cg : FuncId} {V : List D → Prop} {cf : List D → List D → Int} (hc : CmpOk P cg V cf) {ro : Nat → Prop} {w : World} {k blk size : Nat} (hro : ∀ b, ro b → b < w.heap.size ∧ b ≠ blk) [Inhabited (Elt ro w V k)] :
    CmpLays P cg #[] (Elt.enc ro w V k) k (fun x y => cf x.1.1 y.1.1) blk 0 size w := by
  intro m os dk _ x y
  have hf : Fut ro w ro (sortWorldK (Elt.enc ro w V k) k w blk 0 m dk os) := fun b hb => ⟨hb, heap_sort _ _ _ _ _ _ _ (hro b hb).1 (hro b hb).2⟩
  obtain ⟨hx1, _, ox, hx2⟩ := x.2
  obtain ⟨hy1, _, oy, hy2⟩ := y.2
  have := hc ro (sortWorldK (Elt.enc ro w V k) k w blk 0 m dk os) x.1.1 y.1.1 x.1.2 y.1.2 (fun b hb => Nat.lt_of_lt_of_le (hro b hb).1 (size_sort _ _ _ _ _ _ _)) hx1 hy1 (RepDs.mono hf _ _ hx2) (RepDs.mono hf _ _ hy2) ox oy
  simpa [Elt.enc] using this

/-- THE CONTRACT of slices.SortFunc at structs of k cells: the rows in their order (which is one alone). -/
theorem sortFunc_px {P : Program} {ρ : Ren} (L : SlLaysF0.n6 P ρ) {k : Nat} (hk0 : 0 < k) (aE : ∀ w, (isAgg (ρ.t 24)).run P w = .ok true w) (zE : ∀ w, (Go.sizeOf (ρ.t 24)).run P w = .ok k w) (hent : Enters P (ρ.f 6)) {cg : FuncId}
    (eg : ∀ args w, (callFunc cg args).run P w = .ok (.enter cg args) w) {V : List D → Prop} {cf : List D → List D → Int} (hc : CmpOk P cg V cf) (hO : CmpOrd V cf) (e : TypeId) {rows rows' : List (List D)} (hV : ∀ r ∈ rows, V r)
    (hanti : ∀ a ∈ rows, ∀ b ∈ rows, ¬ cf b a < 0 → ¬ cf a b < 0 → a = b) (hp : rows'.Perm rows) (hs : rows'.Pairwise fun a b => ¬ cf b a < 0) (hn : 0 < rows.length) (hsz : rows.length < 4611686018427387904) (fv : AV)
    (hfv : ∀ g w v, RepA g w fv v → v = .func (.func cg) #[] #[]) :
    PX P (ρ.f 6) [.hs 0 0 rows.length, fv] [(0, ⟨e, k, dr rows⟩)] [(0, 0)] [(0, ⟨e, k, dr rows'⟩)] (.tup []) := by
  refine ⟨hent, fun g w vs h hu hvs => ?_⟩
  simp only [RepAs] at hvs
  obtain ⟨v0, _, rfl, h0, v1, _, rfl, h1, rfl⟩ := hvs
  have e1 := hfv g w v1 h1
  obtain ⟨L0, hL, hok⟩ := h.own 0 ⟨e, k, dr rows⟩ (by simp [objL, find])
  have hkm : L0.m = k := hok.m
  have hlenr : (dr rows).length = rows.length := by simp [dr]
  have hvirt : L0.virt = false := by
    cases hv : L0.virt with
    | false => rfl
    | true =>
      have h2 : (dr rows).length = 0 := by rw [show dr rows = [] from hok.virt hv]; rfl
      omega
  simp only [RepA] at h0
  have hflat : L0.virt = false ∧ L0.map = false := by
    rcases h0.2 L0 hL with ⟨hv, _⟩ | ⟨hv, _⟩
    · rw [hvirt] at hv; cases hv
    · exact hv
  have hvm := hflat.2
  obtain ⟨cur, hblk, hcs, hcap, hrows⟩ := hok.cells hflat
  have e0 : v0 = .slice (some ⟨L0.blk, 0, none⟩) rows.length L0.cap := by
    rcases h0.2 L0 hL with ⟨hv, _⟩ | ⟨_, _, hv⟩
    · rw [hvirt] at hv; cases hv
    · rw [hv]; simp
  have hcapl : rows.length ≤ L0.cap := by have := hok.len hvm; rw [hlenr] at this; exact this
  have hblt : L0.blk < w.heap.size := (Array.getElem?_eq_some_iff.1 hblk).1
  have hnro : ¬ g.ro L0.blk := ((h.live 0 L0 hL).2 hvirt).2
  have hro : ∀ b, g.ro b → b < w.heap.size ∧ b ≠ L0.blk := fun b hb => ⟨h.ro b hb, fun e => hnro (e ▸ hb)⟩
  have hcsz : rows.length * k ≤ cur.size := by rw [hcs, hkm]; exact Nat.mul_le_mul_right k hcapl
  have hin : ∀ i, i < rows.length → i * k + k ≤ cur.size := fun i hi => by
    have := Nat.mul_le_mul_right k (show i + 1 ≤ rows.length from hi)
    rw [Nat.add_mul, Nat.one_mul] at this; omega
  -- the cells of element i
  have hel : ∀ i (hi : i < rows.length), V rows[i] ∧ (cur.toList.drop (i * k) |>.take k).length = k ∧ OneCells (cur.toList.drop (i * k) |>.take k) ∧ RepDs g.ro w rows[i] (cur.toList.drop (i * k) |>.take k) := by
    intro i hi
    have hrow := hrows i (rows[i].map AV.d) (by simp [dr, hi])
    have hl : (cur.toList.drop (i * k) |>.take k).length = k := by
      have := hin i hi
      simp only [List.length_take, List.length_drop, Array.length_toList]; omega
    have hget : ∀ j, j < k → (cur.toList.drop (i * k) |>.take k)[j]? = cur[i * k + j]? := fun j hj => by
      rw [List.getElem?_take, if_pos hj, List.getElem?_drop, Array.getElem?_toList]
    have hrl : rows[i].length = k := by have := hrow.1; rw [hkm] at this; simpa using this
    refine ⟨hV _ (List.getElem_mem hi), hl, ?_, ?_⟩
    · intro v hv
      obtain ⟨j, hj⟩ := List.mem_iff_getElem?.1 hv
      have hjk : j < k := by have := (List.getElem?_eq_some_iff.1 hj).1; omega
      rw [hget j hjk] at hj
      obtain ⟨u, hu1, hu2, _⟩ := hrow.2 j (.d (rows[i][j]'(by omega))) (by simp [show j < rows[i].length by omega])
      rw [hkm, hj] at hu1
      cases hu1
      exact hu2
    · refine RepDs.of_get (by rw [hl, hrl]) fun j x hj => ?_
      have hjk : j < k := by have := (List.getElem?_eq_some_iff.1 hj).1; omega
      obtain ⟨u, hu1, _, hu3⟩ := hrow.2 j (.d x) (by simp [hj])
      rw [hkm] at hu1
      exact ⟨u, by rw [hget j hjk, hu1], by simpa only [RepA] using hu3⟩
  let mk : _root_.Fin rows.length → Elt g.ro w V k := fun i => ⟨(rows[i.1], (cur.toList.drop (i.1 * k)).take k), hel i.1 i.2⟩
  let d : Array (Elt g.ro w V k) := Array.ofFn mk
  haveI : Inhabited (Elt g.ro w V k) := ⟨mk ⟨0, hn⟩⟩
  have hds : d.size = rows.length := by simp [d]
  have hdi : ∀ i (hi : i < rows.length), d[i]! = mk ⟨i, hi⟩ := fun i hi => by
    rw [getElem!_pos d i (by rw [hds]; exact hi)]; simp [d]
  have hdl : d.toList.map (fun x => x.1.1) = rows := by
    apply List.ext_getElem
    · simp [d]
    · intro i h1 h2
      have hi : i < d.size := by simpa using h1
      rw [List.getElem_map, Array.getElem_toList]
      have e := hdi i h2
      rw [getElem!_pos d i hi] at e
      rw [e]
  have hH : HoldsK (Elt.enc g.ro w V k) k w L0.blk 0 d := by
    intro j hj
    have hjs : j < rows.length * k := by simpa [hds] using hj
    have hdk : j / k < rows.length := Nat.div_lt_of_lt_mul (by rwa [Nat.mul_comm] at hjs)
    have hmod : j % k < k := Nat.mod_lt j hk0
    have hdm : j / k * k + j % k = j := by rw [Nat.mul_comm]; exact Nat.div_add_mod j k
    rw [get_flatK _ _ _ _ (by rw [hds]; exact hjs), hdi _ hdk]
    have hlt : j < cur.size := by omega
    refine ⟨?_, ?_⟩
    · simp only [World.cell?, hblk, Nat.zero_add]
      simp only [Option.isSome_none, Bool.false_eq_true, if_false, id_eq]
      have hl2 := (hel _ hdk).2.1
      rw [getElem!_pos _ _ (by rw [show (Elt.enc g.ro w V k (mk ⟨j / k, hdk⟩)) = (cur.toList.drop (j / k * k)).take k from rfl, hl2]; exact hmod)]
      simp only [Elt.enc, mk, List.getElem_take, List.getElem_drop, Array.getElem_toList, hdm]
      exact Array.getElem?_eq_getElem hlt
    · simp only [World.frozen?, hblk]
      simp
  have hswo : SWO (ltOf fun x y : Elt g.ro w V k => cf x.1.1 y.1.1) := by
    refine ⟨fun x => ?_, fun x y z h1 h2 => ?_, fun x y z h1 h2 => ?_⟩
    · simpa [ltOf] using hO.irrefl x.1.1 x.2.1
    · simp only [ltOf, decide_eq_true_eq] at h1 h2 ⊢
      exact hO.trans _ _ _ x.2.1 y.2.1 z.2.1 h1 h2
    · simp only [ltOf, decide_eq_false_iff_not] at h1 h2 ⊢
      exact hO.ntrans _ _ _ x.2.1 y.2.1 z.2.1 h1 h2
  have hmain := AnyQ.slices_SortFunc L k aE zE (Elt.enc g.ro w V k) (fun x => x.2.2.1) (fun x v hv => x.2.2.2.1 v hv) (fun x y => cf x.1.1 y.1.1) hswo cg #[] L0.blk 0 L0.cap d w eg (cmp_lays hc hro) hH hblt (by rw [hds]; exact hsz)
  rw [hds] at hmain
  rw [e0, e1]
  refine hmain.mono ?_
  rintro ex w' ⟨rfl, d', n, os, hperm, hsort, rfl⟩
  obtain ⟨hps, _, hpp⟩ := hperm
  have hex : ∀ a : Array (Elt g.ro w V k), a.size = rows.length → (a.extract 0 rows.length) = a := fun a ha => by rw [← ha]; simp
  rw [hex d' (by rw [hps, hds]), hex d hds] at hpp
  have hrows' : d'.toList.map (fun x => x.1.1) = rows' := by
    refine sorted_uniq (fun a b => ¬ cf b a < 0) _ _ ((hpp.map _).trans (by rw [hdl]; exact hp.symm)) ?_ hs ?_
    · rw [List.pairwise_map, List.pairwise_iff_getElem]
      intro i j hi hj hij
      have hj' : j < d'.size := by simpa using hj
      have := hsort i j (Nat.zero_le _) hij (by rw [hps, hds] at hj'; exact hj')
      rw [getElem!_pos d' i (by omega), getElem!_pos d' j hj'] at this
      simpa [ltOf] using this
    · intro a ha b hb hab hba
      have hsub : ∀ x, x ∈ d'.toList.map (fun x => x.1.1) → x ∈ rows := fun x hx => by
        have := (hpp.map (fun x : Elt g.ro w V k => x.1.1)).subset hx
        rwa [hdl] at this
      exact hanti a (hsub a ha) b (hsub b hb) hab hba
  have hd's : d'.size = rows.length := by rw [hps, hds]
  have hbs : (sortWorldK (Elt.enc g.ro w V k) k w L0.blk 0 n d' os).heap[L0.blk]? = some (.cells (Go.Sort.putCells id 0 (flatK (Elt.enc g.ro w V k) k d') cur) e (0, 0)) := heap_sort_blk _ _ _ _ _ _ _ hblk
  obtain ⟨g', h1, h2, h3, h4, h5, h6⟩ := HRel.write h hL hflat (id' := 0) (.inl rfl) ⟨e, k, dr rows'⟩ (Go.Sort.putCells id 0 (flatK (Elt.enc g.ro w V k) k d') cur) (w' := sortWorldK (Elt.enc g.ro w V k) k w L0.blk 0 n d' os) (cap := L0.cap) (B := L0.blk) rfl ⟨rfl, drawn_sort _ _ _ _ _ _ _⟩ rfl (size_sort _ _ _ _ _ _ _)
    (fun b hb hne => heap_sort _ _ _ _ _ _ _ hb hne) (.inl rfl) hbs hkm.symm hok.pos (by simp only [Go.Sort.putCells, Array.size_mapIdx]; exact hcs) (by have := hp.length_eq; simp [dr]; omega) hcap (fun _ => ⟨rfl, rfl⟩) (by
      intro i row hi
      have hil : i < rows'.length := by have := (List.getElem?_eq_some_iff.1 hi).1; simpa [dr] using this
      have hil2 : i < rows.length := by have := hp.length_eq; omega
      have hid : i < d'.size := by omega
      have hri : rows'[i] = (d'[i]'hid).1.1 := by
        have : (d'.toList.map (fun x => x.1.1))[i]'(by simpa using hid) = rows'[i] := by simp only [hrows']
        rw [← this]; simp
      have hrow : row = rows'[i].map AV.d := by
        have : (dr rows')[i]? = some (rows'[i].map AV.d) := by simp [dr, hil]
        rw [this] at hi; exact (Option.some.inj hi).symm
      obtain ⟨x1, x2, x3, x4⟩ := (d'[i]'hid).2
      subst hrow
      rw [hri, hkm]
      have hxl : (d'[i]'hid).1.1.length = k := by have := x4.length; omega
      refine ⟨by simp [hxl], fun j av hj => ?_⟩
      have hjk : j < k := by have := (List.getElem?_eq_some_iff.1 hj).1; simp at this; omega
      have hav : av = .d ((d'[i]'hid).1.1[j]'(by omega)) := by
        rw [List.getElem?_map, List.getElem?_eq_getElem (by omega)] at hj
        exact (Option.some.inj hj).symm
      obtain ⟨v, hv1, hv2⟩ := x4.get j _ (List.getElem?_eq_getElem (by omega))
      have hdiv : (i * k + j) / k = i := (blk_iff k i _ hk0).1 ⟨by omega, by omega⟩
      have hmod : (i * k + j) % k = j := by rw [Nat.mod_eq_sub_div_mul, hdiv]; omega
      have hlt : i * k + j < rows.length * k := by have := Nat.mul_le_mul_right k (show i + 1 ≤ rows.length from hil2); rw [Nat.add_mul, Nat.one_mul] at this; omega
      refine ⟨v, ?_, x3 v (List.mem_of_getElem? hv1), ?_⟩
      · have hlc : i * k + j < cur.size := by omega
        have hc1 : (Go.Sort.putCells id 0 (flatK (Elt.enc g.ro w V k) k d') cur)[i * k + j]? = some ((flatK (Elt.enc g.ro w V k) k d')[i * k + j]!) := by
          simp only [Go.Sort.putCells, Array.getElem?_mapIdx, Array.getElem?_eq_getElem hlc, Option.map_some]
          rw [if_pos ⟨Nat.zero_le _, by rw [size_flatK, hd's]; omega⟩]
          simp
        rw [hc1, get_flatK _ _ _ _ (by rw [hd's]; exact hlt), hdiv, hmod, getElem!_pos d' i hid]
        simp only [Elt.enc]
        obtain ⟨hjl, hjv⟩ := List.getElem?_eq_some_iff.1 hv1
        rw [getElem!_pos _ j hjl, hjv]
      · rw [hav]
        simpa only [RepA] using hv2)
  refine ⟨_, g', rfl, ?_, ?_, h5, ?_⟩
  · have : (upd1 (upd1 (objL [(0, ⟨e, k, dr rows⟩)]) 0 none) 0 (some ⟨e, k, dr rows'⟩)) = objL [(0, ⟨e, k, dr rows'⟩)] := by
      funext x
      simp only [upd1, objL, find]
      by_cases hx : x = 0
      · subst hx; simp
      · have hx' : ¬ (0 = x) := fun h => hx h.symm
        simp [hx, hx']
    rw [← this]; exact h4
  · simp only [RepA, RepAs]
    exact ⟨[], rfl, rfl⟩
  · intro i j hij
    simp only [List.mem_cons, List.not_mem_nil, or_false, Prod.mk.injEq] at hij
    obtain ⟨rfl, rfl⟩ := hij
    rw [h1, hL]
    cases L0; simp_all

/-- .. at no element. -/
theorem sortFunc_px0 {P : Program} {ρ : Ren} (L : SlLaysF0.n6 P ρ) {k : Nat} (hk0 : 0 < k) (hent : Enters P (ρ.f 6)) (e : TypeId) (fv : AV) :
    PX P (ρ.f 6) [.hs 0 0 0, fv] [(0, ⟨e, k, []⟩)] [(0, 0)] [(0, ⟨e, k, []⟩)] (.tup []) := by
  refine ⟨hent, fun g w vs h hu hvs => ?_⟩
  simp only [RepAs] at hvs
  obtain ⟨v0, _, rfl, h0, v1, _, rfl, h1, rfl⟩ := hvs
  obtain ⟨L0, hL, hok⟩ := h.own 0 ⟨e, k, []⟩ (by simp [objL, find])
  simp only [RepA] at h0
  have e0 : ∃ p c, v0 = .slice p 0 c := by
    rcases h0.2 L0 hL with ⟨_, _, _, a0, hv⟩ | ⟨_, _, hv⟩
    · exact ⟨a0, _, hv⟩
    · exact ⟨_, _, hv⟩
  obtain ⟨p, c, rfl⟩ := e0
  refine (AnyF.slices_SortFunc_none { L with } p c v1 w).mono ?_
  rintro ex w' ⟨rfl, rfl⟩
  refine ⟨_, g, rfl, h, ?_, Step.refl g _, ?_⟩
  · simp only [RepA, RepAs]; exact ⟨[], rfl, rfl⟩
  · intro i j hij
    simp only [List.mem_cons, List.not_mem_nil, or_false, Prod.mk.injEq] at hij
    obtain ⟨rfl, rfl⟩ := hij
    rfl

/-- .. at any number of elements. -/
theorem sortFunc_all {P : Program} {ρ : Ren} (L : SlLaysF0.n6 P ρ) {k : Nat} (hk0 : 0 < k) (aE : ∀ w, (isAgg (ρ.t 24)).run P w = .ok true w) (zE : ∀ w, (Go.sizeOf (ρ.t 24)).run P w = .ok k w) (hent : Enters P (ρ.f 6)) {cg : FuncId}
    (eg : ∀ args w, (callFunc cg args).run P w = .ok (.enter cg args) w) {V : List D → Prop} {cf : List D → List D → Int} (hc : CmpOk P cg V cf) (hO : CmpOrd V cf) (e : TypeId) {rows rows' : List (List D)} (hV : ∀ r ∈ rows, V r)
    (hanti : ∀ a ∈ rows, ∀ b ∈ rows, ¬ cf b a < 0 → ¬ cf a b < 0 → a = b) (hp : rows'.Perm rows) (hs : rows'.Pairwise fun a b => ¬ cf b a < 0) (hsz : rows.length < 4611686018427387904) :
    PX P (ρ.f 6) [.hs 0 0 rows.length, .d (.fn (.func cg) [])] [(0, ⟨e, k, dr rows⟩)] [(0, 0)] [(0, ⟨e, k, dr rows'⟩)] (.tup []) := by
  by_cases hn : rows = []
  · subst hn
    have : rows' = [] := hp.eq_nil
    subst this
    exact sortFunc_px0 L hk0 hent e _
  · refine sortFunc_px L hk0 aE zE hent eg hc hO e hV hanti hp hs (List.length_pos_iff.2 hn) hsz _ fun g w v hv => ?_
    simp only [RepA, RepD] at hv
    obtain ⟨vs, rfl, h2⟩ := hv
    simp only [RepDs] at h2
    rw [h2]

end Go.Abs

set_option linter.unusedVariables false
set_option linter.unusedSimpArgs false
set_option maxRecDepth 100000
namespace Go.Proofs.YtagakfaiimaifaaGreat
open Go.Abs Go.Shelf Go.RowKit Go.Lib Go.Sort

/-! What the sorts of package thin do. -/
def sortCell_ren : Go.Shelf.Ren := ⟨fun | 6 => 70 | 15 => 78 | 14 => 112 | 28 => 123 | 29 => 124 | 20 => 160 | 21 => 161 | 22 => 162 | 23 => 163 | 24 => 164 | 25 => 165 | 26 => 166 | 27 => 167 | 46 => 198 | 47 => 177 | 48 => 178 | 49 => 199 | 50 => 200 | 57 => 218 | n => n, fun | 22 => 59 | 24 => 62 | 25 => 109 | 3 => 3 | 39 => 117 | 0 => 0 | 53 => 157 | 55 => 159 | 4 => 4 | 46 => 150 | 45 => 149 | 50 => 154 | 5 => 5 | 9 => 9 | 66 => 194 | 70 => 198 | 76 => 214 | 77 => 215 | n => n, fun n => n⟩
theorem sortCell_lays : SlLaysF0.n6 Tryz.prog sortCell_ren where
  mixed := by kernel_rfl
  f6 := ⟨Tryz.f70.name, by kernel_rfl, Tryz.func70.trans (congrArg some (by kernel_rfl))⟩
  f14 := ⟨Tryz.f112.name, by kernel_rfl, Tryz.func112.trans (congrArg some (by kernel_rfl))⟩
  f15 := Tryz.func78.trans (congrArg some (by kernel_rfl))
  f20 := ⟨Tryz.f160.name, by kernel_rfl, Tryz.func160.trans (congrArg some (by kernel_rfl))⟩
  f21 := ⟨Tryz.f161.name, by kernel_rfl, Tryz.func161.trans (congrArg some (by kernel_rfl))⟩
  f22 := ⟨Tryz.f162.name, by kernel_rfl, Tryz.func162.trans (congrArg some (by kernel_rfl))⟩
  f23 := ⟨Tryz.f163.name, by kernel_rfl, Tryz.func163.trans (congrArg some (by kernel_rfl))⟩
  f24 := ⟨Tryz.f164.name, by kernel_rfl, Tryz.func164.trans (congrArg some (by kernel_rfl))⟩
  f25 := ⟨Tryz.f165.name, by kernel_rfl, Tryz.func165.trans (congrArg some (by kernel_rfl))⟩
  f26 := ⟨Tryz.f166.name, by kernel_rfl, Tryz.func166.trans (congrArg some (by kernel_rfl))⟩
  f27 := ⟨Tryz.f167.name, by kernel_rfl, Tryz.func167.trans (congrArg some (by kernel_rfl))⟩
  f28 := Tryz.func123.trans (congrArg some (by kernel_rfl))
  f29 := Tryz.func124.trans (congrArg some (by kernel_rfl))
  f46 := ⟨Tryz.f198.name, by kernel_rfl, Tryz.func198.trans (congrArg some (by kernel_rfl))⟩
  f47 := Tryz.func177.trans (congrArg some (by kernel_rfl))
  f48 := Tryz.func178.trans (congrArg some (by kernel_rfl))
  f49 := ⟨Tryz.f199.name, by kernel_rfl, Tryz.func199.trans (congrArg some (by kernel_rfl))⟩
  f50 := ⟨Tryz.f200.name, by kernel_rfl, Tryz.func200.trans (congrArg some (by kernel_rfl))⟩
  f57 := ⟨Tryz.f218.name, by kernel_rfl, Tryz.func218.trans (congrArg some (by kernel_rfl))⟩
  t0 := Tryz.underlying0
  a0 := Tryz.isAgg0
  z0 := Tryz.sizeOf0
  v0 := Tryz.zeroValue0
  t3 := Tryz.underlying3
  a3 := Tryz.isAgg3
  z3 := Tryz.sizeOf3
  v3 := Tryz.zeroValue3
  t4 := Tryz.underlying4
  a4 := Tryz.isAgg4
  z4 := Tryz.sizeOf4
  v4 := Tryz.zeroValue4
  t5 := Tryz.underlying5
  a5 := Tryz.isAgg5
  z5 := Tryz.sizeOf5
  v5 := Tryz.zeroValue5
  t9 := Tryz.underlying9
  a9 := Tryz.isAgg9
  z9 := Tryz.sizeOf9
  v9 := Tryz.zeroValue9
  t22 := Tryz.underlying59
  a22 := Tryz.isAgg59
  z22 := Tryz.sizeOf59
  v22 := Tryz.zeroValue59
  t25 := Tryz.underlying109
  a25 := Tryz.isAgg109
  z25 := Tryz.sizeOf109
  v25 := Tryz.zeroValue109
  t39 := Tryz.underlying117
  a39 := Tryz.isAgg117
  z39 := Tryz.sizeOf117
  v39 := Tryz.zeroValue117
  t45 := Tryz.underlying149
  a45 := Tryz.isAgg149
  z45 := Tryz.sizeOf149
  v45 := Tryz.zeroValue149
  t46 := Tryz.underlying150
  a46 := Tryz.isAgg150
  z46 := Tryz.sizeOf150
  v46 := Tryz.zeroValue150
  t50 := Tryz.underlying154
  a50 := Tryz.isAgg154
  z50 := Tryz.sizeOf154
  v50 := Tryz.zeroValue154
  t53 := Tryz.underlying157
  a53 := Tryz.isAgg157
  z53 := Tryz.sizeOf157
  v53 := Tryz.zeroValue157
  t55 := Tryz.underlying159
  a55 := Tryz.isAgg159
  z55 := Tryz.sizeOf159
  v55 := Tryz.zeroValue159
  t66 := Tryz.underlying194
  a66 := Tryz.isAgg194
  z66 := Tryz.sizeOf194
  v66 := Tryz.zeroValue194
  t70 := Tryz.underlying198
  a70 := Tryz.isAgg198
  z70 := Tryz.sizeOf198
  v70 := Tryz.zeroValue198
  t76 := Tryz.underlying214
  a76 := Tryz.isAgg214
  z76 := Tryz.sizeOf214
  v76 := Tryz.zeroValue214
  t77 := Tryz.underlying215
  a77 := Tryz.isAgg215
  z77 := Tryz.sizeOf215
  v77 := Tryz.zeroValue215
def sortTrack_ren : Go.Shelf.Ren := ⟨fun | 6 => 73 | 15 => 78 | 14 => 113 | 28 => 123 | 29 => 124 | 20 => 168 | 21 => 169 | 22 => 170 | 23 => 171 | 24 => 172 | 25 => 173 | 26 => 174 | 27 => 175 | 46 => 201 | 47 => 177 | 48 => 178 | 49 => 202 | 50 => 203 | 57 => 219 | n => n, fun | 22 => 57 | 24 => 61 | 25 => 112 | 3 => 3 | 39 => 117 | 0 => 0 | 53 => 157 | 55 => 159 | 4 => 4 | 46 => 150 | 45 => 149 | 50 => 154 | 5 => 5 | 9 => 9 | 66 => 194 | 70 => 198 | 76 => 214 | 77 => 215 | n => n, fun n => n⟩
theorem sortTrack_lays : SlLaysF0.n6 Tryz.prog sortTrack_ren where
  mixed := by kernel_rfl
  f6 := ⟨Tryz.f73.name, by kernel_rfl, Tryz.func73.trans (congrArg some (by kernel_rfl))⟩
  f14 := ⟨Tryz.f113.name, by kernel_rfl, Tryz.func113.trans (congrArg some (by kernel_rfl))⟩
  f15 := Tryz.func78.trans (congrArg some (by kernel_rfl))
  f20 := ⟨Tryz.f168.name, by kernel_rfl, Tryz.func168.trans (congrArg some (by kernel_rfl))⟩
  f21 := ⟨Tryz.f169.name, by kernel_rfl, Tryz.func169.trans (congrArg some (by kernel_rfl))⟩
  f22 := ⟨Tryz.f170.name, by kernel_rfl, Tryz.func170.trans (congrArg some (by kernel_rfl))⟩
  f23 := ⟨Tryz.f171.name, by kernel_rfl, Tryz.func171.trans (congrArg some (by kernel_rfl))⟩
  f24 := ⟨Tryz.f172.name, by kernel_rfl, Tryz.func172.trans (congrArg some (by kernel_rfl))⟩
  f25 := ⟨Tryz.f173.name, by kernel_rfl, Tryz.func173.trans (congrArg some (by kernel_rfl))⟩
  f26 := ⟨Tryz.f174.name, by kernel_rfl, Tryz.func174.trans (congrArg some (by kernel_rfl))⟩
  f27 := ⟨Tryz.f175.name, by kernel_rfl, Tryz.func175.trans (congrArg some (by kernel_rfl))⟩
  f28 := Tryz.func123.trans (congrArg some (by kernel_rfl))
  f29 := Tryz.func124.trans (congrArg some (by kernel_rfl))
  f46 := ⟨Tryz.f201.name, by kernel_rfl, Tryz.func201.trans (congrArg some (by kernel_rfl))⟩
  f47 := Tryz.func177.trans (congrArg some (by kernel_rfl))
  f48 := Tryz.func178.trans (congrArg some (by kernel_rfl))
  f49 := ⟨Tryz.f202.name, by kernel_rfl, Tryz.func202.trans (congrArg some (by kernel_rfl))⟩
  f50 := ⟨Tryz.f203.name, by kernel_rfl, Tryz.func203.trans (congrArg some (by kernel_rfl))⟩
  f57 := ⟨Tryz.f219.name, by kernel_rfl, Tryz.func219.trans (congrArg some (by kernel_rfl))⟩
  t0 := Tryz.underlying0
  a0 := Tryz.isAgg0
  z0 := Tryz.sizeOf0
  v0 := Tryz.zeroValue0
  t3 := Tryz.underlying3
  a3 := Tryz.isAgg3
  z3 := Tryz.sizeOf3
  v3 := Tryz.zeroValue3
  t4 := Tryz.underlying4
  a4 := Tryz.isAgg4
  z4 := Tryz.sizeOf4
  v4 := Tryz.zeroValue4
  t5 := Tryz.underlying5
  a5 := Tryz.isAgg5
  z5 := Tryz.sizeOf5
  v5 := Tryz.zeroValue5
  t9 := Tryz.underlying9
  a9 := Tryz.isAgg9
  z9 := Tryz.sizeOf9
  v9 := Tryz.zeroValue9
  t22 := Tryz.underlying57
  a22 := Tryz.isAgg57
  z22 := Tryz.sizeOf57
  v22 := Tryz.zeroValue57
  t25 := Tryz.underlying112
  a25 := Tryz.isAgg112
  z25 := Tryz.sizeOf112
  v25 := Tryz.zeroValue112
  t39 := Tryz.underlying117
  a39 := Tryz.isAgg117
  z39 := Tryz.sizeOf117
  v39 := Tryz.zeroValue117
  t45 := Tryz.underlying149
  a45 := Tryz.isAgg149
  z45 := Tryz.sizeOf149
  v45 := Tryz.zeroValue149
  t46 := Tryz.underlying150
  a46 := Tryz.isAgg150
  z46 := Tryz.sizeOf150
  v46 := Tryz.zeroValue150
  t50 := Tryz.underlying154
  a50 := Tryz.isAgg154
  z50 := Tryz.sizeOf154
  v50 := Tryz.zeroValue154
  t53 := Tryz.underlying157
  a53 := Tryz.isAgg157
  z53 := Tryz.sizeOf157
  v53 := Tryz.zeroValue157
  t55 := Tryz.underlying159
  a55 := Tryz.isAgg159
  z55 := Tryz.sizeOf159
  v55 := Tryz.zeroValue159
  t66 := Tryz.underlying194
  a66 := Tryz.isAgg194
  z66 := Tryz.sizeOf194
  v66 := Tryz.zeroValue194
  t70 := Tryz.underlying198
  a70 := Tryz.isAgg198
  z70 := Tryz.sizeOf198
  v70 := Tryz.zeroValue198
  t76 := Tryz.underlying214
  a76 := Tryz.isAgg214
  z76 := Tryz.sizeOf214
  v76 := Tryz.zeroValue214
  t77 := Tryz.underlying215
  a77 := Tryz.isAgg215
  z77 := Tryz.sizeOf215
  v77 := Tryz.zeroValue215

/-- By X, then by Y. -/
def cfX : List D → List D → Int
  | [.int _ ax, .int _ ay], [.int _ bx, .int _ by'] => if ax ≠ bx then ax - bx else ay - by'
  | _, _ => 0
def VC (r : List D) : Prop := ∃ c : Cell, r = c.row ∧ onG c = true

set_option maxHeartbeats 1000000 in
theorem cmpX_ok : CmpOk Tryz.prog 71 VC cfX := by
  rintro ro w a b va vb hro ⟨⟨ax, ay⟩, rfl, hc⟩ ⟨⟨bx, by'⟩, rfl, hd⟩ ha hb _ _
  have h1 := onG_bd hc
  have h2 := onG_bd hd
  simp only at h1 h2
  simp only [Cell.row, RepDs, RepD] at ha hb
  obtain ⟨_, _, rfl, rfl, _, _, rfl, rfl, rfl⟩ := ha
  obtain ⟨_, _, rfl, rfl, _, _, rfl, rfl, rfl⟩ := hb
  have w1 : IntKind.i64.wrap (ax - bx) = ax - bx := wrap_i64 (by omega) (by omega)
  have w2 : IntKind.i64.wrap (ay - by') = ay - by' := wrap_i64 (by omega) (by omega)
  go_enter Tryz.func71, Tryz.ntmps71
  go_wp2
  · rename_i h
    go_ret
    refine ⟨?_, 0, _, by rw [alloc_eq_grow, alloc_eq_grow, grow_grow]; rfl⟩
    simp at h
    simp [cfX, h]
  · rename_i h
    go_ret
    refine ⟨?_, 0, _, by rw [alloc_eq_grow, alloc_eq_grow, grow_grow]; rfl⟩
    simp at h
    simp [cfX, h]

/-- By the first cell's Y, then by its X. -/
def cfY : List D → List D → Int
  | [_, _, .sl ([.int _ ax, .int _ ay] :: _)], [_, _, .sl ([.int _ bx, .int _ by'] :: _)] => if ay ≠ by' then ay - by' else ax - bx
  | _, _ => 0
theorem cfY_rows (ra rb : Int) (ca cb : Bool) (ax ay bx by' : Int) (la lb : List Cell) : cfY (Track.row ⟨ra, ca, ⟨ax, ay⟩ :: la⟩) (Track.row ⟨rb, cb, ⟨bx, by'⟩ :: lb⟩) = if ay ≠ by' then ay - by' else ax - bx := rfl
def VT (r : List D) : Prop := ∃ (t : Track) (c : Cell) (l : List Cell), r = t.row ∧ t.cells = c :: l ∧ onG c = true

set_option maxHeartbeats 1000000 in
theorem cmpY_ok : CmpOk Tryz.prog 74 VT cfY := by
  rintro ro w a b va vb hro ⟨⟨ra, ca, _⟩, ⟨ax, ay⟩, la, rfl, rfl, hc⟩ ⟨⟨rb, cb, _⟩, ⟨bx, by'⟩, lb, rfl, rfl, hd⟩ ha hb _ _
  have h1 := onG_bd hc
  have h2 := onG_bd hd
  simp only at h1 h2
  simp only [Track.row, encCells, RepDs, RepD, List.map_cons, List.length_cons, List.length_map] at ha hb
  obtain ⟨_, _, rfl, rfl, _, _, rfl, rfl, _, _, rfl, ⟨p, cp, rfl, hp1, hp2, hp3⟩, rfl⟩ := ha
  obtain ⟨_, _, rfl, rfl, _, _, rfl, rfl, _, _, rfl, ⟨q, cq, rfl, hq1, hq2, hq3⟩, rfl⟩ := hb
  obtain ⟨b1, o1, m1, rfl, hb1, hr1⟩ := hp3.resolve_left (by simp)
  obtain ⟨b2, o2, m2, rfl, hb2, hr2⟩ := hq3.resolve_left (by simp)
  simp only [RepRows, RepDs, RepD] at hr1 hr2
  obtain ⟨⟨_, hl1, ⟨_, _, rfl, rfl, _, _, rfl, rfl, rfl⟩, hc1⟩, _⟩ := hr1
  obtain ⟨⟨_, hl2, ⟨_, _, rfl, rfl, _, _, rfl, rfl, rfl⟩, hc2⟩, _⟩ := hr2
  have x1 := (hc1 0 (.int .i64 ax) (by simp)).1
  have y1 := (hc1 1 (.int .i64 ay) (by simp)).1
  have x2 := (hc2 0 (.int .i64 bx) (by simp)).1
  have y2 := (hc2 1 (.int .i64 by') (by simp)).1
  clear hl1 hl2
  have s1 := hro b1 hb1
  have s2 := hro b2 hb2
  simp only [Nat.add_zero] at x1 x2
  clear hc1 hc2 hp1 hp2 hp3 hq1 hq2 hq3 hro hb1 hb2
  have w1 : IntKind.i64.wrap (ax - bx) = ax - bx := wrap_i64 (by omega) (by omega)
  have w2 : IntKind.i64.wrap (ay - by') = ay - by' := wrap_i64 (by omega) (by omega)
  go_enter Tryz.func74, Tryz.ntmps74
  go_wp2
  have hW0 : ∀ (o1 o2 : Obj), (w.alloc o1).alloc o2 = grow w #[o1, o2] := fun o1 o2 => by rw [alloc_eq_grow, alloc_eq_grow, grow_grow]; rfl
  have kp : ∀ (os : Array Obj) (a : Addr), a.block < w.heap.size → (grow w os).cell? a = w.cell? a := fun os a h => cell?_grow w os a h
  have q1 : ∀ (p q : Obj), ((w.alloc p).alloc q).cell? ⟨b1, o1, none⟩ = some (.int .i64 ax) := fun p q => by rw [hW0, kp _ _ s1, x1]
  have q2 : ∀ (p q : Obj), ((w.alloc p).alloc q).cell? ⟨b1, o1 + 1, none⟩ = some (.int .i64 ay) := fun p q => by rw [hW0, kp _ _ s1, y1]
  have q3 : ∀ (p q : Obj), ((w.alloc p).alloc q).cell? ⟨b2, o2, none⟩ = some (.int .i64 bx) := fun p q => by rw [hW0, kp _ _ s2, x2]
  have q4 : ∀ (p q : Obj), ((w.alloc p).alloc q).cell? ⟨b2, o2 + 1, none⟩ = some (.int .i64 by') := fun p q => by rw [hW0, kp _ _ s2, y2]
  obtain ⟨B1, hB1⟩ : ∃ B1, B1 = w.heap.size := ⟨_, rfl⟩
  obtain ⟨W, hW⟩ : ∃ W, W = (w.alloc (Obj.cells #[Value.int IntKind.i64 ra, Value.bool ca, Value.slice (some ⟨b1, o1, none⟩) (la.length + 1) cp] 61)).alloc (Obj.cells #[Value.int IntKind.i64 rb, Value.bool cb, Value.slice (some ⟨b2, o2, none⟩) (lb.length + 1) cq] 61) := ⟨_, rfl⟩
  have z1 := q1 (Obj.cells #[Value.int IntKind.i64 ra, Value.bool ca, Value.slice (some ⟨b1, o1, none⟩) (la.length + 1) cp] 61) (Obj.cells #[Value.int IntKind.i64 rb, Value.bool cb, Value.slice (some ⟨b2, o2, none⟩) (lb.length + 1) cq] 61)
  have z2 := q2 (Obj.cells #[Value.int IntKind.i64 ra, Value.bool ca, Value.slice (some ⟨b1, o1, none⟩) (la.length + 1) cp] 61) (Obj.cells #[Value.int IntKind.i64 rb, Value.bool cb, Value.slice (some ⟨b2, o2, none⟩) (lb.length + 1) cq] 61)
  have z3 := q3 (Obj.cells #[Value.int IntKind.i64 ra, Value.bool ca, Value.slice (some ⟨b1, o1, none⟩) (la.length + 1) cp] 61) (Obj.cells #[Value.int IntKind.i64 rb, Value.bool cb, Value.slice (some ⟨b2, o2, none⟩) (lb.length + 1) cq] 61)
  have z4 := q4 (Obj.cells #[Value.int IntKind.i64 ra, Value.bool ca, Value.slice (some ⟨b1, o1, none⟩) (la.length + 1) cp] 61) (Obj.cells #[Value.int IntKind.i64 rb, Value.bool cb, Value.slice (some ⟨b2, o2, none⟩) (lb.length + 1) cq] 61)
  have z5 : ((w.alloc (Obj.cells #[Value.int IntKind.i64 ra, Value.bool ca, Value.slice (some ⟨b1, o1, none⟩) (la.length + 1) cp] 61)).alloc (Obj.cells #[Value.int IntKind.i64 rb, Value.bool cb, Value.slice (some ⟨b2, o2, none⟩) (lb.length + 1) cq] 61)).cell? ⟨B1, 2, none⟩ = some (.slice (some ⟨b1, o1, none⟩) (la.length + 1) cp) := by rw [hB1, hW0]; simp [World.cell?, grow, Array.getElem?_append]
  have z6 : ((w.alloc (Obj.cells #[Value.int IntKind.i64 ra, Value.bool ca, Value.slice (some ⟨b1, o1, none⟩) (la.length + 1) cp] 61)).alloc (Obj.cells #[Value.int IntKind.i64 rb, Value.bool cb, Value.slice (some ⟨b2, o2, none⟩) (lb.length + 1) cq] 61)).cell? ⟨B1 + 1, 2, none⟩ = some (.slice (some ⟨b2, o2, none⟩) (lb.length + 1) cq) := by rw [hB1, hW0]; simp [World.cell?, grow, Array.getElem?_append]
  rw [hW0] at hW
  rw [hW0] at z1 z2 z3 z4 z5 z6 ⊢
  rw [← hW] at z1 z2 z3 z4 z5 z6 ⊢
  rw [← hB1]
  have hWh : Go.Abs.Hid (∃ p q, W = grow w #[p, q]) := ⟨_, _, hW⟩
  have hBh : Go.Abs.Hid (B1 = w.heap.size) := ⟨hB1⟩
  clear q1 q2 q3 q4 x1 x2 y1 y2 hW hB1 hW0 kp s1 s2
  have n1 := World.new_ne W _ z1
  have n2 := World.new_ne W _ z2
  have n3 := World.new_ne W _ z3
  have n4 := World.new_ne W _ z4
  have n5 := World.new_ne W _ z5
  have n6 := World.new_ne W _ z6
  go_region_held3 (fun w' => w'.cell? ⟨B1, 2, none⟩ = some (.slice (some ⟨b1, o1, none⟩) (la.length + 1) cp) ∧ w'.cell? ⟨B1 + 1, 2, none⟩ = some (.slice (some ⟨b2, o2, none⟩) (lb.length + 1) cq) ∧ w'.cell? ⟨b1, o1, none⟩ = some (.int .i64 ax) ∧ w'.cell? ⟨b1, o1 + 1, none⟩ = some (.int .i64 ay) ∧ w'.cell? ⟨b2, o2, none⟩ = some (.int .i64 bx) ∧ w'.cell? ⟨b2, o2 + 1, none⟩ = some (.int .i64 by')) (go_keep) (fail)
  all_goals go_wp2
  all_goals
    rename_i h
    go_ret
    obtain ⟨⟨p, q, rfl⟩⟩ := hWh
    refine ⟨?_, 1, _, by rw [alloc_eq_grow, alloc_eq_grow, grow_grow, grow_grow]; rfl⟩
    simp at h
    rw [cfY_rows]
    simp [h]
end Go.Proofs.YtagakfaiimaifaaGreat

set_option linter.unusedVariables false
set_option linter.unusedSimpArgs false
set_option maxRecDepth 100000
namespace Go.Proofs.YtagakfaiimaifaaGreat
open Go.Abs

/-! The sort of package region. -/
def cfD : List D → List D → Int
  | [.int _ ax, .int _ ay], [.int _ bx, .int _ by'] => orI (cmpI ay by') (cmpI ax bx)
  | _, _ => 0
theorem orI_lt (a b c d : Int) : orI (cmpI a b) (cmpI c d) < 0 ↔ a < b ∨ a = b ∧ c < d := by
  unfold orI cmpI
  split <;> (try split) <;> (try split) <;> (try split) <;> omega
theorem cfD_bef (a b : Cell) : cfD a.row b.row < 0 ↔ bef a b = true := by
  obtain ⟨ax, ay⟩ := a
  obtain ⟨bx, b'⟩ := b
  simp only [cfD, Cell.row, orI_lt, bef]
  simp

theorem cfD_ord : CmpOrd VC cfD where
  irrefl := by rintro _ ⟨a, rfl, _⟩; rw [cfD_bef]; simp [bef]
  trans := by
    rintro _ _ _ ⟨a, rfl, _⟩ ⟨b, rfl, _⟩ ⟨c, rfl, _⟩
    rw [cfD_bef, cfD_bef, cfD_bef]
    simp [bef]; omega
  ntrans := by
    rintro _ _ _ ⟨a, rfl, _⟩ ⟨b, rfl, _⟩ ⟨c, rfl, _⟩
    rw [cfD_bef, cfD_bef, cfD_bef]
    simp [bef]; omega

def ofTl : Option (Int × List Run) → List (List AV)
  | none => []
  | some (y, L) => [[.d (.int .i64 y), .hs 3 0 L.length]]
def ofRl : Option (Int × List Run) → List Run
  | none => []
  | some (_, L) => L
def ofX (P : List Row) : Option (Int × List Run) → List Row
  | none => P
  | some (y, L) => P ++ [⟨y, L⟩]

end Go.Proofs.YtagakfaiimaifaaGreat

set_option linter.unusedVariables false
set_option linter.unusedSimpArgs false
set_option maxRecDepth 100000
namespace Go.Proofs.YtagakfaiimaifaaGreat
open Go.Abs

/-! The number of cells. -/
def lenN (l : List Run) : Nat := (l.flatMap (runCells 0)).length
theorem lenN_take {l : List Run} {k : Nat} {r : Run} (h : l[k]? = some r) : lenN (l.take (k + 1)) = lenN (l.take k) + (r.b - r.a).toNat := by
  unfold lenN
  rw [flat_take _ h, List.length_append, runCells_len]
theorem rowCells_len (w : Row) : (rowCells w).length = lenN w.runs := by
  unfold rowCells lenN
  rw [List.length_flatMap, List.length_flatMap]
  simp only [runCells_len]
theorem lenN_bound {l : List Run} (h : rvalid l = true) : ∀ k, k ≤ l.length → lenN (l.take k) ≤ k * 2097152
  | 0, _ => by simp [lenN]
  | k + 1, hk => by
    obtain ⟨r, hr⟩ := getq (show k < l.length by omega)
    have h1 := lenN_bound h k (by omega)
    have h2 := fitsB_bd (rvalid_at h hr).2
    rw [lenN_take hr, Nat.succ_mul]
    omega

theorem length_ok (l : List Run) (hl : l.length ≤ 1000000) (hv : rvalid l = true) : PC Tryz.prog 45 [encRuns l] (.p (.int .i64 (lenN l))) := by
  have c1 := rvalid_ok l hl
  rw [hv] at c1
  refine pc_of_awp cx (fn := Tryz.f45) (c := _) Tryz.func45 rfl rfl (Nat.le_of_ble_eq_true rfl) ?_
  rw [Tryz.ntmps45]; refine Nav.imp ?_
  refine awp_region cx [] fun K hK => ?_
  simp [push_cast]
  repeat (refine And.intro (by clear hK; intros; first | omega | (simp_all; done) | (simp_all <;> omega)) ?_)
  refine hK _ ?_; clear hK K; refine Nav.imp ?_
  refine awp_region cx [(1, .p (.bool true))] fun K hK => ?_
  simp [push_cast, c1]
  repeat (refine And.intro (by clear hK; intros; first | omega | (simp_all; done) | (simp_all <;> omega)) ?_)
  refine hK _ ?_; clear hK K; refine Nav.imp ?_
  refine awp_cond (b := false) (by simp [push_cast]) (fun hb => ?_) (fun hb => ?_) <;> (refine Nav.imp ?_)
  · simp at hb
  · refine awp_region cx [] fun K hK => ?_
    simp [push_cast]
    repeat (refine And.intro (by clear hK; intros; first | omega | (simp_all; done) | (simp_all <;> omega)) ?_)
    refine hK _ ?_; clear hK K; refine Nav.imp ?_
    refine awp_region cx [] fun K hK => ?_
    simp [push_cast]
    repeat (refine And.intro (by clear hK; intros; first | omega | (simp_all; done) | (simp_all <;> omega)) ?_)
    refine hK _ ?_; clear hK K; refine Nav.imp ?_
    refine awp_loop (β := Nat × Nat) (fun b => ⟨24, [(3, .d (.int .i64 b.2)), (9, .d (encRuns l)), (10, .d (.int .i64 l.length)), (11, .d (.int .i64 b.1))], [], 0⟩) (fun b => b.1 ≤ l.length ∧ b.2 = lenN (l.take b.1)) (fun b => l.length - b.1) (0, 0) ?_ ⟨Nat.zero_le _, by simp [lenN]⟩ ?_
    · refine weak_of [] rfl (by simp [upT, up, upL, push_cast]) (by simp [upH, upR, upL, up, push_cast]) (by simp [namesOk, push_cast]) (by simp [olds])
    · rintro ⟨k, n0⟩ ⟨hk, hn⟩
      simp only at hk hn
      refine Nav.imp ?_
      refine awp_region cx [] fun K hK => ?_
      simp [push_cast]
      repeat (refine And.intro (by clear hK; intros; first | omega | (simp_all; done) | (simp_all <;> omega)) ?_)
      refine hK _ ?_; clear hK K; refine Nav.imp ?_
      refine awp_cond (b := decide ((k : Int) < l.length)) (by simp [push_cast]) (fun hb => ?_) (fun hb => ?_) <;> (refine Nav.imp ?_)
      · have hlt : k < l.length := by simpa using hb
        obtain ⟨r, hr⟩ := getq hlt
        have hs := lenN_take hr
        have hbd := lenN_bound hv k (by omega)
        rw [← hn] at hs hbd
        have hrf := rvalid_at hv hr
        have hf := fitsB_bd hrf.2
        obtain ⟨ra, rb⟩ := r
        simp only at hs hrf hf
        have e0 := wrap_i64 (n := (k : Int) + 1) (by omega) (by omega)
        have e1 := wrap_i64 (n := rb - ra) (by omega) (by omega)
        have e2 := wrap_i64 (n := (n0 : Int) + (rb - ra)) (by omega) (by omega)
        have e3 : (n0 : Int) + (rb - ra) = (lenN (l.take (k + 1)) : Nat) := by rw [hs]; omega
        rw [e3] at e2
        generalize hn1 : lenN (l.take (k + 1)) = n1 at *
        refine awp_region cx [] fun K hK => ?_
        simp [push_cast, hr, Run.row]
        repeat (refine And.intro (by clear hK; intros; first | omega | (simp_all; done) | (simp_all <;> omega)) ?_)
        refine hK _ ?_; clear hK K; refine Nav.imp ?_
        refine awp_region cx [] fun K hK => ?_
        simp [push_cast, e1, e2, e3, Run.row]
        repeat (refine And.intro (by clear hK; intros; first | omega | (simp_all; done) | (simp_all <;> omega)) ?_)
        refine hK _ ?_; clear hK K; refine Nav.imp ?_
        refine awp_region cx [] fun K hK => ?_
        simp [push_cast, e0]
        repeat (refine And.intro (by clear hK; intros; first | omega | (simp_all; done) | (simp_all <;> omega)) ?_)
        refine hK _ ?_; clear hK K; refine Nav.imp ?_
        refine ⟨(k + 1, n1), ⟨hlt, hn1.symm⟩, by simp only; omega, ?_⟩
        refine weak_of [] rfl (by simp [upT, up, upL, push_cast]) (by simp [upH, upR, upL, up, push_cast]) (by simp [namesOk, push_cast]) (by simp [olds])
      · have hge : k = l.length := by simp at hb; omega
        subst hge
        rw [List.take_length] at hn
        subst hn
        refine awp_region cx [] fun K hK => ?_
        simp [push_cast]
        repeat (refine And.intro (by clear hK; intros; first | omega | (simp_all; done) | (simp_all <;> omega)) ?_)
        refine hK _ ?_; clear hK K; refine Nav.imp ?_
        simp [push_cast]

def countR (R : List Row) : Nat := if validR R then (regCells R).length else 0
theorem rows_bound {R : List Row} (h : validR R = true) (hR : smallR R) : ∀ i, i ≤ R.length → (rowsTo R i).length ≤ i * 2097152000000
  | 0, _ => by simp [rowsTo]
  | i + 1, hi => by
    obtain ⟨w, hw⟩ := getq (show i < R.length by omega)
    have h1 := rows_bound h hR i (by omega)
    have h2 := lenN_bound (fine_rv (validR_at h hw).2) w.runs.length (Nat.le_refl _)
    have h3 := hR.2 w (List.mem_of_getElem? hw)
    rw [rowsTo_next hw, List.length_append, rowCells_len, Nat.succ_mul]
    rw [List.take_length] at h2
    have := Nat.mul_le_mul_right 2097152 h3
    omega
theorem rows_big {R : List Row} (h : validR R = true) (hR : smallR R) {i : Nat} (hi : i ≤ R.length) : (rowsTo R i).length ≤ 2097152000000000000 := by
  have h1 := rows_bound h hR i hi
  have h2 := hR.1
  have := Nat.mul_le_mul_right 2097152000000 (show i ≤ 1000000 by omega)
  omega

theorem count_ok (R : List Row) (hR : smallR R) : PC Tryz.prog 28 [.agg (regRow R)] (.p (.int .i64 (countR R))) := by
  have c1 := valid_ok R hR
  have hl := hR.1
  have hC : countR R = if validR R then (regCells R).length else 0 := rfl
  generalize hv : validR R = v at *
  refine pc_of_awp cx (fn := Tryz.f28) (c := _) Tryz.func28 rfl rfl (Nat.le_of_ble_eq_true rfl) ?_
  rw [Tryz.ntmps28]; refine Nav.imp ?_
  refine awp_region cx [] fun K hK => ?_
  simp [push_cast]
  repeat (refine And.intro (by clear hK; intros; first | omega | (simp_all; done) | (simp_all <;> omega)) ?_)
  refine hK _ ?_; clear hK K; refine Nav.imp ?_
  refine awp_region cx [(1, .p (.bool v))] fun K hK => ?_
  simp [push_cast, c1]
  repeat (refine And.intro (by clear hK; intros; first | omega | (simp_all; done) | (simp_all <;> omega)) ?_)
  refine hK _ ?_; clear hK K; refine Nav.imp ?_
  refine awp_cond (b := !v) (by simp [push_cast]) (fun hb => ?_) (fun hb => ?_) <;> (refine Nav.imp ?_)
  · simp at hb
    rw [hC, hb]
    refine awp_region cx [] fun K hK => ?_
    simp [push_cast]
    repeat (refine And.intro (by clear hK; intros; first | omega | (simp_all; done) | (simp_all <;> omega)) ?_)
    refine hK _ ?_; clear hK K; refine Nav.imp ?_
    simp [push_cast]
  · simp at hb
    rw [hb] at hv hC
    rw [hC, if_pos rfl]
    clear hC
    refine awp_region cx [] fun K hK => ?_
    simp [push_cast]
    repeat (refine And.intro (by clear hK; intros; first | omega | (simp_all; done) | (simp_all <;> omega)) ?_)
    refine hK _ ?_; clear hK K; refine Nav.imp ?_
    refine awp_region cx [] fun K hK => ?_
    simp [push_cast]
    repeat (refine And.intro (by clear hK; intros; first | omega | (simp_all; done) | (simp_all <;> omega)) ?_)
    refine hK _ ?_; clear hK K; refine Nav.imp ?_
    refine awp_loop (β := Nat × Nat) (fun b => ⟨23, [(3, .d (.int .i64 b.2)), (10, .d (encRows R)), (11, .d (.int .i64 R.length)), (12, .d (.int .i64 b.1))], [], 0⟩) (fun b => b.1 ≤ R.length ∧ b.2 = (rowsTo R b.1).length) (fun b => R.length - b.1) (0, 0) ?_ ⟨Nat.zero_le _, by simp [rowsTo]⟩ ?_
    · refine weak_of [] rfl (by simp [upT, up, upL, push_cast]) (by simp [upH, upR, upL, up, push_cast]) (by simp [namesOk, push_cast]) (by simp [olds])
    · rintro ⟨k, n0⟩ ⟨hk, hn⟩
      simp only at hk hn
      refine Nav.imp ?_
      refine awp_region cx [] fun K hK => ?_
      simp [push_cast]
      repeat (refine And.intro (by clear hK; intros; first | omega | (simp_all; done) | (simp_all <;> omega)) ?_)
      refine hK _ ?_; clear hK K; refine Nav.imp ?_
      refine awp_cond (b := decide ((k : Int) < R.length)) (by simp [push_cast]) (fun hb => ?_) (fun hb => ?_) <;> (refine Nav.imp ?_)
      · have hlt : k < R.length := by simpa using hb
        obtain ⟨w, hw⟩ := getq hlt
        have hs : (rowsTo R (k + 1)).length = n0 + lenN w.runs := by rw [rowsTo_next hw, List.length_append, rowCells_len, hn]
        have hbd := rows_big hv hR (i := k + 1) hlt
        have c2 := length_ok w.runs (hR.2 w (List.mem_of_getElem? hw)) (fine_rv (validR_at hv hw).2)
        have e0 := wrap_i64 (n := (k : Int) + 1) (by omega) (by omega)
        have e2 := wrap_i64 (n := (n0 : Int) + (lenN w.runs : Nat)) (by omega) (by omega)
        have e3 : (n0 : Int) + (lenN w.runs : Nat) = ((rowsTo R (k + 1)).length : Nat) := by rw [hs]; omega
        rw [e3] at e2
        generalize hn1 : (rowsTo R (k + 1)).length = n1 at *
        obtain ⟨y, ru⟩ := w
        simp only at c2 e3
        generalize lenN ru = m at *
        refine awp_region cx [] fun K hK => ?_
        simp [push_cast, hw, Row.row]
        repeat (refine And.intro (by clear hK; intros; first | omega | (simp_all; done) | (simp_all <;> omega)) ?_)
        refine hK _ ?_; clear hK K; refine Nav.imp ?_
        refine awp_region cx [(3, .p (.int .i64 m))] fun K hK => ?_
        simp [push_cast, c2, e2, e3, Row.row]
        repeat (refine And.intro (by clear hK; intros; first | omega | (simp_all; done) | (simp_all <;> omega)) ?_)
        refine hK _ ?_; clear hK K; refine Nav.imp ?_
        refine awp_region cx [] fun K hK => ?_
        simp [push_cast, e0]
        repeat (refine And.intro (by clear hK; intros; first | omega | (simp_all; done) | (simp_all <;> omega)) ?_)
        refine hK _ ?_; clear hK K; refine Nav.imp ?_
        refine ⟨(k + 1, n1), ⟨hlt, hn1.symm⟩, by simp only; omega, ?_⟩
        refine weak_of [] rfl (by simp [upT, up, upL, push_cast]) (by simp [upH, upR, upL, up, push_cast]) (by simp [namesOk, push_cast]) (by simp [olds])
      · have hge : k = R.length := by simp at hb; omega
        subst hge
        rw [rowsTo_all] at hn
        subst hn
        refine awp_region cx [] fun K hK => ?_
        simp [push_cast]
        repeat (refine And.intro (by clear hK; intros; first | omega | (simp_all; done) | (simp_all <;> omega)) ?_)
        refine hK _ ?_; clear hK K; refine Nav.imp ?_
        simp [push_cast]



def smallB (R : List Row) : Bool := decide (R.length ≤ 40) && R.all (fun w => decide (w.runs.length ≤ 40)) && decide (countR R ≤ 600)
theorem small_of {R : List Row} (h1 : R.length ≤ 40) (h2 : ∀ w ∈ R, w.runs.length ≤ 40) : smallR R := ⟨by omega, fun w hw => by have := h2 w hw; omega⟩
theorem smallB_facts {R : List Row} (h : smallB R = true) : R.length ≤ 40 ∧ (∀ w ∈ R, w.runs.length ≤ 40) ∧ countR R ≤ 600 := by
  simp [smallB] at h
  exact ⟨h.1.1, h.1.2, h.2⟩
end Go.Proofs.YtagakfaiimaifaaGreat

set_option linter.unusedVariables false
set_option linter.unusedSimpArgs false
set_option maxRecDepth 100000
namespace Go.Proofs.YtagakfaiimaifaaGreat
open Go.Abs

/-! The box of a region. -/
def fstA (w : Row) : Int := match w.runs[0]? with | some r => r.a | none => 0
def lstB (w : Row) : Int := match w.runs[w.runs.length - 1]? with | some r => r.b | none => 0
def lowX (R : List Row) : Int := R.foldl (fun m w => min m (fstA w)) 4096
def highX (R : List Row) : Int := R.foldl (fun m w => max m (lstB w - 1)) (-4096)
def fstY (R : List Row) : Int := match R[0]? with | some w => w.y | none => 0
def lstY (R : List Row) : Int := match R[R.length - 1]? with | some w => w.y | none => 0
def some? (R : List Row) : Bool := validR R && decide (0 < R.length)
def boxLo (R : List Row) : Cell := if some? R then ⟨lowX R, fstY R⟩ else ⟨0, 0⟩
def boxHi (R : List Row) : Cell := if some? R then ⟨highX R, lstY R⟩ else ⟨0, 0⟩
abbrev boxD (R : List Row) : D := .tup [.agg (boxLo R).row, .agg (boxHi R).row, .bool (some? R)]

theorem lowX_take {R : List Row} {k : Nat} {w : Row} (h : R[k]? = some w) : lowX (R.take (k + 1)) = min (lowX (R.take k)) (fstA w) := by simp [lowX, take_get h]
theorem highX_take {R : List Row} {k : Nat} {w : Row} (h : R[k]? = some w) : highX (R.take (k + 1)) = max (highX (R.take k)) (lstB w - 1) := by simp [highX, take_get h]
theorem foldMin {α : Type} (f : α → Int) : ∀ (l : List α) (m : Int), l.foldl (fun m w => min m (f w)) m ≤ m ∧ (∀ w ∈ l, l.foldl (fun m w => min m (f w)) m ≤ f w) ∧ ∀ b, b ≤ m → (∀ w ∈ l, b ≤ f w) → b ≤ l.foldl (fun m w => min m (f w)) m
  | [], m => by simp
  | x :: l, m => by
    obtain ⟨h1, h2, h3⟩ := foldMin f l (min m (f x))
    simp only [List.foldl_cons]
    refine ⟨by omega, fun w hw => ?_, fun b hb hl => ?_⟩
    · rcases List.mem_cons.1 hw with rfl | hw
      · omega
      · exact h2 w hw
    · have := hl x (by simp)
      exact h3 b (by omega) fun w hw => hl w (by simp [hw])
theorem foldMax {α : Type} (f : α → Int) : ∀ (l : List α) (m : Int), m ≤ l.foldl (fun m w => max m (f w)) m ∧ (∀ w ∈ l, f w ≤ l.foldl (fun m w => max m (f w)) m) ∧ ∀ b, m ≤ b → (∀ w ∈ l, f w ≤ b) → l.foldl (fun m w => max m (f w)) m ≤ b
  | [], m => by simp
  | x :: l, m => by
    obtain ⟨h1, h2, h3⟩ := foldMax f l (max m (f x))
    simp only [List.foldl_cons]
    refine ⟨by omega, fun w hw => ?_, fun b hb hl => ?_⟩
    · rcases List.mem_cons.1 hw with rfl | hw
      · omega
      · exact h2 w hw
    · have := hl x (by simp)
      exact h3 b (by omega) fun w hw => hl w (by simp [hw])
theorem row_ends0 {w : Row} (h : fine w.runs = true) : (∀ r ∈ w.runs, fstA w ≤ r.a ∧ r.b ≤ lstB w) ∧ -4096 ≤ fstA w ∧ fstA w < lstB w ∧ lstB w ≤ 4096 := by
  obtain ⟨f, z, hf, hz, hf1, hz1, hl⟩ := fine_ends h
  have e1 : fstA w = f.a := by simp [fstA, hf]
  have e2 : lstB w = z.b := by simp [lstB, hz]
  rw [e1, e2]
  have key : ∀ r ∈ w.runs, f.a ≤ r.a ∧ r.b ≤ z.b := fun r hr => by
    obtain ⟨k, hk, rfl⟩ := List.mem_iff_getElem.1 hr
    have hk' := List.getElem?_eq_getElem hk
    exact ⟨(rvalid_asc (fine_rv h) k 0 _ f (Nat.zero_le _) hf hk').1, (rvalid_asc (fine_rv h) (w.runs.length - 1) k z _ (by omega) hk' hz).2⟩
  have := key f (List.mem_of_getElem? hf)
  exact ⟨key, by omega, by omega, by omega⟩
theorem rows_ends {R : List Row} (hv : validR R = true) {w : Row} (hw : w ∈ R) : fstY R ≤ w.y ∧ w.y ≤ lstY R := by
  obtain ⟨k, hk, rfl⟩ := List.mem_iff_getElem.1 hw
  have hp := List.pairwise_iff_getElem.1 (rows_pw hv)
  have e1 : fstY R = R[0].y := by simp [fstY, List.getElem?_eq_getElem (show 0 < R.length by omega)]
  have e2 : lstY R = R[R.length - 1].y := by simp [lstY, List.getElem?_eq_getElem (show R.length - 1 < R.length by omega)]
  rw [e1, e2]
  constructor
  · rcases Nat.eq_zero_or_pos k with h | h
    · subst h; exact Int.le_refl _
    · exact Int.le_of_lt (hp 0 k (by omega) hk h)
  · rcases Nat.lt_or_eq_of_le (show k ≤ R.length - 1 by omega) with h | h
    · exact Int.le_of_lt (hp k (R.length - 1) hk (by omega) h)
    · subst h; exact Int.le_refl _

theorem near_ok (d : Int) : PC Tryz.prog 60 [.int .i64 d] (.p (.bool (decide (-8192 ≤ d) && decide (d ≤ 8192)))) := by
  refine pc_of_awp cx (fn := Tryz.f60) (c := _) Tryz.func60 rfl rfl (Nat.le_of_ble_eq_true rfl) ?_
  rw [Tryz.ntmps60]; refine Nav.imp ?_
  refine awp_region cx [] fun K hK => ?_
  simp [push_cast]
  repeat (refine And.intro (by clear hK; intros; first | omega | (simp_all; done) | (simp_all <;> omega)) ?_)
  refine hK _ ?_; clear hK K; refine Nav.imp ?_
  refine awp_region cx [] fun K hK => ?_
  simp [push_cast]
  repeat (refine And.intro (by clear hK; intros; first | omega | (simp_all; done) | (simp_all <;> omega)) ?_)
  refine hK _ ?_; clear hK K; refine Nav.imp ?_
  simp [push_cast]

set_option maxHeartbeats 1000000 in
theorem box_ok (R : List Row) (hR : smallR R) : PC Tryz.prog 59 [.agg (regRow R)] (.p (boxD R)) := by
  have c1 := valid_ok R hR
  have hl := hR.1
  have hB : boxD R = .tup [.agg (boxLo R).row, .agg (boxHi R).row, .bool (some? R)] := rfl
  rw [hB]
  by_cases hsm : some? R = true
  · have hlo : boxLo R = ⟨lowX R, fstY R⟩ := by simp [boxLo, hsm]
    have hhi : boxHi R = ⟨highX R, lstY R⟩ := by simp [boxHi, hsm]
    rw [hlo, hhi, hsm]
    clear hlo hhi hB
    simp only [some?, Bool.and_eq_true, decide_eq_true_eq] at hsm
    obtain ⟨hv, hpos⟩ := hsm
    rw [hv] at c1
    obtain ⟨w0, hw0⟩ : ∃ w, R[0]? = some w := getq hpos
    obtain ⟨w1, hw1⟩ : ∃ w, R[R.length - 1]? = some w := getq (by omega)
    have hy0 : fstY R = w0.y := by simp [fstY, hw0]
    have hy1 : lstY R = w1.y := by simp [lstY, hw1]
    rw [hy0, hy1]
    clear hy0 hy1
    have e1 := wrap_i64 (n := (R.length : Int) - 1) (by omega) (by omega)
    have e2 : ((R.length : Int) - 1).toNat = R.length - 1 := by omega
    have e3 : (0 : Int) ≤ (R.length : Int) - 1 := by omega
    have e4 : ((R.length : Int) == 0) = false := by simp; rintro rfl; simp at hpos
    obtain ⟨y0, r0⟩ := w0
    obtain ⟨y1, r1⟩ := w1
    refine pc_of_awp cx (fn := Tryz.f59) (c := _) Tryz.func59 rfl rfl (Nat.le_of_ble_eq_true rfl) ?_
    rw [Tryz.ntmps59]; refine Nav.imp ?_
    refine awp_region cx [] fun K hK => ?_
    simp [push_cast]
    repeat (refine And.intro (by clear hK; intros; first | omega | (simp_all; done) | (simp_all <;> omega)) ?_)
    refine hK _ ?_; clear hK K; refine Nav.imp ?_
    refine awp_region cx [(1, .p (.bool true))] fun K hK => ?_
    simp [push_cast, c1]
    repeat (refine And.intro (by clear hK; intros; first | omega | (simp_all; done) | (simp_all <;> omega)) ?_)
    refine hK _ ?_; clear hK K; refine Nav.imp ?_
    refine awp_cond (b := false) (by simp [push_cast, e4]) (fun hb => ?_) (fun hb => ?_) <;> (refine Nav.imp ?_)
    · simp at hb
    · refine awp_region cx [] fun K hK => ?_
      simp [push_cast, hw0, Row.row]
      repeat (refine And.intro (by clear hK; intros; first | omega | (simp_all; done) | (simp_all <;> omega)) ?_)
      refine hK _ ?_; clear hK K; refine Nav.imp ?_
      refine awp_region cx [] fun K hK => ?_
      simp [push_cast, hw1, e1, e2, e3, Row.row]
      repeat (refine And.intro (by clear hK; intros; first | omega | (simp_all; done) | (simp_all <;> omega)) ?_)
      refine hK _ ?_; clear hK K; refine Nav.imp ?_
      refine awp_region cx [] fun K hK => ?_
      simp [push_cast]
      repeat (refine And.intro (by clear hK; intros; first | omega | (simp_all; done) | (simp_all <;> omega)) ?_)
      refine hK _ ?_; clear hK K; refine Nav.imp ?_
      refine awp_loop (β := Nat × Int × Int) (fun b => ⟨69, [(2, .ptr 0 0 0), (3, .ptr 1 0 0), (4, .d (.bool false)), (5, .ptr 2 0 0), (6, .ptr 3 0 0), (37, .d (encRows R)), (38, .d (.int .i64 R.length)), (39, .d (.int .i64 b.1))], [(0, some ⟨62, 2, [[.d (.int .i64 0), .d (.int .i64 0)]]⟩), (1, some ⟨62, 2, [[.d (.int .i64 0), .d (.int .i64 0)]]⟩), (2, some ⟨62, 2, [[.d (.int .i64 b.2.1), .d (.int .i64 y0)]]⟩), (3, some ⟨62, 2, [[.d (.int .i64 b.2.2), .d (.int .i64 y1)]]⟩)], 4⟩) (fun b => b.1 ≤ R.length ∧ b.2.1 = lowX (R.take b.1) ∧ b.2.2 = highX (R.take b.1)) (fun b => R.length - b.1) (0, 4096, -4096) ?_ ⟨Nat.zero_le _, by simp [lowX], by simp [highX]⟩ ?_
      · refine weak_of [(0, some 1), (1, some 2), (2, some 19), (3, some 31)] rfl (by simp [upT, up, upL, push_cast]) (by simp [upH, upR, upL, up, push_cast]) (by simp [namesOk, push_cast]) (by simp [olds])
      · rintro ⟨k, a, b⟩ ⟨hk, ha, hb'⟩
        simp only at hk ha hb'
        refine Nav.imp ?_
        refine awp_region cx [] fun K hK => ?_
        simp [push_cast]
        repeat (refine And.intro (by clear hK; intros; first | omega | (simp_all; done) | (simp_all <;> omega)) ?_)
        refine hK _ ?_; clear hK K; refine Nav.imp ?_
        refine awp_cond (b := decide ((k : Int) < R.length)) (by simp [push_cast]) (fun hb => ?_) (fun hb => ?_) <;> (refine Nav.imp ?_)
        · have hlt : k < R.length := by simpa using hb
          obtain ⟨w, hw⟩ := getq hlt
          have f1 := lowX_take hw
          have f2 := highX_take hw
          rw [← ha] at f1
          rw [← hb'] at f2
          have e0 := wrap_i64 (n := (k : Int) + 1) (by omega) (by omega)
          obtain ⟨f, z, hf, hz, q1, q2, q3⟩ := fine_ends (validR_at hv hw).2
          have g1 : fstA w = f.a := by simp [fstA, hf]
          have g2 : lstB w = z.b := by simp [lstB, hz]
          have hwl := hR.2 w (List.mem_of_getElem? hw)
          rw [g1] at f1
          rw [g2] at f2
          obtain ⟨wy, wr⟩ := w
          obtain ⟨fa, fb⟩ := f
          obtain ⟨za, zb⟩ := z
          simp only at hf hz q1 q2 q3 f1 f2 hwl
          have d1 := wrap_i64 (n := (wr.length : Int) - 1) (by omega) (by omega)
          have d2 : ((wr.length : Int) - 1).toNat = wr.length - 1 := by omega
          have d3 : (0 : Int) ≤ (wr.length : Int) - 1 := by omega
          have d4 := wrap_i64 (n := zb - 1) (by omega) (by omega)
          refine awp_region cx [] fun K hK => ?_
          simp [push_cast, hw, Row.row]
          repeat (refine And.intro (by clear hK; intros; first | omega | (simp_all; done) | (simp_all <;> omega)) ?_)
          refine hK _ ?_; clear hK K; refine Nav.imp ?_
          refine awp_region_draw cx mixed [] fun K hK => ?_
          simp [push_cast, hf, Row.row, Run.row]
          repeat (refine And.intro (by clear hK; intros; first | omega | (simp_all; done) | (simp_all <;> omega)) ?_)
          refine hK _ _ (by kernel_rfl) ?_; clear hK K; refine Nav.imp ?_
          refine awp_region_draw cx mixed [] fun K hK => ?_
          simp [push_cast, hz, d1, d2, d3, d4, Row.row, Run.row]
          repeat (refine And.intro (by clear hK; intros; first | omega | (simp_all; done) | (simp_all <;> omega)) ?_)
          refine hK _ _ (by kernel_rfl) ?_; clear hK K; refine Nav.imp ?_
          refine awp_region cx [] fun K hK => ?_
          simp [push_cast, e0]
          repeat (refine And.intro (by clear hK; intros; first | omega | (simp_all; done) | (simp_all <;> omega)) ?_)
          refine hK _ ?_; clear hK K; refine Nav.imp ?_
          refine ⟨(k + 1, min a fa, max b (zb - 1)), ⟨hlt, f1.symm, f2.symm⟩, by simp only; omega, ?_⟩
          refine weak_of [(0, some 0), (1, some 1), (2, some 2), (3, some 3)] rfl (by simp [upT, up, upL, push_cast]) (by simp [upH, upR, upL, up, push_cast]) (by simp [namesOk, push_cast]) (by simp [olds])
        · have hge : k = R.length := by simp at hb; omega
          subst hge
          rw [List.take_length] at ha hb'
          subst ha hb'
          refine awp_region_draw cx mixed [] fun K hK => ?_
          simp [push_cast]
          repeat (refine And.intro (by clear hK; intros; first | omega | (simp_all; done) | (simp_all <;> omega)) ?_)
          refine hK _ _ (by kernel_rfl) ?_; clear hK K; refine Nav.imp ?_
          simp [push_cast]
  · have hlo : boxLo R = ⟨0, 0⟩ := by simp [boxLo, hsm]
    have hhi : boxHi R = ⟨0, 0⟩ := by simp [boxHi, hsm]
    rw [hlo, hhi, Bool.eq_false_iff.2 hsm]
    generalize hv : validR R = v at *
    have hnil : v = true → R = [] := fun h => by
      rw [h] at hv
      cases R with
      | nil => rfl
      | cons a l => exact absurd (by simp [some?, hv]) hsm
    refine pc_of_awp cx (fn := Tryz.f59) (c := _) Tryz.func59 rfl rfl (Nat.le_of_ble_eq_true rfl) ?_
    rw [Tryz.ntmps59]; refine Nav.imp ?_
    refine awp_region cx [] fun K hK => ?_
    simp [push_cast]
    repeat (refine And.intro (by clear hK; intros; first | omega | (simp_all; done) | (simp_all <;> omega)) ?_)
    refine hK _ ?_; clear hK K; refine Nav.imp ?_
    cases v with
    | false =>
      refine awp_region cx [(1, .p (.bool false))] fun K hK => ?_
      simp [push_cast, c1]
      repeat (refine And.intro (by clear hK; intros; first | omega | (simp_all; done) | (simp_all <;> omega)) ?_)
      refine hK _ ?_; clear hK K; refine Nav.imp ?_
      refine awp_cond (b := true) (by simp [push_cast]) (fun hb => ?_) (fun hb => ?_) <;> (refine Nav.imp ?_)
      · refine awp_region cx [] fun K hK => ?_
        simp [push_cast]
        repeat (refine And.intro (by clear hK; intros; first | omega | (simp_all; done) | (simp_all <;> omega)) ?_)
        refine hK _ ?_; clear hK K; refine Nav.imp ?_
        simp [push_cast]
      · simp at hb
    | true =>
      have := hnil rfl
      subst this
      refine awp_region cx [(1, .p (.bool true))] fun K hK => ?_
      simp [push_cast, c1]
      repeat (refine And.intro (by clear hK; intros; first | omega | (simp_all; done) | (simp_all <;> omega)) ?_)
      refine hK _ ?_; clear hK K; refine Nav.imp ?_
      refine awp_cond (b := true) (by simp [push_cast]) (fun hb => ?_) (fun hb => ?_) <;> (refine Nav.imp ?_)
      · refine awp_region cx [] fun K hK => ?_
        simp [push_cast]
        repeat (refine And.intro (by clear hK; intros; first | omega | (simp_all; done) | (simp_all <;> omega)) ?_)
        refine hK _ ?_; clear hK K; refine Nav.imp ?_
        simp [push_cast]
      · simp at hb

set_option maxHeartbeats 1000000 in
theorem rbox_ok (R : List Row) (hR : smallR R) : PC Tryz.prog 107 [.agg (regRow R)] (.p (boxD R)) := by
  have c1 := validR_ok R hR
  have hl := hR.1
  have hB : boxD R = .tup [.agg (boxLo R).row, .agg (boxHi R).row, .bool (some? R)] := rfl
  rw [hB]
  by_cases hsm : some? R = true
  · have hlo : boxLo R = ⟨lowX R, fstY R⟩ := by simp [boxLo, hsm]
    have hhi : boxHi R = ⟨highX R, lstY R⟩ := by simp [boxHi, hsm]
    rw [hlo, hhi, hsm]
    clear hlo hhi hB
    simp only [some?, Bool.and_eq_true, decide_eq_true_eq] at hsm
    obtain ⟨hv, hpos⟩ := hsm
    rw [hv] at c1
    obtain ⟨w0, hw0⟩ : ∃ w, R[0]? = some w := getq hpos
    obtain ⟨w1, hw1⟩ : ∃ w, R[R.length - 1]? = some w := getq (by omega)
    have hy0 : fstY R = w0.y := by simp [fstY, hw0]
    have hy1 : lstY R = w1.y := by simp [lstY, hw1]
    rw [hy0, hy1]
    clear hy0 hy1
    have e1 := wrap_i64 (n := (R.length : Int) - 1) (by omega) (by omega)
    have e2 : ((R.length : Int) - 1).toNat = R.length - 1 := by omega
    have e3 : (0 : Int) ≤ (R.length : Int) - 1 := by omega
    have e4 : ((R.length : Int) == 0) = false := by simp; rintro rfl; simp at hpos
    obtain ⟨y0, r0⟩ := w0
    obtain ⟨y1, r1⟩ := w1
    refine pc_of_awp cx (fn := Tryz.f107) (c := _) Tryz.func107 rfl rfl (Nat.le_of_ble_eq_true rfl) ?_
    rw [Tryz.ntmps107]; refine Nav.imp ?_
    refine awp_region cx [] fun K hK => ?_
    simp [push_cast]
    repeat (refine And.intro (by clear hK; intros; first | omega | (simp_all; done) | (simp_all <;> omega)) ?_)
    refine hK _ ?_; clear hK K; refine Nav.imp ?_
    refine awp_region cx [(1, .p (.bool true))] fun K hK => ?_
    simp [push_cast, c1]
    repeat (refine And.intro (by clear hK; intros; first | omega | (simp_all; done) | (simp_all <;> omega)) ?_)
    refine hK _ ?_; clear hK K; refine Nav.imp ?_
    refine awp_cond (b := false) (by simp [push_cast, e4]) (fun hb => ?_) (fun hb => ?_) <;> (refine Nav.imp ?_)
    · simp at hb
    · refine awp_region cx [] fun K hK => ?_
      simp [push_cast, hw0, Row.row]
      repeat (refine And.intro (by clear hK; intros; first | omega | (simp_all; done) | (simp_all <;> omega)) ?_)
      refine hK _ ?_; clear hK K; refine Nav.imp ?_
      refine awp_region cx [] fun K hK => ?_
      simp [push_cast, hw1, e1, e2, e3, Row.row]
      repeat (refine And.intro (by clear hK; intros; first | omega | (simp_all; done) | (simp_all <;> omega)) ?_)
      refine hK _ ?_; clear hK K; refine Nav.imp ?_
      refine awp_region cx [] fun K hK => ?_
      simp [push_cast]
      repeat (refine And.intro (by clear hK; intros; first | omega | (simp_all; done) | (simp_all <;> omega)) ?_)
      refine hK _ ?_; clear hK K; refine Nav.imp ?_
      refine awp_loop (β := Nat × Int × Int) (fun b => ⟨71, [(1, .ptr 4 0 0), (2, .ptr 0 0 0), (3, .ptr 1 0 0), (4, .d (.bool false)), (5, .ptr 2 0 0), (6, .ptr 3 0 0), (7, .d (.int .i64 b.1))], [(0, some ⟨62, 2, [[.d (.int .i64 0), .d (.int .i64 0)]]⟩), (1, some ⟨62, 2, [[.d (.int .i64 0), .d (.int .i64 0)]]⟩), (2, some ⟨62, 2, [[.d (.int .i64 b.2.1), .d (.int .i64 y0)]]⟩), (3, some ⟨62, 2, [[.d (.int .i64 b.2.2), .d (.int .i64 y1)]]⟩), (4, some ⟨24, 1, [(regRow R).map .d]⟩)], 5⟩) (fun b => b.1 ≤ R.length ∧ b.2.1 = lowX (R.take b.1) ∧ b.2.2 = highX (R.take b.1)) (fun b => R.length - b.1) (0, 4096, -4096) ?_ ⟨Nat.zero_le _, by simp [lowX], by simp [highX]⟩ ?_
      · refine weak_of [(0, some 1), (1, some 2), (2, some 19), (3, some 31), (4, some 0)] rfl (by simp [upT, up, upL, push_cast]) (by simp [upH, upR, upL, up, push_cast]) (by simp [namesOk, push_cast]) (by simp [olds])
      · rintro ⟨k, a, b⟩ ⟨hk, ha, hb'⟩
        simp only at hk ha hb'
        refine Nav.imp ?_
        refine awp_region cx [] fun K hK => ?_
        simp [push_cast]
        repeat (refine And.intro (by clear hK; intros; first | omega | (simp_all; done) | (simp_all <;> omega)) ?_)
        refine hK _ ?_; clear hK K; refine Nav.imp ?_
        refine awp_cond (b := decide ((k : Int) < R.length)) (by simp [push_cast]) (fun hb => ?_) (fun hb => ?_) <;> (refine Nav.imp ?_)
        · have hlt : k < R.length := by simpa using hb
          obtain ⟨w, hw⟩ := getq hlt
          have f1 := lowX_take hw
          have f2 := highX_take hw
          rw [← ha] at f1
          rw [← hb'] at f2
          have e0 := wrap_i64 (n := (k : Int) + 1) (by omega) (by omega)
          obtain ⟨f, z, hf, hz, q1, q2, q3⟩ := fine_ends (validR_at hv hw).2
          have g1 : fstA w = f.a := by simp [fstA, hf]
          have g2 : lstB w = z.b := by simp [lstB, hz]
          have hwl := hR.2 w (List.mem_of_getElem? hw)
          rw [g1] at f1
          rw [g2] at f2
          obtain ⟨wy, wr⟩ := w
          obtain ⟨fa, fb⟩ := f
          obtain ⟨za, zb⟩ := z
          simp only at hf hz q1 q2 q3 f1 f2 hwl
          have d1 := wrap_i64 (n := (wr.length : Int) - 1) (by omega) (by omega)
          have d2 : ((wr.length : Int) - 1).toNat = wr.length - 1 := by omega
          have d3 : (0 : Int) ≤ (wr.length : Int) - 1 := by omega
          have d4 := wrap_i64 (n := zb - 1) (by omega) (by omega)
          refine awp_region cx [] fun K hK => ?_
          simp [push_cast, hw, Row.row]
          repeat (refine And.intro (by clear hK; intros; first | omega | (simp_all; done) | (simp_all <;> omega)) ?_)
          refine hK _ ?_; clear hK K; refine Nav.imp ?_
          refine awp_region_draw cx mixed [] fun K hK => ?_
          simp [push_cast, hf, Row.row, Run.row]
          repeat (refine And.intro (by clear hK; intros; first | omega | (simp_all; done) | (simp_all <;> omega)) ?_)
          refine hK _ _ (by kernel_rfl) ?_; clear hK K; refine Nav.imp ?_
          refine awp_region_draw cx mixed [] fun K hK => ?_
          simp [push_cast, hz, d1, d2, d3, d4, Row.row, Run.row]
          repeat (refine And.intro (by clear hK; intros; first | omega | (simp_all; done) | (simp_all <;> omega)) ?_)
          refine hK _ _ (by kernel_rfl) ?_; clear hK K; refine Nav.imp ?_
          refine awp_region cx [] fun K hK => ?_
          simp [push_cast, e0]
          repeat (refine And.intro (by clear hK; intros; first | omega | (simp_all; done) | (simp_all <;> omega)) ?_)
          refine hK _ ?_; clear hK K; refine Nav.imp ?_
          refine ⟨(k + 1, min a fa, max b (zb - 1)), ⟨hlt, f1.symm, f2.symm⟩, by simp only; omega, ?_⟩
          refine weak_of [(0, some 0), (1, some 1), (2, some 2), (3, some 3), (4, some 4)] rfl (by simp [upT, up, upL, push_cast]) (by simp [upH, upR, upL, up, push_cast]) (by simp [namesOk, push_cast]) (by simp [olds])
        · have hge : k = R.length := by simp at hb; omega
          subst hge
          rw [List.take_length] at ha hb'
          subst ha hb'
          refine awp_region_draw cx mixed [] fun K hK => ?_
          simp [push_cast]
          repeat (refine And.intro (by clear hK; intros; first | omega | (simp_all; done) | (simp_all <;> omega)) ?_)
          refine hK _ _ (by kernel_rfl) ?_; clear hK K; refine Nav.imp ?_
          simp [push_cast]
  · have hlo : boxLo R = ⟨0, 0⟩ := by simp [boxLo, hsm]
    have hhi : boxHi R = ⟨0, 0⟩ := by simp [boxHi, hsm]
    rw [hlo, hhi, Bool.eq_false_iff.2 hsm]
    generalize hv : validR R = v at *
    have hnil : v = true → R = [] := fun h => by
      rw [h] at hv
      cases R with
      | nil => rfl
      | cons a l => exact absurd (by simp [some?, hv]) hsm
    refine pc_of_awp cx (fn := Tryz.f107) (c := _) Tryz.func107 rfl rfl (Nat.le_of_ble_eq_true rfl) ?_
    rw [Tryz.ntmps107]; refine Nav.imp ?_
    refine awp_region cx [] fun K hK => ?_
    simp [push_cast]
    repeat (refine And.intro (by clear hK; intros; first | omega | (simp_all; done) | (simp_all <;> omega)) ?_)
    refine hK _ ?_; clear hK K; refine Nav.imp ?_
    cases v with
    | false =>
      refine awp_region cx [(1, .p (.bool false))] fun K hK => ?_
      simp [push_cast, c1]
      repeat (refine And.intro (by clear hK; intros; first | omega | (simp_all; done) | (simp_all <;> omega)) ?_)
      refine hK _ ?_; clear hK K; refine Nav.imp ?_
      refine awp_cond (b := true) (by simp [push_cast]) (fun hb => ?_) (fun hb => ?_) <;> (refine Nav.imp ?_)
      · refine awp_region cx [] fun K hK => ?_
        simp [push_cast]
        repeat (refine And.intro (by clear hK; intros; first | omega | (simp_all; done) | (simp_all <;> omega)) ?_)
        refine hK _ ?_; clear hK K; refine Nav.imp ?_
        simp [push_cast]
      · simp at hb
    | true =>
      have := hnil rfl
      subst this
      refine awp_region cx [(1, .p (.bool true))] fun K hK => ?_
      simp [push_cast, c1]
      repeat (refine And.intro (by clear hK; intros; first | omega | (simp_all; done) | (simp_all <;> omega)) ?_)
      refine hK _ ?_; clear hK K; refine Nav.imp ?_
      refine awp_cond (b := true) (by simp [push_cast]) (fun hb => ?_) (fun hb => ?_) <;> (refine Nav.imp ?_)
      · refine awp_region cx [] fun K hK => ?_
        simp [push_cast]
        repeat (refine And.intro (by clear hK; intros; first | omega | (simp_all; done) | (simp_all <;> omega)) ?_)
        refine hK _ ?_; clear hK K; refine Nav.imp ?_
        simp [push_cast]
      · simp at hb
end Go.Proofs.YtagakfaiimaifaaGreat
