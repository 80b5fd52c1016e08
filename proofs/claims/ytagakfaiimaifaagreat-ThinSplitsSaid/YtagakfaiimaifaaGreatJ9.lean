/-
  Texts of this seat put together: M6, X9, X3, AbsZ, X4, X5, M7, E8.
-/
import Derived.Test.YtagakfaiimaifaaGreatJ7
import Derived.Test.YtagakfaiimaifaaGreatJ8
import Derived.Test.YtagakfaiimaifaaGreatJ5
import Derived.Test.YtagakfaiimaifaaGreatJ3
import Derived.Test.YtagakfaiimaifaaGreatJ4
import Derived.Shelf.Sort.Plain
import Derived.Shelf.Slices.In.SortNone
import Derived.Shelf.Slices.CompactI
import Derived.Lib.RowBridge
import Derived.Test.YtagakfaiimaifaaGreatChecked
set_option linter.unusedVariables false
set_option linter.unusedSimpArgs false
set_option maxRecDepth 100000
namespace Go.Proofs.YtagakfaiimaifaaGreat
open Go.Abs

/-! Dilation. -/
def groF (K : Nat) (l : List Run) : List Run := groL l K
theorem groF_nil (K : Nat) : groF K [] = [] := rfl
theorem dilM_get {R : List Row} (hv : validR R = true) {K : Nat} (y : Int) : mget (rowMap (groF K) R) y = groL (rowOf R y) K := rowMap_get (groF_nil K) (validR_pw.1 hv).2 y
theorem dilM_ok {R : List Row} (hv : validR R = true) {K : Nat} (hK : K ≤ 64) : OkM (rowMap (groF K) R) := fun y => by
  rw [dilM_get hv]
  rcases rowOf_cases hv y with ⟨w, hw, _, e⟩ | ⟨_, e⟩
  · rw [e]
    obtain ⟨g1, g2, _⟩ := groL_facts (row_fine hv hw).2 (k := K) (by omega)
    exact ⟨g1, g2⟩
  · rw [e]; exact OkL.nil
theorem dilM_in {R : List Row} (hv : validR R = true) {K : Nat} (hK : K ≤ 64) (y x : Int) : inR (mget (rowMap (groF K) R) y) x = true ↔ ∃ w ∈ R, w.y = y ∧ ∃ r ∈ w.runs, r.a - K ≤ x ∧ x < r.b + K := by
  rw [dilM_get hv]
  rcases rowOf_cases hv y with ⟨w, hw, hy, e⟩ | ⟨hn, e⟩
  · rw [e]
    obtain ⟨_, _, g3⟩ := groL_facts (row_fine hv hw).2 (k := K) (by omega)
    rw [g3]
    constructor
    · intro h; exact ⟨w, hw, hy, h⟩
    · rintro ⟨v, hv', hy', h⟩
      have : v = w := rows_eq hv hv' hw (by omega)
      rw [← this]; exact h
  · rw [e]
    constructor
    · intro h; simp [groL, joinL, inR] at h
    · rintro ⟨v, hv', hy', _⟩; exact absurd hy' (hn v hv')
def dilRun (R : List Row) (K : Nat) (y : Int) : List Run := rowW fU (rowMap (groF K) R) y K
theorem dilRun_ok {R : List Row} (hv : validR R = true) {K : Nat} (hK : K ≤ 64) (y : Int) : OkL (dilRun R K y) := wj_ok rfl (dilM_ok hv hK) _ _
theorem dilRun_in {R : List Row} (hv : validR R = true) {K : Nat} (hK : K ≤ 64) (y x : Int) : inR (dilRun R K y) x = true ↔ nearP R K y x := by
  unfold dilRun rowW nearP
  rw [wj_U (dilM_ok hv hK)]
  constructor
  · rintro ⟨i, hi, h⟩
    obtain ⟨w, hw, hy, hr⟩ := (dilM_in hv hK _ _).1 h
    exact ⟨w, hw, by omega, by omega, hr⟩
  · rintro ⟨w, hw, h1, h2, hr⟩
    exact ⟨(w.y - (y - K)).toNat, by omega, (dilM_in hv hK _ _).2 ⟨w, hw, by omega, hr⟩⟩
def ysD (lo : Int) (n : Nat) : List Int := (List.range n).map fun i : Nat => lo + i
theorem ysD_mem {lo : Int} {n : Nat} {y : Int} : y ∈ ysD lo n ↔ lo ≤ y ∧ y < lo + n := by
  simp only [ysD, List.mem_map, List.mem_range]
  constructor
  · rintro ⟨i, hi, rfl⟩; omega
  · intro h; exact ⟨(y - lo).toNat, by omega, by omega⟩
theorem ysD_pw (lo : Int) (n : Nat) : (ysD lo n).Pairwise (· < ·) := by
  simp only [ysD, List.pairwise_map]
  exact List.pairwise_lt_range.imp (fun {a b} h => by omega)
def dilRow (F : Int → List Run) (y : Int) : List Row := if F y = [] then [] else [⟨y, F y⟩]
def rowsF (F : Int → List Run) (ys : List Int) : List Row := ys.flatMap (dilRow F)
theorem dilRow_len (F : Int → List Run) (y : Int) : (dilRow F y).length ≤ 1 := by unfold dilRow; split <;> simp
theorem dilRow_mem {F : Int → List Run} {y : Int} {w : Row} (h : w ∈ dilRow F y) : w = ⟨y, F y⟩ ∧ F y ≠ [] := by
  unfold dilRow at h
  split at h
  · simp at h
  · rename_i e; simp at h; exact ⟨h, e⟩
theorem rowsF_facts {F : Int → List Run} {ys : List Int} (hp : ys.Pairwise (· < ·)) (hF : ∀ y ∈ ys, F y ≠ [] → (-4096 ≤ y ∧ y < 4096) ∧ fine (F y) = true) : validR (rowsF F ys) = true ∧ ∀ c, c ∈ regCells (rowsF F ys) ↔ c.y ∈ ys ∧ inR (F c.y) c.x = true := by
  refine ⟨validR_pw.2 ⟨fun w hw => ?_, flat_pw (dilRow_len F) (fun a b x y hab hx hy => ?_) hp⟩, fun c => ?_⟩
  · obtain ⟨y, hy, hw⟩ := List.mem_flatMap.1 hw
    obtain ⟨rfl, hne⟩ := dilRow_mem hw
    exact hF y hy hne
  · rw [(dilRow_mem hx).1, (dilRow_mem hy).1]; exact hab
  · rw [mem_regCells]
    constructor
    · rintro ⟨w, hw, hy, hr⟩
      obtain ⟨y, hy', hw⟩ := List.mem_flatMap.1 hw
      obtain ⟨rfl, _⟩ := dilRow_mem hw
      simp only at hy hr
      rw [hy]
      exact ⟨hy', inR_iff.2 hr⟩
    · rintro ⟨hy, hr⟩
      refine ⟨⟨c.y, F c.y⟩, List.mem_flatMap.2 ⟨c.y, hy, ?_⟩, rfl, inR_iff.1 hr⟩
      unfold dilRow
      rw [if_neg (by intro e; rw [e] at hr; simp [inR] at hr)]
      simp
def dilN (R : List Row) (K : Nat) : Nat := (lstY R + K - (fstY R - K) + 1).toNat
def dilL (R : List Row) (K : Nat) : List Row := rowsF (dilRun R K) (ysD (fstY R - K) (dilN R K))
def rngB (R : List Row) (k : Int) : Bool := !decide (min (lowX R) (fstY R) - k < -4096) && !decide (4096 ≤ max (highX R) (lstY R) + k)
def dilR (R : List Row) (k : Int) : List Row := if reachB R k && decide (0 < R.length) && rngB R k then dilL R k.toNat else []
def dilE (R : List Row) (k : Int) : Int := if reachB R k then (if 0 < R.length then (if rngB R k then 0 else 8) else 0) else 1
theorem dilL_facts {R : List Row} (hv : validR R = true) (h0 : 0 < R.length) {K : Nat} (hK : K ≤ 64) (hr : rngB R K = true) : validR (dilL R K) = true ∧ ∀ c, c ∈ regCells (dilL R K) ↔ nearP R K c.y c.x := by
  simp only [rngB, Bool.and_eq_true, Bool.not_eq_true', decide_eq_false_iff_not] at hr
  have hlow := fun w hw => (foldMin fstA R 4096).2.1 w hw
  have hhigh := fun w hw => (foldMax (fun w => lstB w - 1) R (-4096)).2.1 w hw
  have hfit : ∀ y x, nearP R K y x → (-4096 ≤ y ∧ y < 4096) ∧ (-4096 ≤ x ∧ x < 4096) ∧ fstY R - K ≤ y ∧ y ≤ lstY R + K := by
    rintro y x ⟨w, hw, h1, h2, r, hr', h3, h4⟩
    have e1 := rows_ends hv hw
    have e2 := (row_ends0 (row_fine hv hw).2).1 r hr'
    have e3 := hlow w hw
    have e4 := hhigh w hw
    simp only [lowX, highX] at hr
    omega
  obtain ⟨q1, q2⟩ := rowsF_facts (F := dilRun R K) (ysD_pw (fstY R - K) (dilN R K)) fun y hy hne => by
    have hok := dilRun_ok hv hK y
    have hm : ∀ x, inR (dilRun R K y) x = true → -4096 ≤ x ∧ x < 4096 := fun x hx => (hfit y x ((dilRun_in hv hK y x).1 hx)).2.1
    obtain ⟨r, hr'⟩ := List.exists_mem_of_ne_nil _ hne
    have hin := (dilRun_in hv hK y r.a).1 (inR_iff.2 ⟨r, hr', Int.le_refl _, hok.1.1 r hr'⟩)
    exact ⟨(hfit y _ hin).1, fine_apart.2 ⟨hne, hok.1, apart_bounds hok.1 hm⟩⟩
  refine ⟨q1, fun c => ?_⟩
  unfold dilL
  rw [q2, dilRun_in hv hK, ysD_mem]
  constructor
  · exact fun h => h.2
  · intro h
    have := hfit _ _ h
    refine ⟨⟨this.2.2.1, ?_⟩, h⟩
    unfold dilN
    have h5 := this.2.2
    omega
theorem dil_facts {R : List Row} {k : Int} (h : dilE R k = 0) : reachB R k = true ∧ validR (dilR R k) = true ∧ ∀ c, c ∈ regCells (dilR R k) ↔ nearP R k.toNat c.y c.x := by
  unfold dilE at h
  split at h
  · rename_i hq
    have hq' := hq
    simp only [reachB, Bool.and_eq_true, decide_eq_true_eq] at hq'
    obtain ⟨⟨k1, k2⟩, hv⟩ := hq'
    refine ⟨hq, ?_⟩
    split at h
    · rename_i h0
      split at h
      · rename_i hr
        have e : dilR R k = dilL R k.toNat := by unfold dilR; rw [if_pos (by rw [hq, hr]; simp [h0])]
        rw [e]
        exact dilL_facts hv h0 (by omega) (by rw [show ((k.toNat : Nat) : Int) = k by omega]; exact hr)
      · omega
    · rename_i h0
      have e : dilR R k = [] := by unfold dilR; rw [if_neg (by simp [h0])]
      have eR : R = [] := List.eq_nil_of_length_eq_zero (by omega)
      rw [e, eR]
      exact ⟨rfl, fun c => by simp [regCells, nearP]⟩
  · omega
theorem dil_valid (R : List Row) (k : Int) : validR (dilR R k) = true := by
  unfold dilR
  split
  · rename_i h
    simp only [Bool.and_eq_true, decide_eq_true_eq] at h
    obtain ⟨⟨hq, h0⟩, hr⟩ := h
    simp only [reachB, Bool.and_eq_true, decide_eq_true_eq] at hq
    obtain ⟨⟨k1, k2⟩, hv⟩ := hq
    exact (dilL_facts hv h0 (K := k.toNat) (by omega) (by rw [show ((k.toNat : Nat) : Int) = k by omega]; exact hr)).1
  · rfl

set_option maxHeartbeats 4000000 in
theorem dilate_ok (R : List Row) (k : Int) (hR : bigR R) : PC Tryz.prog 63 [.agg (regRow R), .int .i64 k] (.p (.tup [.agg (regRow (dilR R k)), .int .i64 (dilE R k)])) := by
  have c0 := mvalid_big R k hR
  cases hq : reachB R k with
  | false =>
    have hE : dilE R k = 1 := by unfold dilE; rw [hq]; rfl
    have hD : dilR R k = [] := by unfold dilR; rw [hq]; rfl
    rw [hq] at c0
    rw [hE, hD]
    refine pc_of_awp cx (fn := Tryz.f63) (c := _) Tryz.func63 rfl rfl (Nat.le_of_ble_eq_true rfl) ?_
    rw [Tryz.ntmps63]; refine Nav.imp ?_
    refine awp_region cx [] fun K hK => ?_
    simp [push_cast]
    repeat (refine And.intro (by clear hK; intros; first | omega | (simp_all; done) | (simp_all <;> omega)) ?_)
    refine hK _ ?_; clear hK K; refine Nav.imp ?_
    refine awp_region cx [(2, .p (.bool false))] fun K hK => ?_
    simp [push_cast, c0]
    repeat (refine And.intro (by clear hK; intros; first | omega | (simp_all; done) | (simp_all <;> omega)) ?_)
    refine hK _ ?_; clear hK K; refine Nav.imp ?_
    refine awp_cond (b := true) (by simp [push_cast]) (fun hb => ?_) (fun hb => ?_) <;> (refine Nav.imp ?_)
    · refine awp_region cx [] fun K hK => ?_
      simp [push_cast]
      repeat (refine And.intro (by clear hK; intros; first | omega | (simp_all; done) | (simp_all <;> omega)) ?_)
      refine hK _ ?_; clear hK K; refine Nav.imp ?_
      simp [push_cast]
    · simp at hb
  | true =>
    rw [hq] at c0
    have hq' := hq
    simp only [reachB, Bool.and_eq_true, decide_eq_true_eq] at hq'
    obtain ⟨⟨k1, k2⟩, hv⟩ := hq'
    replace hR := small_valid hv
    have hl := hR.1
    have c1 := box_ok R hR
    by_cases h0 : 0 < R.length
    · have hs : some? R = true := by simp [some?, hv, h0]
      have hbx : boxD R = .tup [.agg (Cell.row ⟨lowX R, fstY R⟩), .agg (Cell.row ⟨highX R, lstY R⟩), .bool true] := by simp [boxD, boxLo, boxHi, hs]
      rw [hbx] at c1
      clear hbx
      obtain ⟨w0, hw0⟩ : ∃ w, R[0]? = some w := getq h0
      obtain ⟨w1, hw1⟩ : ∃ w, R[R.length - 1]? = some w := getq (by omega)
      have b1 := (row_fine hv (List.mem_of_getElem? hw0)).1
      have b2 := (row_fine hv (List.mem_of_getElem? hw1)).1
      have y1 : fstY R = w0.y := by simp [fstY, hw0]
      have y2 : lstY R = w1.y := by simp [lstY, hw1]
      have y3 := rows_ends hv (List.mem_of_getElem? hw0)
      have lx1 : lowX R ≤ 4096 := (foldMin fstA R 4096).1
      have lx2 : -4096 ≤ lowX R := (foldMin fstA R 4096).2.2 (-4096) (by omega) fun w hw => (row_ends0 (row_fine hv hw).2).2.1
      have hx1 : -4096 ≤ highX R := (foldMax (fun w => lstB w - 1) R (-4096)).1
      have hx2 : highX R ≤ 4096 := (foldMax (fun w => lstB w - 1) R (-4096)).2.2 4096 (by omega) fun w hw => by have := (row_ends0 (row_fine hv hw).2).2.2.2; show lstB w - 1 ≤ 4096; omega
      have e1 := wrap_i64 (n := min (lowX R) (fstY R) - k) (by omega) (by omega)
      have e2 := wrap_i64 (n := max (highX R) (lstY R) + k) (by omega) (by omega)
      by_cases p1 : min (lowX R) (fstY R) - k < -4096
      · have hrg : rngB R k = false := by simp [rngB, p1]
        have hE : dilE R k = 8 := by unfold dilE; rw [hq, hrg]; simp [h0]
        have hD : dilR R k = [] := by unfold dilR; rw [hq, hrg]; simp
        rw [hE, hD]
        generalize lowX R = lx at *
        generalize highX R = hx at *
        generalize fstY R = fy at *
        generalize lstY R = ly at *
        refine pc_of_awp cx (fn := Tryz.f63) (c := _) Tryz.func63 rfl rfl (Nat.le_of_ble_eq_true rfl) ?_
        rw [Tryz.ntmps63]; refine Nav.imp ?_
        refine awp_region cx [] fun K hK => ?_
        simp [push_cast]
        repeat (refine And.intro (by clear hK; intros; first | omega | (simp_all; done) | (simp_all <;> omega)) ?_)
        refine hK _ ?_; clear hK K; refine Nav.imp ?_
        refine awp_region cx [(2, .p (.bool true))] fun K hK => ?_
        simp [push_cast, c0]
        repeat (refine And.intro (by clear hK; intros; first | omega | (simp_all; done) | (simp_all <;> omega)) ?_)
        refine hK _ ?_; clear hK K; refine Nav.imp ?_
        refine awp_cond (b := false) (by simp [push_cast]) (fun hb => ?_) (fun hb => ?_) <;> (refine Nav.imp ?_)
        · simp at hb
        · refine awp_region cx [(1, .p (.tup [.agg (Cell.row ⟨lx, fy⟩), .agg (Cell.row ⟨hx, ly⟩), .bool true]))] fun K hK => ?_
          simp [push_cast, c1, Cell.row]
          repeat (refine And.intro (by clear hK; intros; first | omega | (simp_all; done) | (simp_all <;> omega)) ?_)
          refine hK _ ?_; clear hK K; refine Nav.imp ?_
          refine awp_region cx [] fun K hK => ?_
          simp [push_cast]
          repeat (refine And.intro (by clear hK; intros; first | omega | (simp_all; done) | (simp_all <;> omega)) ?_)
          refine hK _ ?_; clear hK K; refine Nav.imp ?_
          refine awp_cond (b := false) (by simp [push_cast]) (fun hb => ?_) (fun hb => ?_) <;> (refine Nav.imp ?_)
          · simp at hb
          · refine awp_region cx [] fun K hK => ?_
            simp [push_cast, e1, p1, Cell.row]
            repeat (refine And.intro (by clear hK; intros; first | omega | (simp_all; done) | (simp_all <;> omega)) ?_)
            refine hK _ ?_; clear hK K; refine Nav.imp ?_
            refine awp_cond (b := true) (by simp [push_cast, p1]) (fun hb => ?_) (fun hb => ?_) <;> (refine Nav.imp ?_)
            · refine awp_region cx [] fun K hK => ?_
              simp [push_cast]
              repeat (refine And.intro (by clear hK; intros; first | omega | (simp_all; done) | (simp_all <;> omega)) ?_)
              refine hK _ ?_; clear hK K; refine Nav.imp ?_
              simp [push_cast]
            · simp at hb
      · by_cases p2 : 4096 ≤ max (highX R) (lstY R) + k
        · have hrg : rngB R k = false := by simp [rngB, p2]
          have hE : dilE R k = 8 := by unfold dilE; rw [hq, hrg]; simp [h0]
          have hD : dilR R k = [] := by unfold dilR; rw [hq, hrg]; simp
          rw [hE, hD]
          generalize lowX R = lx at *
          generalize highX R = hx at *
          generalize fstY R = fy at *
          generalize lstY R = ly at *
          refine pc_of_awp cx (fn := Tryz.f63) (c := _) Tryz.func63 rfl rfl (Nat.le_of_ble_eq_true rfl) ?_
          rw [Tryz.ntmps63]; refine Nav.imp ?_
          refine awp_region cx [] fun K hK => ?_
          simp [push_cast]
          repeat (refine And.intro (by clear hK; intros; first | omega | (simp_all; done) | (simp_all <;> omega)) ?_)
          refine hK _ ?_; clear hK K; refine Nav.imp ?_
          refine awp_region cx [(2, .p (.bool true))] fun K hK => ?_
          simp [push_cast, c0]
          repeat (refine And.intro (by clear hK; intros; first | omega | (simp_all; done) | (simp_all <;> omega)) ?_)
          refine hK _ ?_; clear hK K; refine Nav.imp ?_
          refine awp_cond (b := false) (by simp [push_cast]) (fun hb => ?_) (fun hb => ?_) <;> (refine Nav.imp ?_)
          · simp at hb
          · refine awp_region cx [(1, .p (.tup [.agg (Cell.row ⟨lx, fy⟩), .agg (Cell.row ⟨hx, ly⟩), .bool true]))] fun K hK => ?_
            simp [push_cast, c1, Cell.row]
            repeat (refine And.intro (by clear hK; intros; first | omega | (simp_all; done) | (simp_all <;> omega)) ?_)
            refine hK _ ?_; clear hK K; refine Nav.imp ?_
            refine awp_region cx [] fun K hK => ?_
            simp [push_cast]
            repeat (refine And.intro (by clear hK; intros; first | omega | (simp_all; done) | (simp_all <;> omega)) ?_)
            refine hK _ ?_; clear hK K; refine Nav.imp ?_
            refine awp_cond (b := false) (by simp [push_cast]) (fun hb => ?_) (fun hb => ?_) <;> (refine Nav.imp ?_)
            · simp at hb
            · refine awp_region cx [] fun K hK => ?_
              simp [push_cast, e1, e2, p1, p2, Cell.row]
              repeat (refine And.intro (by clear hK; intros; first | omega | (simp_all; done) | (simp_all <;> omega)) ?_)
              refine hK _ ?_; clear hK K; refine Nav.imp ?_
              refine awp_cond (b := true) (by simp [push_cast, p1, p2]) (fun hb => ?_) (fun hb => ?_) <;> (refine Nav.imp ?_)
              · refine awp_region cx [] fun K hK => ?_
                simp [push_cast]
                repeat (refine And.intro (by clear hK; intros; first | omega | (simp_all; done) | (simp_all <;> omega)) ?_)
                refine hK _ ?_; clear hK K; refine Nav.imp ?_
                simp [push_cast]
              · simp at hb
        · have hrg : rngB R k = true := by simp [rngB, p1, p2]
          have hE : dilE R k = 0 := by unfold dilE; rw [hq, hrg]; simp [h0]
          have hD : dilR R k = dilL R k.toNat := by unfold dilR; rw [hq, hrg]; simp [h0]
          rw [hE, hD]
          clear hE hD hrg hs
          obtain ⟨K, rfl⟩ : ∃ K : Nat, k = K := ⟨k.toNat, by omega⟩
          have hK : K ≤ 64 := by omega
          rw [Int.toNat_natCast]
          have hLd : dilL R K = rowsF (dilRun R K) (ysD (fstY R - K) (dilN R K)) := rfl
          have hFd : ∀ y, dilRun R K y = rowW fU (rowMap (groF K) R) y K := fun y => rfl
          have hFok := fun y => dilRun_ok hv hK y
          have hMok := dilM_ok hv hK
          have hMt := fun i w => @rowMap_take (groF K) R i w
          have hM0 : rowMap (groF K) (R.take 0) = [] := rfl
          have hMe : rowMap (groF K) (R.take R.length) = rowMap (groF K) R := by rw [List.take_length]
          have hN : (dilN R K : Int) = lstY R + K - (fstY R - K) + 1 := by unfold dilN; omega
          have hyl : (ysD (fstY R - K) (dilN R K)).length = dilN R K := by simp [ysD]
          have hyt : ∀ j : Nat, j < dilN R K → (ysD (fstY R - K) (dilN R K))[j]? = some (fstY R - K + j) := fun j hj => by simp [ysD, hj]
          rw [hLd]
          clear hLd
          generalize hys : ysD (fstY R - K) (dilN R K) = ys at *
          have hNl : dilN R K ≤ 100000 := by omega
          generalize dilRun R K = F at *
          have hFr : ∀ y, dilRow F y = if F y = [] then [] else [⟨y, F y⟩] := fun y => rfl
          generalize hMM : rowMap (groF K) R = MM at *
          generalize lowX R = lx at *
          generalize highX R = hx at *
          generalize fstY R = fy at *
          generalize lstY R = ly at *
          generalize dilN R K = n at *
          clear hys
          have u1 := wrap_i64 (n := fy - (K : Int)) (by omega) (by omega)
          have u2 := wrap_i64 (n := ly + (K : Int)) (by omega) (by omega)
          refine pc_of_awp cx (fn := Tryz.f63) (c := _) Tryz.func63 rfl rfl (Nat.le_of_ble_eq_true rfl) ?_
          rw [Tryz.ntmps63]; refine Nav.imp ?_
          refine awp_region cx [] fun K hK => ?_
          simp [push_cast]
          repeat (refine And.intro (by clear hK; intros; first | omega | (simp_all; done) | (simp_all <;> omega)) ?_)
          refine hK _ ?_; clear hK K; refine Nav.imp ?_
          refine awp_region cx [(2, .p (.bool true))] fun K hK => ?_
          simp [push_cast, c0]
          repeat (refine And.intro (by clear hK; intros; first | omega | (simp_all; done) | (simp_all <;> omega)) ?_)
          refine hK _ ?_; clear hK K; refine Nav.imp ?_
          refine awp_cond (b := false) (by simp [push_cast]) (fun hb => ?_) (fun hb => ?_) <;> (refine Nav.imp ?_)
          · simp at hb
          · refine awp_region cx [(1, .p (.tup [.agg (Cell.row ⟨lx, fy⟩), .agg (Cell.row ⟨hx, ly⟩), .bool true]))] fun K hK => ?_
            simp [push_cast, c1, Cell.row]
            repeat (refine And.intro (by clear hK; intros; first | omega | (simp_all; done) | (simp_all <;> omega)) ?_)
            refine hK _ ?_; clear hK K; refine Nav.imp ?_
            refine awp_region cx [] fun K hK => ?_
            simp [push_cast]
            repeat (refine And.intro (by clear hK; intros; first | omega | (simp_all; done) | (simp_all <;> omega)) ?_)
            refine hK _ ?_; clear hK K; refine Nav.imp ?_
            refine awp_cond (b := false) (by simp [push_cast]) (fun hb => ?_) (fun hb => ?_) <;> (refine Nav.imp ?_)
            · simp at hb
            · refine awp_region cx [] fun K hK => ?_
              simp [push_cast, e1, e2, p1, p2, Cell.row]
              repeat (refine And.intro (by clear hK; intros; first | omega | (simp_all; done) | (simp_all <;> omega)) ?_)
              refine hK _ ?_; clear hK K; refine Nav.imp ?_
              refine awp_cond (b := false) (by simp [push_cast, p1, p2]) (fun hb => ?_) (fun hb => ?_) <;> (refine Nav.imp ?_)
              · simp at hb
              · refine awp_region cx [] fun K hK => ?_
                simp [push_cast, mp_nil]
                repeat (refine And.intro (by clear hK; intros; first | omega | (simp_all; done) | (simp_all <;> omega)) ?_)
                refine hK _ ?_; clear hK K; refine Nav.imp ?_
                refine awp_region cx [] fun K hK => ?_
                simp [push_cast]
                repeat (refine And.intro (by clear hK; intros; first | omega | (simp_all; done) | (simp_all <;> omega)) ?_)
                refine hK _ ?_; clear hK K; refine Nav.imp ?_
                refine awp_loop (β := Nat × List (Int × List Run)) (fun b => ⟨99, [(1, .d (.int .i64 K)), (2, .ptr 0 0 0), (4, .ptr 1 0 0), (6, .ptr 2 0 0), (7, .ptr 3 0 0), (9, .ptr 5 0 0), (51, .d (encRows R)), (52, .d (.int .i64 R.length)), (53, .d (.int .i64 b.1))], [(0, some ⟨24, 1, [(regRow R).map .d]⟩), (1, some ⟨24, 1, [[.nl]]⟩), (2, some ⟨62, 2, [(Cell.row ⟨lx, fy⟩).map .d]⟩), (3, some ⟨62, 2, [(Cell.row ⟨hx, ly⟩).map .d]⟩), (4, some ⟨138, mapM, dr (mpRows b.2)⟩), (5, some ⟨140, 2, [[.hm 4, .d (.fn (.func 100) [])]]⟩)], 6⟩) (fun b => b.1 ≤ R.length ∧ b.2 = rowMap (groF K) (R.take b.1)) (fun b => R.length - b.1) (0, []) ?_ ⟨Nat.zero_le _, hM0.symm⟩ ?_
                · refine weak_of [(0, some 0), (1, some 1), (2, some 13), (3, some 14), (4, some 38), (5, some 40)] rfl (by simp [upT, up, upL, push_cast, mp_nil, Cell.row]) (by simp [upH, upR, upL, up, push_cast, mp_nil, Cell.row]) (by simp [namesOk, push_cast]) (by simp [olds])
                · rintro ⟨i, M⟩ ⟨hi, hM⟩
                  simp only at hi hM
                  refine Nav.imp ?_
                  refine awp_region cx [] fun K hK => ?_
                  simp [push_cast]
                  repeat (refine And.intro (by clear hK; intros; first | omega | (simp_all; done) | (simp_all <;> omega)) ?_)
                  refine hK _ ?_; clear hK K; refine Nav.imp ?_
                  refine awp_cond (b := decide ((i : Int) < R.length)) (by simp [push_cast]) (fun hb => ?_) (fun hb => ?_) <;> (refine Nav.imp ?_)
                  · have hlt : i < R.length := by simpa using hb
                    obtain ⟨w, hw⟩ := getq hlt
                    have e0 := wrap_i64 (n := (i : Int) + 1) (by omega) (by omega)
                    have hwl := hR.2 w (List.mem_of_getElem? hw)
                    have c2 := grow_ok w.runs K (validR_at hv hw).2 hwl (by omega)
                    have hsf : groL w.runs K = groF K w.runs := rfl
                    rw [hsf] at c2
                    have hnx := hMt i w hw
                    rw [← hM] at hnx
                    clear hsf
                    generalize groF K w.runs = s at *
                    have hput := putR_mp w.y s M
                    refine awp_region cx [] fun K hK => ?_
                    simp [push_cast, hw, Row.row]
                    repeat (refine And.intro (by clear hK; intros; first | omega | (simp_all; done) | (simp_all <;> omega)) ?_)
                    refine hK _ ?_; clear hK K; refine Nav.imp ?_
                    refine awp_region_draw cx mixed [(7, .p (.tup [encRuns s, .int .i64 0]))] fun K hK => ?_
                    simp [push_cast, c2, hput, Row.row]
                    repeat (refine And.intro (by clear hK; intros; first | omega | (simp_all; done) | (simp_all <;> omega)) ?_)
                    refine hK _ _ (by kernel_rfl) ?_; clear hK K; refine Nav.imp ?_
                    refine awp_region cx [] fun K hK => ?_
                    simp [push_cast, e0]
                    repeat (refine And.intro (by clear hK; intros; first | omega | (simp_all; done) | (simp_all <;> omega)) ?_)
                    refine hK _ ?_; clear hK K; refine Nav.imp ?_
                    refine ⟨(i + 1, putL M w.y s), ⟨hlt, hnx.symm⟩, by simp only; omega, ?_⟩
                    refine weak_of [(0, some 0), (1, some 1), (2, some 2), (3, some 3), (4, some 4), (5, some 5)] rfl (by simp [upT, up, upL, push_cast, Cell.row]) (by simp [upH, upR, upL, up, push_cast, Cell.row]) (by simp [namesOk, push_cast]) (by simp [olds])
                  · have hge : i = R.length := by simp at hb; omega
                    subst hge
                    rw [hMe] at hM
                    subst hM
                    refine awp_freeze 4 (mpRows M) rfl (by simp [push_cast]) fun K hK => ?_
                    simp [push_cast, St.fz, fzT, fzH, fzO, fz, fzL, fzR, fzR_dr, fzR_app, fzR_set, fzL_map]
                    refine hK _ ?_; clear hK K; refine Nav.imp ?_
                    refine awp_region cx [] fun K hK => ?_
                    simp [push_cast]
                    repeat (refine And.intro (by clear hK; intros; first | omega | (simp_all; done) | (simp_all <;> omega)) ?_)
                    refine hK _ ?_; clear hK K; refine Nav.imp ?_
                    refine awp_region cx [] fun K hK => ?_
                    simp [push_cast, u1, Cell.row]
                    repeat (refine And.intro (by clear hK; intros; first | omega | (simp_all; done) | (simp_all <;> omega)) ?_)
                    refine hK _ ?_; clear hK K; refine Nav.imp ?_
                    refine awp_loop (β := Nat × List Row) (fun s => ⟨99, [(1, .d (.int .i64 K)), (4, .ptr 1 0 0), (7, .ptr 3 0 0), (9, .ptr 5 0 0), (12, .ptr 6 0 0), (13, .d (.int .i64 (fy - K + s.1)))], [(1, some ⟨24, 1, [[.nl]]⟩), (3, some ⟨62, 2, [(Cell.row ⟨hx, ly⟩).map .d]⟩), (5, some ⟨140, 2, [[.d (.mp (mpRows M)), .d (.fn (.func 100) [])]]⟩), (6, some ⟨24, 1, [[.hs 7 0 s.2.length]]⟩), (7, some ⟨52, 2, dr (s.2.map Row.row)⟩)], 8⟩) (fun s => s.1 ≤ n ∧ s.2 = rowsF F (ys.take s.1)) (fun s => n - s.1) (0, []) ?_ ⟨Nat.zero_le _, by simp [rowsF]⟩ ?_
                    · refine weak_of [(1, some 1), (3, some 3), (5, some 5), (6, some 7), (7, none)] rfl (by simp [upT, up, upL, push_cast, Cell.row]) (by simp [upH, upR, upL, up, push_cast, Cell.row]) (by simp [namesOk, push_cast]) (by simp [olds])
                    · rintro ⟨j, Z⟩ ⟨hj, hZ⟩
                      simp only at hj hZ
                      refine Nav.imp ?_
                      refine awp_region cx [] fun K hK => ?_
                      simp [push_cast, u2, Cell.row]
                      repeat (refine And.intro (by clear hK; intros; first | omega | (simp_all; done) | (simp_all <;> omega)) ?_)
                      refine hK _ ?_; clear hK K; refine Nav.imp ?_
                      by_cases hlt : j < n
                      · have q1 : fy - (K : Int) + j ≤ ly + K := by omega
                        have e0 := wrap_i64 (n := fy - (K : Int) + j + 1) (by omega) (by omega)
                        have c3 := wrow_ok fU rfl 100 (fun a b h1 h2 h3 h4 => union_ok a b h1 h2 h3 h4) M hMok (fy - K + j) K (by omega) hK
                        rw [← hFd] at c3
                        have hul := (hFok (fy - K + j)).len
                        have hnx : rowsF F (ys.take (j + 1)) = Z ++ dilRow F (fy - K + j) := by rw [hZ]; exact flat_take _ (hyt j hlt)
                        rw [hFr] at hnx
                        have hZl : Z.length ≤ 1000000 := by
                          have := flat_one_len (dilRow_len F) (ys.take j)
                          have h6 : Z.length = ((ys.take j).flatMap (dilRow F)).length := by rw [hZ]; rfl
                          have h7 : (ys.take j).length ≤ j := by simp; omega
                          omega
                        have hZ32 : (Z.length + 1) * 32 ≤ 140737488355328 := by omega
                        have hu16 : (0 + (F (fy - K + j)).length) * 16 ≤ 140737488355328 := by omega
                        generalize F (fy - K + j) = u at *
                        refine awp_cond (b := true) (by simp [push_cast, q1]) (fun hb => ?_) (fun hb => ?_) <;> (refine Nav.imp ?_)
                        · refine awp_region cx [(3, .p (encRuns u))] fun K hK => ?_
                          simp [push_cast, c3]
                          repeat (refine And.intro (by clear hK; intros; first | omega | (simp_all; done) | (simp_all <;> omega)) ?_)
                          refine hK _ ?_; clear hK K; refine Nav.imp ?_
                          refine awp_region cx [] fun K hK => ?_
                          simp [push_cast]
                          repeat (refine And.intro (by clear hK; intros; first | omega | (simp_all; done) | (simp_all <;> omega)) ?_)
                          refine hK _ ?_; clear hK K; refine Nav.imp ?_
                          cases hu : u with
                          | nil =>
                            rw [hu] at hnx
                            simp only [if_true, List.append_nil] at hnx
                            refine awp_cond (b := false) (by simp [push_cast, hu]) (fun hb => ?_) (fun hb => ?_) <;> (refine Nav.imp ?_)
                            · simp at hb
                            · refine awp_region cx [] fun K hK => ?_
                              simp [push_cast, e0]
                              repeat (refine And.intro (by clear hK; intros; first | omega | (simp_all; done) | (simp_all <;> omega)) ?_)
                              refine hK _ ?_; clear hK K; refine Nav.imp ?_
                              refine ⟨(j + 1, Z), ⟨hlt, hnx.symm⟩, by simp only; omega, ?_⟩
                              refine weak_of [(1, some 1), (3, some 3), (5, some 5), (6, some 6), (7, some 7)] rfl (by simp [upT, up, upL, push_cast, Cell.row, Int.add_assoc]) (by simp [upH, upR, upL, up, push_cast, Cell.row, Int.add_assoc]) (by simp [namesOk, push_cast]) (by simp [olds])
                          | cons q u' =>
                            have hne : ¬ u = [] := by rw [hu]; simp
                            have hpos : 0 < u.length := by rw [hu]; simp
                            rw [if_neg hne] at hnx
                            rw [← hu]
                            clear hu
                            refine awp_cond (b := true) (by simp [push_cast, hpos]) (fun hb => ?_) (fun hb => ?_) <;> (refine Nav.imp ?_)
                            · refine awp_region_draw cx mixed [] fun K hK => ?_
                              simp [push_cast, hZ32, hu16]
                              repeat (refine And.intro (by clear hK; intros; first | omega | (simp_all; done) | (simp_all <;> omega)) ?_)
                              refine hK _ _ (by kernel_rfl) ?_; clear hK K; refine Nav.imp ?_
                              refine awp_freeze 27 (u.map Run.row) rfl (by simp [push_cast]) fun K hK => ?_
                              simp [push_cast, St.fz, fzT, fzH, fzO, fz, fzL, fzR, fzR_dr, fzR_app, fzR_set, fzL_map]
                              refine hK _ ?_; clear hK K; refine Nav.imp ?_
                              refine awp_region cx [] fun K hK => ?_
                              simp [push_cast, e0]
                              repeat (refine And.intro (by clear hK; intros; first | omega | (simp_all; done) | (simp_all <;> omega)) ?_)
                              refine hK _ ?_; clear hK K; refine Nav.imp ?_
                              refine ⟨(j + 1, Z ++ [⟨fy - K + j, u⟩]), ⟨hlt, hnx.symm⟩, by simp only; omega, ?_⟩
                              refine weak_of [(1, some 1), (3, some 3), (5, some 5), (6, some 6), (7, some 30)] rfl (by simp [upT, up, upL, push_cast, Row.row, Cell.row, Int.add_assoc]) (by simp [upH, upR, upL, up, push_cast, Row.row, Cell.row, Int.add_assoc]) (by simp [namesOk, push_cast]) (by simp [olds])
                            · simp at hb
                        · simp at hb
                      · have hje : j = n := by omega
                        subst hje
                        have q1 : ¬ fy - (K : Int) + j ≤ ly + K := by omega
                        rw [← hyl, List.take_length] at hZ
                        rw [← hZ]
                        have ht2 : List.take Z.length (Z.map Row.row) = Z.map Row.row := List.take_of_length_le (by simp)
                        refine awp_cond (b := false) (by simp [push_cast, q1]) (fun hb => ?_) (fun hb => ?_) <;> (refine Nav.imp ?_)
                        · simp at hb
                        · refine awp_freeze 7 (Z.map Row.row) rfl (by simp [push_cast, Row.row, ht2]) fun K hK => ?_
                          simp [push_cast, St.fz, fzT, fzH, fzO, fz, fzL, fzR, fzR_dr, fzR_app, fzR_set, fzL_map, Row.row, ht2]
                          refine hK _ ?_; clear hK K; refine Nav.imp ?_
                          refine awp_region cx [] fun K hK => ?_
                          simp [push_cast]
                          repeat (refine And.intro (by clear hK; intros; first | omega | (simp_all; done) | (simp_all <;> omega)) ?_)
                          refine hK _ ?_; clear hK K; refine Nav.imp ?_
                          simp [push_cast]
    · have hs : some? R = false := by simp [some?, h0]
      have eR : R = [] := List.eq_nil_of_length_eq_zero (by omega)
      have hE : dilE R k = 0 := by unfold dilE; rw [hq]; simp [h0]
      have hD : dilR R k = [] := by unfold dilR; rw [hq]; simp [h0]
      have hbx : boxD R = .tup [.agg (Cell.row ⟨0, 0⟩), .agg (Cell.row ⟨0, 0⟩), .bool false] := by simp [boxD, boxLo, boxHi, hs]
      rw [hbx] at c1
      rw [hE, hD]
      refine pc_of_awp cx (fn := Tryz.f63) (c := _) Tryz.func63 rfl rfl (Nat.le_of_ble_eq_true rfl) ?_
      rw [Tryz.ntmps63]; refine Nav.imp ?_
      refine awp_region cx [] fun K hK => ?_
      simp [push_cast]
      repeat (refine And.intro (by clear hK; intros; first | omega | (simp_all; done) | (simp_all <;> omega)) ?_)
      refine hK _ ?_; clear hK K; refine Nav.imp ?_
      refine awp_region cx [(2, .p (.bool true))] fun K hK => ?_
      simp [push_cast, c0]
      repeat (refine And.intro (by clear hK; intros; first | omega | (simp_all; done) | (simp_all <;> omega)) ?_)
      refine hK _ ?_; clear hK K; refine Nav.imp ?_
      refine awp_cond (b := false) (by simp [push_cast]) (fun hb => ?_) (fun hb => ?_) <;> (refine Nav.imp ?_)
      · simp at hb
      · refine awp_region cx [(1, .p (.tup [.agg (Cell.row ⟨0, 0⟩), .agg (Cell.row ⟨0, 0⟩), .bool false]))] fun K hK => ?_
        simp [push_cast, c1, Cell.row]
        repeat (refine And.intro (by clear hK; intros; first | omega | (simp_all; done) | (simp_all <;> omega)) ?_)
        refine hK _ ?_; clear hK K; refine Nav.imp ?_
        refine awp_region cx [] fun K hK => ?_
        simp [push_cast]
        repeat (refine And.intro (by clear hK; intros; first | omega | (simp_all; done) | (simp_all <;> omega)) ?_)
        refine hK _ ?_; clear hK K; refine Nav.imp ?_
        refine awp_cond (b := true) (by simp [push_cast]) (fun hb => ?_) (fun hb => ?_) <;> (refine Nav.imp ?_)
        · refine awp_region cx [] fun K hK => ?_
          simp [push_cast]
          repeat (refine And.intro (by clear hK; intros; first | omega | (simp_all; done) | (simp_all <;> omega)) ?_)
          refine hK _ ?_; clear hK K; refine Nav.imp ?_
          simp [push_cast]
        · simp at hb
end Go.Proofs.YtagakfaiimaifaaGreat

set_option linter.unusedVariables false
set_option linter.unusedSimpArgs false
set_option maxRecDepth 100000
namespace Go.Proofs.YtagakfaiimaifaaGreat
open Go.Abs

/-! The set operations, cell by cell. -/
section
variable {a b : List Row} (ha : validR a = true) (hb : validR b = true) (c : Cell)
include ha hb
theorem opU_iff : c ∈ regCells (opR fU a b) ↔ c ∈ regCells a ∨ c ∈ regCells b := by
  have h := (opR_facts (f := fU) rfl ha hb).2 c
  have e : ∀ x y, fU x y = (x || y) := fun _ _ => rfl
  rw [e] at h
  rw [← decide_eq_true_iff (p := c ∈ regCells (opR fU a b)), h]
  simp
theorem opI_iff : c ∈ regCells (opR fI a b) ↔ c ∈ regCells a ∧ c ∈ regCells b := by
  have h := (opR_facts (f := fI) rfl ha hb).2 c
  have e : ∀ x y, fI x y = (x && y) := fun _ _ => rfl
  rw [e] at h
  rw [← decide_eq_true_iff (p := c ∈ regCells (opR fI a b)), h]
  simp
theorem opD_iff : c ∈ regCells (opR fD a b) ↔ c ∈ regCells a ∧ c ∉ regCells b := by
  have h := (opR_facts (f := fD) rfl ha hb).2 c
  have e : ∀ x y, fD x y = (x && !y) := fun _ _ => rfl
  rw [e] at h
  rw [← decide_eq_true_iff (p := c ∈ regCells (opR fD a b)), h]
  simp
end
theorem valid_empty {R : List Row} (hv : validR R = true) (h : ∀ c, c ∉ regCells R) : R = [] := region_uniq hv rfl fun c => ⟨fun hc => absurd hc (h c), fun hc => by simp [regCells] at hc⟩
end Go.Proofs.YtagakfaiimaifaaGreat

set_option linter.unusedVariables false
set_option linter.unusedSimpArgs false
set_option maxRecDepth 100000
namespace Go.Proofs.YtagakfaiimaifaaGreat
open Go.Abs

/-! The search for a row. -/
def LbAt (R : List Row) (y : Int) (i : Nat) : Prop := i ≤ R.length ∧ (∀ j w, R[j]? = some w → (j < i ↔ w.y < y))
theorem lb_exists : ∀ {R : List Row}, (R.Pairwise fun a b => a.y < b.y) → ∀ y, ∃ i, LbAt R y i
  | [], _, y => ⟨0, by simp, fun j w h => by simp at h⟩
  | w :: R, h, y => by
    have h1 := List.pairwise_cons.1 h
    by_cases e : w.y < y
    · obtain ⟨i, hi, hp⟩ := lb_exists h1.2 y
      refine ⟨i + 1, by simp; exact hi, fun j v hv => ?_⟩
      cases j with
      | zero => simp at hv; subst hv; simp [e]
      | succ j => simp at hv; have := hp j v hv; omega
    · refine ⟨0, by simp, fun j v hv => ?_⟩
      cases j with
      | zero => simp at hv; subst hv; simp; omega
      | succ j => simp at hv; have := h1.1 v (List.mem_of_getElem? hv); omega

theorem rowcmp_ok (w : Row) (y : Int) : PC Tryz.prog 152 [.agg w.row, .int .i64 y] (.p (.int .i64 (cmpI w.y y))) := by
  have c1 := compare_ok w.y y
  obtain ⟨wy, wr⟩ := w
  simp only at c1
  generalize cmpI wy y = z at *
  refine pc_of_awp cx (fn := Tryz.f152) (c := _) Tryz.func152 rfl rfl (Nat.le_of_ble_eq_true rfl) ?_
  rw [Tryz.ntmps152]; refine Nav.imp ?_
  refine awp_region cx [] fun K hK => ?_
  simp [push_cast, Row.row]
  repeat (refine And.intro (by clear hK; intros; first | omega | (simp_all; done) | (simp_all <;> omega)) ?_)
  refine hK _ ?_; clear hK K; refine Nav.imp ?_
  refine awp_region cx [(3, .p (.int .i64 z))] fun K hK => ?_
  simp [push_cast, c1, Row.row]
  repeat (refine And.intro (by clear hK; intros; first | omega | (simp_all; done) | (simp_all <;> omega)) ?_)
  refine hK _ ?_; clear hK K; refine Nav.imp ?_
  simp [push_cast]

theorem cmpI_lt {a b : Int} : (cmpI a b < 0) ↔ a < b := by unfold cmpI; split <;> (try split) <;> omega
theorem cmpI_eq {a b : Int} : (cmpI a b = 0) ↔ a = b := by unfold cmpI; split <;> (try split) <;> omega

set_option maxHeartbeats 1000000 in
theorem bsearch_ok (R : List Row) (y : Int) (i : Nat) (hl : R.length ≤ 1000000) (hi : LbAt R y i) : PC Tryz.prog 151 [encRows R, .int .i64 y, .fn (.func 152) []] (.p (.tup [.int .i64 i, .bool (match R[i]? with | some w => decide (w.y = y) | none => false)])) := by
  obtain ⟨hil, hip⟩ := hi
  refine pc_of_awp cx (fn := Tryz.f151) (c := _) Tryz.func151 rfl rfl (Nat.le_of_ble_eq_true rfl) ?_
  rw [Tryz.ntmps151]; refine Nav.imp ?_
  refine awp_region cx [] fun K hK => ?_
  simp [push_cast]
  repeat (refine And.intro (by clear hK; intros; first | omega | (simp_all; done) | (simp_all <;> omega)) ?_)
  refine hK _ ?_; clear hK K; refine Nav.imp ?_
  refine awp_region cx [] fun K hK => ?_
  simp [push_cast]
  repeat (refine And.intro (by clear hK; intros; first | omega | (simp_all; done) | (simp_all <;> omega)) ?_)
  refine hK _ ?_; clear hK K; refine Nav.imp ?_
  refine awp_region cx [] fun K hK => ?_
  simp [push_cast]
  repeat (refine And.intro (by clear hK; intros; first | omega | (simp_all; done) | (simp_all <;> omega)) ?_)
  refine hK _ ?_; clear hK K; refine Nav.imp ?_
  refine awp_loop (β := Nat × Nat) (fun b => ⟨49, [(0, .d (encRows R)), (1, .d (.int .i64 y)), (2, .d (.fn (.func 152) [])), (8, .d (.int .i64 R.length)), (9, .d (.int .i64 b.1)), (10, .d (.int .i64 b.2))], [], 0⟩) (fun b => b.1 ≤ i ∧ i ≤ b.2 ∧ b.2 ≤ R.length) (fun b => b.2 - b.1) (0, R.length) ?_ ⟨Nat.zero_le _, hil, Nat.le_refl _⟩ ?_
  · refine weak_of [] rfl (by simp [upT, up, upL, push_cast]) (by simp [upH, upR, upL, up, push_cast]) (by simp [namesOk, push_cast]) (by simp [olds])
  · rintro ⟨lo, hi⟩ ⟨h1, h2, h3⟩
    simp only at h1 h2 h3
    refine Nav.imp ?_
    refine awp_region cx [] fun K hK => ?_
    simp [push_cast]
    repeat (refine And.intro (by clear hK; intros; first | omega | (simp_all; done) | (simp_all <;> omega)) ?_)
    refine hK _ ?_; clear hK K; refine Nav.imp ?_
    refine awp_cond (b := decide (lo < hi)) (by simp [push_cast]) (fun hb => ?_) (fun hb => ?_) <;> (refine Nav.imp ?_)
    · have hlh : lo < hi := by simpa using hb
      have e1 := wrap_i64 (n := (lo : Int) + hi) (by omega) (by omega)
      have e2 : IntKind.u64.wrap ((lo : Int) + hi) = (lo : Int) + hi := by rw [IntKind.wrap_u64]; omega
      obtain ⟨h, hh⟩ : ∃ h : Nat, h = (lo + hi) / 2 := ⟨_, rfl⟩
      have e3 : ((lo : Int) + hi).fdiv (2 ^ min 1 IntKind.u64.bits) = h := by
        have : (2 : Int) ^ min 1 IntKind.u64.bits = 2 := by decide
        rw [this, Int.fdiv_eq_ediv_of_nonneg _ (by omega)]; omega
      have e4 := wrap_i64 (n := (h : Int)) (by omega) (by omega)
      have hhl : h < R.length := by omega
      obtain ⟨w, hw⟩ := getq hhl
      have hip' := hip h w hw
      have c1 := rowcmp_ok w y
      have hz : (decide (cmpI w.y y < 0)) = decide (w.y < y) := by rw [Bool.eq_iff_iff]; simp [cmpI_lt]
      have e5 := wrap_i64 (n := (h : Int) + 1) (by omega) (by omega)
      generalize cmpI w.y y = z at *
      refine awp_region cx [] fun K hK => ?_
      simp [push_cast, e1, e2, e3, e4]
      repeat (refine And.intro (by clear hK; intros; first | omega | (simp_all; done) | (simp_all <;> omega)) ?_)
      refine hK _ ?_; clear hK K; refine Nav.imp ?_
      refine awp_region cx [(6, .p (.int .i64 z))] fun K hK => ?_
      simp [push_cast, hw, c1, hz]
      repeat (refine And.intro (by clear hK; intros; first | omega | (simp_all; done) | (simp_all <;> omega)) ?_)
      refine hK _ ?_; clear hK K; refine Nav.imp ?_
      refine awp_cond (b := decide (w.y < y)) (by simp [push_cast]) (fun hb => ?_) (fun hb => ?_) <;> (refine Nav.imp ?_)
      · have hb : w.y < y := by simpa using hb
        refine awp_region cx [] fun K hK => ?_
        simp [push_cast, e5]
        repeat (refine And.intro (by clear hK; intros; first | omega | (simp_all; done) | (simp_all <;> omega)) ?_)
        refine hK _ ?_; clear hK K; refine Nav.imp ?_
        refine ⟨(h + 1, hi), ⟨by simp only; omega, h2, h3⟩, by simp only; omega, ?_⟩
        refine weak_of [] rfl (by simp [upT, up, upL, push_cast]) (by simp [upH, upR, upL, up, push_cast]) (by simp [namesOk, push_cast]) (by simp [olds])
      · have hb : ¬ w.y < y := by simpa using hb
        refine awp_region cx [] fun K hK => ?_
        simp [push_cast]
        repeat (refine And.intro (by clear hK; intros; first | omega | (simp_all; done) | (simp_all <;> omega)) ?_)
        refine hK _ ?_; clear hK K; refine Nav.imp ?_
        refine ⟨(lo, h), ⟨h1, by simp only; omega, by simp only; omega⟩, by simp only; omega, ?_⟩
        refine weak_of [] rfl (by simp [upT, up, upL, push_cast]) (by simp [upH, upR, upL, up, push_cast]) (by simp [namesOk, push_cast]) (by simp [olds])
    · have hlh : ¬ lo < hi := by simpa using hb
      have : lo = i := by omega
      subst this
      cases hw : R[lo]? with
      | none =>
        have hge : ¬ lo < R.length := fun h => by rw [List.getElem?_eq_getElem h] at hw; cases hw
        have hge' : ¬ (lo : Int) < R.length := by omega
        refine awp_region cx [(11, .skip)] fun K hK => ?_
        simp [push_cast, hw, hge, hge']
        repeat (refine And.intro (by clear hK; intros; first | omega | (simp_all; done) | (simp_all <;> omega)) ?_)
        refine hK _ ?_; clear hK K; refine Nav.imp ?_
        simp [push_cast, hw]
      | some w =>
        have hlt := (List.getElem?_eq_some_iff.1 hw).1
        have hlt' : (lo : Int) < R.length := by omega
        have c1 := rowcmp_ok w y
        have hz : (cmpI w.y y == 0) = decide (w.y = y) := by rw [Bool.eq_iff_iff]; simp [cmpI_eq]
        generalize cmpI w.y y = z at *
        refine awp_region cx [(11, .p (.int .i64 z))] fun K hK => ?_
        simp [push_cast, hw, c1, hlt', Row.row, hz]
        repeat (refine And.intro (by clear hK; intros; first | omega | (simp_all; done) | (simp_all <;> omega)) ?_)
        refine hK _ ?_; clear hK K; refine Nav.imp ?_
        simp [push_cast, hlt, hz]

theorem row_ok (R : List Row) (y : Int) (hR : smallR R) (hv : validR R = true) : PC Tryz.prog 105 [.agg (regRow R), .int .i64 y] (.p (encRuns (rowOf R y))) := by
  obtain ⟨i, hi⟩ := lb_exists (rows_pw hv) y
  have c1 := bsearch_ok R y i hR.1 hi
  have hl := hR.1
  cases hw : R[i]? with
  | none =>
    rw [hw] at c1
    simp only at c1
    have hn : rowOf R y = [] := by
      refine rowOf_none fun w hwm hy => ?_
      obtain ⟨j, hj⟩ := List.mem_iff_getElem?.1 hwm
      have h1 := (List.getElem?_eq_some_iff.1 hj).1
      have h2 : ¬ i < R.length := fun h => by rw [List.getElem?_eq_getElem h] at hw; cases hw
      have := (hi.2 j w hj).1 (by omega)
      omega
    rw [hn]
    refine pc_of_awp cx (fn := Tryz.f105) (c := _) Tryz.func105 rfl rfl (Nat.le_of_ble_eq_true rfl) ?_
    rw [Tryz.ntmps105]; refine Nav.imp ?_
    refine awp_region cx [] fun K hK => ?_
    simp [push_cast]
    repeat (refine And.intro (by clear hK; intros; first | omega | (simp_all; done) | (simp_all <;> omega)) ?_)
    refine hK _ ?_; clear hK K; refine Nav.imp ?_
    refine awp_region cx [(3, .p (.tup [.int .i64 i, .bool false]))] fun K hK => ?_
    simp [push_cast, c1]
    repeat (refine And.intro (by clear hK; intros; first | omega | (simp_all; done) | (simp_all <;> omega)) ?_)
    refine hK _ ?_; clear hK K; refine Nav.imp ?_
    refine awp_region cx [] fun K hK => ?_
    simp [push_cast]
    repeat (refine And.intro (by clear hK; intros; first | omega | (simp_all; done) | (simp_all <;> omega)) ?_)
    refine hK _ ?_; clear hK K; refine Nav.imp ?_
    refine awp_cond (b := true) (by simp [push_cast]) (fun hb => ?_) (fun hb => ?_) <;> (refine Nav.imp ?_)
    · refine awp_region cx [] fun K hK => ?_
      simp [push_cast]
      repeat (refine And.intro (by clear hK; intros; first | omega | (simp_all; done) | (simp_all <;> omega)) ?_)
      refine hK _ ?_; clear hK K; refine Nav.imp ?_
      simp [push_cast]
    · simp at hb
  | some w =>
    rw [hw] at c1
    simp only at c1
    have hwm := List.mem_of_getElem? hw
    by_cases e : w.y = y
    · rw [decide_eq_true e] at c1
      have hn : rowOf R y = w.runs := by rw [← e]; exact rowOf_mem hv hwm
      rw [hn]
      obtain ⟨wy, wr⟩ := w
      refine pc_of_awp cx (fn := Tryz.f105) (c := _) Tryz.func105 rfl rfl (Nat.le_of_ble_eq_true rfl) ?_
      rw [Tryz.ntmps105]; refine Nav.imp ?_
      refine awp_region cx [] fun K hK => ?_
      simp [push_cast]
      repeat (refine And.intro (by clear hK; intros; first | omega | (simp_all; done) | (simp_all <;> omega)) ?_)
      refine hK _ ?_; clear hK K; refine Nav.imp ?_
      refine awp_region cx [(3, .p (.tup [.int .i64 i, .bool true]))] fun K hK => ?_
      simp [push_cast, c1]
      repeat (refine And.intro (by clear hK; intros; first | omega | (simp_all; done) | (simp_all <;> omega)) ?_)
      refine hK _ ?_; clear hK K; refine Nav.imp ?_
      refine awp_region cx [] fun K hK => ?_
      simp [push_cast]
      repeat (refine And.intro (by clear hK; intros; first | omega | (simp_all; done) | (simp_all <;> omega)) ?_)
      refine hK _ ?_; clear hK K; refine Nav.imp ?_
      refine awp_cond (b := false) (by simp [push_cast]) (fun hb => ?_) (fun hb => ?_) <;> (refine Nav.imp ?_)
      · simp at hb
      · refine awp_region cx [] fun K hK => ?_
        simp [push_cast, hw, Row.row]
        repeat (refine And.intro (by clear hK; intros; first | omega | (simp_all; done) | (simp_all <;> omega)) ?_)
        refine hK _ ?_; clear hK K; refine Nav.imp ?_
        simp [push_cast]
    · rw [decide_eq_false e] at c1
      have hn : rowOf R y = [] := by
        refine rowOf_none fun v hvm hy => ?_
        obtain ⟨j, hj⟩ := List.mem_iff_getElem?.1 hvm
        have h1 := hi.2 j v hj
        have h2 := hi.2 i w hw
        rcases Nat.lt_trichotomy j i with h | h | h
        · have := h1.1 h; omega
        · subst h; rw [hw] at hj; cases hj; exact e hy
        · have := rows_lt hv j i v w h hj hw; omega
      rw [hn]
      refine pc_of_awp cx (fn := Tryz.f105) (c := _) Tryz.func105 rfl rfl (Nat.le_of_ble_eq_true rfl) ?_
      rw [Tryz.ntmps105]; refine Nav.imp ?_
      refine awp_region cx [] fun K hK => ?_
      simp [push_cast]
      repeat (refine And.intro (by clear hK; intros; first | omega | (simp_all; done) | (simp_all <;> omega)) ?_)
      refine hK _ ?_; clear hK K; refine Nav.imp ?_
      refine awp_region cx [(3, .p (.tup [.int .i64 i, .bool false]))] fun K hK => ?_
      simp [push_cast, c1]
      repeat (refine And.intro (by clear hK; intros; first | omega | (simp_all; done) | (simp_all <;> omega)) ?_)
      refine hK _ ?_; clear hK K; refine Nav.imp ?_
      refine awp_region cx [] fun K hK => ?_
      simp [push_cast]
      repeat (refine And.intro (by clear hK; intros; first | omega | (simp_all; done) | (simp_all <;> omega)) ?_)
      refine hK _ ?_; clear hK K; refine Nav.imp ?_
      refine awp_cond (b := true) (by simp [push_cast]) (fun hb => ?_) (fun hb => ?_) <;> (refine Nav.imp ?_)
      · refine awp_region cx [] fun K hK => ?_
        simp [push_cast]
        repeat (refine And.intro (by clear hK; intros; first | omega | (simp_all; done) | (simp_all <;> omega)) ?_)
        refine hK _ ?_; clear hK K; refine Nav.imp ?_
        simp [push_cast]
      · simp at hb
end Go.Proofs.YtagakfaiimaifaaGreat

set_option linter.unusedVariables false
set_option linter.unusedSimpArgs false
namespace Go.Abs
open Go.Shelf Go.RowKit Go.Lib Go.Sort Go.Proofs

abbrev iRow (x : Int) : List D := [.int .i64 x]
abbrev encI (x : Int) : Value := .int .i64 x

theorem heap_rowI (w : World) (blk n : Nat) (d : Array Int) (os : Array Obj) {b : Nat} (hb : b < w.heap.size) (hne : b ≠ blk) : (grow (putRow encI (Go.Sort.ahead w n) blk 0 d) os).heap[b]? = w.heap[b]? := by
  rw [heap_grow_old _ _ (by simpa [putRow, mapBlock, heap_ahead] using hb)]
  simp only [putRow, mapBlock, heap_ahead]
  rw [Array.getElem?_modify, if_neg (fun h => hne h.symm)]
theorem heap_rowI_blk (w : World) (blk n : Nat) (d : Array Int) (os : Array Obj) {cur : Array Value} {e : TypeId} {fr : Nat × Nat} (h : w.heap[blk]? = some (.cells cur e fr)) : (grow (putRow encI (Go.Sort.ahead w n) blk 0 d) os).heap[blk]? = some (.cells (Go.Sort.putCells encI 0 d cur) e fr) := by
  have hb : blk < w.heap.size := (Array.getElem?_eq_some_iff.1 h).1
  rw [heap_grow_old _ _ (by simpa [putRow, mapBlock, heap_ahead] using hb)]
  simp only [putRow, mapBlock, heap_ahead]
  rw [Array.getElem?_modify, if_pos rfl, h]
  rfl
theorem size_rowI (w : World) (blk n : Nat) (d : Array Int) (os : Array Obj) : w.heap.size ≤ (grow (putRow encI (Go.Sort.ahead w n) blk 0 d) os).heap.size := by
  rw [size_grow]; simp [putRow, mapBlock, heap_ahead]
theorem drawn_rowI (w : World) (blk n : Nat) (d : Array Int) (os : Array Obj) : w.drawn ≤ (grow (putRow encI (Go.Sort.ahead w n) blk 0 d) os).drawn := by
  simp [grow, putRow, mapBlock, ahead]

/-- A function that writes numbers into the row that it is handed. -/
theorem int_px {P : Program} {f : FuncId} (hent : Enters P f) (e : TypeId) {zs ys : List Int} (hn : 0 < zs.length) (hlen : ys.length = zs.length) (rv : Nat → Nat → Value) (rA : AV)
    (hrep : ∀ (g : G) (w : World) (L : Loc), g.used 0 → g.loc 0 = some L → (L.virt = false ∧ L.map = false) → zs.length ≤ L.cap → RepA g w rA (rv L.blk L.cap))
    (hc : ∀ (blk cap : Nat) (w : World), Holds encI w blk 0 zs.toArray → blk < w.heap.size → zs.length ≤ cap → Calls P f #[.slice (some ⟨blk, 0, none⟩) zs.length cap] w fun e w' => e = .returned (rv blk cap) ∧ ∃ n os, w' = grow (putRow encI (Go.Sort.ahead w n) blk 0 ys.toArray) os) :
    PX P f [.hs 0 0 zs.length] [(0, ⟨e, 1, dr (zs.map iRow)⟩)] [(0, 0)] [(0, ⟨e, 1, dr (ys.map iRow)⟩)] rA := by
  refine ⟨hent, fun g w vs h hu hvs => ?_⟩
  simp only [RepAs] at hvs
  obtain ⟨v0, _, rfl, h0, rfl⟩ := hvs
  obtain ⟨L0, hL, hok⟩ := h.own 0 ⟨e, 1, dr (zs.map iRow)⟩ (by simp [objL, find])
  have hkm : L0.m = 1 := hok.m
  have hlenr : (dr (zs.map iRow)).length = zs.length := by simp [dr]
  have hvirt : L0.virt = false := by
    cases hv : L0.virt with
    | false => rfl
    | true =>
      have h2 : (dr (zs.map iRow)).length = 0 := by rw [show dr (zs.map iRow) = [] from hok.virt hv]; rfl
      omega
  simp only [RepA] at h0
  have hflat : L0.virt = false ∧ L0.map = false := by
    rcases h0.2 L0 hL with ⟨hv, _⟩ | ⟨hv, _⟩
    · rw [hvirt] at hv; cases hv
    · exact hv
  have hvm := hflat.2
  obtain ⟨cur, hblk, hcs, hcap, hrows⟩ := hok.cells hflat
  have e0 : v0 = .slice (some ⟨L0.blk, 0, none⟩) zs.length L0.cap := by
    rcases h0.2 L0 hL with ⟨hv, _⟩ | ⟨_, _, hv⟩
    · rw [hvirt] at hv; cases hv
    · rw [hv]; simp
  have hcapl : zs.length ≤ L0.cap := by have := hok.len hvm; rw [hlenr] at this; exact this
  have hblt : L0.blk < w.heap.size := (Array.getElem?_eq_some_iff.1 hblk).1
  have hcsz : cur.size = L0.cap := by rw [hcs, hkm]; simp
  have hget : ∀ i (hi : i < zs.length), cur[i]? = some (encI zs[i]) := fun i hi => by
    have hrow := hrows i ((iRow zs[i]).map AV.d) (by simp [dr, hi])
    obtain ⟨u, hu1, hu2, hu3⟩ := hrow.2 0 (.d (.int .i64 zs[i])) (by simp)
    rw [hkm] at hu1
    simp only [RepA, RepD] at hu3
    rw [hu3] at hu1
    simpa using hu1
  have hH : Holds encI w L0.blk 0 zs.toArray := by
    intro j hj
    have hj' : j < zs.length := by simpa using hj
    have h1 := hget j hj'
    refine ⟨?_, ?_⟩
    · simp only [World.cell?, hblk, Nat.zero_add, Option.isSome_none, Bool.false_eq_true, if_false]
      rw [h1, getElem!_pos zs.toArray j hj]
      simp
    · simp only [World.frozen?, hblk]
      simp
  rw [e0]
  refine (hc L0.blk L0.cap w hH hblt hcapl).mono ?_
  rintro ex w' ⟨rfl, n, os, rfl⟩
  have hbs := heap_rowI_blk w L0.blk n ys.toArray os hblk
  obtain ⟨g', h1, h2, h3, h4, h5, h6⟩ := HRel.write h hL hflat (id' := 0) (.inl rfl) ⟨e, 1, dr (ys.map iRow)⟩ (Go.Sort.putCells encI 0 ys.toArray cur) (w' := grow (putRow encI (Go.Sort.ahead w n) L0.blk 0 ys.toArray) os) (cap := L0.cap) (B := L0.blk) rfl ⟨rfl, drawn_rowI _ _ _ _ _⟩ rfl (size_rowI _ _ _ _ _)
    (fun b hb hne => heap_rowI _ _ _ _ _ hb hne) (.inl rfl) hbs hkm.symm hok.pos (by simp only [Go.Sort.putCells, Array.size_mapIdx]; rw [hcs]) (by simp [dr]; omega) hcap (fun _ => ⟨rfl, rfl⟩) (by
      intro i row hi
      have hil : i < ys.length := by have := (List.getElem?_eq_some_iff.1 hi).1; simpa [dr] using this
      have hrow : row = (iRow ys[i]).map AV.d := by
        have : (dr (ys.map iRow))[i]? = some ((iRow ys[i]).map AV.d) := by simp [dr, hil]
        rw [this] at hi; exact (Option.some.inj hi).symm
      subst hrow
      refine ⟨by simp [hkm], fun j av hj => ?_⟩
      have hj0 : j = 0 := by have := (List.getElem?_eq_some_iff.1 hj).1; simp at this; omega
      subst hj0
      have hav : av = .d (.int .i64 ys[i]) := by simpa using hj.symm
      subst hav
      refine ⟨encI ys[i], ?_, rfl, by simp only [RepA, RepD]⟩
      rw [hkm]
      have hic : i < cur.size := by omega
      simp only [Go.Sort.putCells, Nat.mul_one, Nat.add_zero, Array.getElem?_mapIdx, Array.getElem?_eq_getElem hic, Option.map_some]
      rw [if_pos ⟨Nat.zero_le _, by simp; omega⟩]
      have : ys.toArray[i - 0]! = ys[i] := by rw [Nat.sub_zero, getElem!_pos ys.toArray i (by simpa using hil)]; simp
      rw [this])
  refine ⟨_, g', rfl, ?_, ?_, h5, ?_⟩
  · have : (upd1 (upd1 (objL [(0, ⟨e, 1, dr (zs.map iRow)⟩)]) 0 none) 0 (some ⟨e, 1, dr (ys.map iRow)⟩)) = objL [(0, ⟨e, 1, dr (ys.map iRow)⟩)] := by
      funext x
      simp only [upd1, objL, find]
      by_cases hx : x = 0
      · subst hx; simp
      · have hx' : ¬ (0 = x) := fun h => hx h.symm
        simp [hx, hx']
    rw [← this]; exact h4
  · exact hrep g' _ ⟨L0.blk, L0.m, L0.cap, false, false⟩ (by rw [h2]; exact .inr rfl) h1 ⟨rfl, rfl⟩ hcapl
  · intro i j hij
    simp only [List.mem_cons, List.not_mem_nil, or_false, Prod.mk.injEq] at hij
    obtain ⟨rfl, rfl⟩ := hij
    rw [h1, hL]
    cases L0; simp_all

/-- .. one that leaves an empty row as it is. -/
theorem int_px0 {P : Program} {f : FuncId} (hent : Enters P f) (e : TypeId) (rv : Option Addr → Nat → Value) (rA : AV)
    (hrep : ∀ (g : G) (w : World) p c, RepA g w (.hs 0 0 0) (.slice p 0 c) → RepA g w rA (rv p c))
    (hc : ∀ p c (w : World), Calls P f #[.slice p 0 c] w fun e w' => e = .returned (rv p c) ∧ w' = w) :
    PX P f [.hs 0 0 0] [(0, ⟨e, 1, []⟩)] [(0, 0)] [(0, ⟨e, 1, []⟩)] rA := by
  refine ⟨hent, fun g w vs h hu hvs => ?_⟩
  simp only [RepAs] at hvs
  obtain ⟨v0, _, rfl, h0, rfl⟩ := hvs
  have h00 := h0
  obtain ⟨L0, hL, hok⟩ := h.own 0 ⟨e, 1, []⟩ (by simp [objL, find])
  simp only [RepA] at h0
  have e0 : ∃ p c, v0 = .slice p 0 c := by
    rcases h0.2 L0 hL with ⟨_, _, _, a0, hv⟩ | ⟨_, _, hv⟩
    · exact ⟨a0, _, hv⟩
    · exact ⟨_, _, hv⟩
  obtain ⟨p, c, rfl⟩ := e0
  refine (hc p c w).mono ?_
  rintro ex w' ⟨rfl, rfl⟩
  refine ⟨_, g, rfl, h, hrep _ _ _ _ h00, Step.refl g _, ?_⟩
  intro i j hij
  simp only [List.mem_cons, List.not_mem_nil, or_false, Prod.mk.injEq] at hij
  obtain ⟨rfl, rfl⟩ := hij
  rfl

/-- slices.Sort at numbers. -/
theorem sortI_px {P : Program} {ρ : Ren} (L : Lays.n189 P ρ) (hent : Enters P (ρ.f 189)) (e : TypeId) (zs : List Int) (hsz : zs.length < 4611686018427387904) :
    PX P (ρ.f 189) [.hs 0 0 zs.length] [(0, ⟨e, 1, dr (zs.map iRow)⟩)] [(0, 0)] [(0, ⟨e, 1, dr ((zs.mergeSort fun x y => decide (x ≤ y)).map iRow)⟩)] (.tup []) := by
  by_cases hn : 0 < zs.length
  · exact int_px hent e hn (List.length_mergeSort zs) (fun _ _ => .tuple #[]) (.tup []) (fun g w L _ _ _ _ => by simp only [RepA, RepAs]; exact ⟨[], rfl, rfl⟩)
      fun blk cap w hH hb _ => Any.slices_Sort_int L blk 0 cap zs w hH hb hsz
  · have : zs = [] := List.eq_nil_of_length_eq_zero (by omega)
    subst this
    have := int_px0 hent e (fun _ _ => .tuple #[]) (.tup []) (fun g w p c _ => by simp only [RepA, RepAs]; exact ⟨[], rfl, rfl⟩) fun p c w => Any.slices_Sort_int_none L p c w
    simpa [dr] using this

/-- slices.Compact at numbers. -/
theorem compactI_px {P : Program} {ρ : Ren} (L : Lays2.n20 P ρ) (hent : Enters P (ρ.f 20)) (e : TypeId) (zs : List Int) (hsz : zs.length ≤ 9223372036854775807) :
    PX P (ρ.f 20) [.hs 0 0 zs.length] [(0, ⟨e, 1, dr (zs.map iRow)⟩)] [(0, 0)] [(0, ⟨e, 1, dr ((Lib.compact zs ++ List.replicate (zs.length - (Lib.compact zs).length) 0).map iRow)⟩)] (.hs 0 0 (Lib.compact zs).length) := by
  have hle := Lib.compact_length_le zs
  by_cases hn : 0 < zs.length
  · refine int_px hent e hn (by simp; omega) (fun blk cap => .slice (some ⟨blk, 0, none⟩) (Lib.compact zs).length cap) (.hs 0 0 (Lib.compact zs).length) (fun g w L hu hL hv hcap => ?_) fun blk cap w hH hb hcap => ?_
    · have := rep_hs (L := L) (w := w) hu hL hv (len := (Lib.compact zs).length) (by omega)
      exact this
    · refine (Any.slices_Compact_int L blk 0 cap zs w hH hsz hcap).mono ?_
      rintro ex w' ⟨h1, q, h2⟩
      exact ⟨h1, q, #[], by rw [grow_empty]; exact h2⟩
  · have : zs = [] := List.eq_nil_of_length_eq_zero (by omega)
    subst this
    have := int_px0 hent e (fun p c => .slice p 0 c) (.hs 0 0 0) (fun g w p c h => h) fun p c w => Any.slices_Compact_int_empty L p c w
    have hc : Lib.compact ([] : List Int) = [] := rfl
    simpa [dr, hc] using this

/-- Of numbers in their order each once. -/
theorem compact_sorted {zs : List Int} (h : zs.Pairwise (· ≤ ·)) : (Lib.compact zs).Pairwise (· < ·) ∧ ∀ y, y ∈ Lib.compact zs ↔ y ∈ zs := by
  have key : ∀ m, m ≤ zs.length → (Lib.compactUpTo zs.toArray m).Pairwise (· < ·) ∧ (∀ y, y ∈ Lib.compactUpTo zs.toArray m ↔ y ∈ zs.take m) := by
    intro m
    induction m with
    | zero => intro _; simp [Lib.compactUpTo]
    | succ m ih =>
      intro hm
      obtain ⟨ih1, ih2⟩ := ih (by omega)
      have hlt : m < zs.length := by omega
      have hg : zs.toArray[m]! = zs[m] := by rw [getElem!_pos zs.toArray m (by simpa using hlt)]; simp
      have htk : zs.take (m + 1) = zs.take m ++ [zs[m]] := by rw [List.take_add_one, List.getElem?_eq_getElem hlt]; rfl
      rw [Lib.compactUpTo_succ, htk, hg]
      by_cases hk : Lib.keeps zs.toArray m = true
      · rw [if_pos hk]
        refine ⟨?_, fun y => by rw [List.mem_append, List.mem_append, ih2]⟩
        rw [List.pairwise_append]
        refine ⟨ih1, by simp, fun a ha b hb => ?_⟩
        simp at hb; subst hb
        rw [ih2] at ha
        obtain ⟨j, hj, rfl⟩ := List.mem_iff_getElem.1 ha
        have hjm : j < m := by simp at hj; omega
        rw [List.getElem_take]
        have hm0 : 0 < m := by omega
        have hg1 : zs.toArray[m - 1]! = zs[m - 1] := by rw [getElem!_pos zs.toArray (m - 1) (by simp; omega)]; simp
        simp only [Lib.keeps, hg, hg1, decide_eq_true_eq] at hk
        have h1 := List.pairwise_iff_getElem.1 h (m - 1) m (by omega) hlt (by omega)
        have h2 : zs[j] ≤ zs[m - 1] := by
          by_cases e : j = m - 1
          · subst e; exact Int.le_refl _
          · exact List.pairwise_iff_getElem.1 h j (m - 1) (by omega) (by omega) (by omega)
        have h3 : zs[m] ≠ zs[m - 1] := by rcases hk with hk | hk; omega; exact hk
        omega
      · rw [if_neg hk, List.append_nil]
        refine ⟨ih1, fun y => ?_⟩
        rw [ih2]
        simp only [Lib.keeps, decide_eq_true_eq] at hk
        have hm0 : m ≠ 0 := fun e => hk (.inl e)
        have hg1 : zs.toArray[m - 1]! = zs[m - 1] := by rw [getElem!_pos zs.toArray (m - 1) (by simp; omega)]; simp
        have he : zs[m] = zs[m - 1] := by
          apply Classical.byContradiction
          intro hne
          exact hk (.inr (by rw [hg, hg1]; exact hne))
        simp only [List.mem_append, List.mem_singleton]
        constructor
        · exact .inl
        · rintro (h1 | h1)
          · exact h1
          · rw [h1, he]
            exact List.mem_iff_getElem.2 ⟨m - 1, by simp; omega, by rw [List.getElem_take]⟩
  have := key zs.length (Nat.le_refl _)
  rw [List.take_length] at this
  exact this
end Go.Abs

set_option linter.unusedVariables false
set_option linter.unusedSimpArgs false
set_option maxRecDepth 100000
namespace Go.Proofs.YtagakfaiimaifaaGreat
open Go.Abs Go.Shelf

def sortInt_ren : Go.Shelf.Ren := ⟨fun | 189 => 49 | 125 => 78 | 257 => 92 | 128 => 123 | 129 => 124 | 294 => 135 | 295 => 136 | 296 => 137 | 297 => 138 | 298 => 139 | 299 => 140 | 216 => 141 | 300 => 142 | 301 => 143 | 328 => 189 | 329 => 177 | 330 => 178 | 331 => 190 | 332 => 191 | 215 => 192 | 343 => 208 | n => n, fun | 28 => 85 | 3 => 3 | 46 => 117 | 0 => 0 | 51 => 157 | 53 => 159 | 4 => 4 | 183 => 150 | 182 => 149 | 131 => 154 | 5 => 5 | 9 => 9 | 218 => 194 | 222 => 198 | 228 => 214 | 229 => 215 | n => n, fun n => n⟩
theorem sortInt_lays : Lays.n189 Tryz.prog sortInt_ren where
  mixed := by kernel_rfl
  f125 := Tryz.func78.trans (congrArg some (by kernel_rfl))
  f128 := Tryz.func123.trans (congrArg some (by kernel_rfl))
  f129 := Tryz.func124.trans (congrArg some (by kernel_rfl))
  f189 := Tryz.func49.trans (congrArg some (by kernel_rfl))
  f215 := Tryz.func192.trans (congrArg some (by kernel_rfl))
  f216 := Tryz.func141.trans (congrArg some (by kernel_rfl))
  f257 := Tryz.func92.trans (congrArg some (by kernel_rfl))
  f294 := Tryz.func135.trans (congrArg some (by kernel_rfl))
  f295 := Tryz.func136.trans (congrArg some (by kernel_rfl))
  f296 := Tryz.func137.trans (congrArg some (by kernel_rfl))
  f297 := Tryz.func138.trans (congrArg some (by kernel_rfl))
  f298 := Tryz.func139.trans (congrArg some (by kernel_rfl))
  f299 := Tryz.func140.trans (congrArg some (by kernel_rfl))
  f300 := Tryz.func142.trans (congrArg some (by kernel_rfl))
  f301 := Tryz.func143.trans (congrArg some (by kernel_rfl))
  f328 := Tryz.func189.trans (congrArg some (by kernel_rfl))
  f329 := Tryz.func177.trans (congrArg some (by kernel_rfl))
  f330 := Tryz.func178.trans (congrArg some (by kernel_rfl))
  f331 := Tryz.func190.trans (congrArg some (by kernel_rfl))
  f332 := Tryz.func191.trans (congrArg some (by kernel_rfl))
  f343 := Tryz.func208.trans (congrArg some (by kernel_rfl))
  t0 := Tryz.underlying0
  a0 := Tryz.isAgg0
  z0 := Tryz.sizeOf0
  v0 := Tryz.zeroValue0
  t3 := Tryz.underlying3
  a3 := Tryz.isAgg3
  z3 := Tryz.sizeOf3
  v3 := Tryz.zeroValue3
  t4 := Tryz.underlying4
  a4 := Tryz.isAgg4
  z4 := Tryz.sizeOf4
  v4 := Tryz.zeroValue4
  t5 := Tryz.underlying5
  a5 := Tryz.isAgg5
  z5 := Tryz.sizeOf5
  v5 := Tryz.zeroValue5
  t9 := Tryz.underlying9
  a9 := Tryz.isAgg9
  z9 := Tryz.sizeOf9
  v9 := Tryz.zeroValue9
  t28 := Tryz.underlying85
  a28 := Tryz.isAgg85
  z28 := Tryz.sizeOf85
  v28 := Tryz.zeroValue85
  t46 := Tryz.underlying117
  a46 := Tryz.isAgg117
  z46 := Tryz.sizeOf117
  v46 := Tryz.zeroValue117
  t51 := Tryz.underlying157
  a51 := Tryz.isAgg157
  z51 := Tryz.sizeOf157
  v51 := Tryz.zeroValue157
  t53 := Tryz.underlying159
  a53 := Tryz.isAgg159
  z53 := Tryz.sizeOf159
  v53 := Tryz.zeroValue159
  t131 := Tryz.underlying154
  a131 := Tryz.isAgg154
  z131 := Tryz.sizeOf154
  v131 := Tryz.zeroValue154
  t182 := Tryz.underlying149
  a182 := Tryz.isAgg149
  z182 := Tryz.sizeOf149
  v182 := Tryz.zeroValue149
  t183 := Tryz.underlying150
  a183 := Tryz.isAgg150
  z183 := Tryz.sizeOf150
  v183 := Tryz.zeroValue150
  t218 := Tryz.underlying194
  a218 := Tryz.isAgg194
  z218 := Tryz.sizeOf194
  v218 := Tryz.zeroValue194
  t222 := Tryz.underlying198
  a222 := Tryz.isAgg198
  z222 := Tryz.sizeOf198
  v222 := Tryz.zeroValue198
  t228 := Tryz.underlying214
  a228 := Tryz.isAgg214
  z228 := Tryz.sizeOf214
  v228 := Tryz.zeroValue214
  t229 := Tryz.underlying215
  a229 := Tryz.isAgg215
  z229 := Tryz.sizeOf215
  v229 := Tryz.zeroValue215
def compactInt_ren : Go.Shelf.Ren := ⟨fun | 20 => 50 | n => n, fun | 22 => 85 | 3 => 3 | 4 => 4 | 0 => 0 | n => n, fun n => n⟩
theorem compactInt_lays : Lays2.n20 Tryz.prog compactInt_ren where
  mixed := by kernel_rfl
  f20 := Tryz.func50.trans (congrArg some (by kernel_rfl))
  t0 := Tryz.underlying0
  a0 := Tryz.isAgg0
  z0 := Tryz.sizeOf0
  v0 := Tryz.zeroValue0
  t3 := Tryz.underlying3
  a3 := Tryz.isAgg3
  z3 := Tryz.sizeOf3
  v3 := Tryz.zeroValue3
  t4 := Tryz.underlying4
  a4 := Tryz.isAgg4
  z4 := Tryz.sizeOf4
  v4 := Tryz.zeroValue4
  t22 := Tryz.underlying85
  a22 := Tryz.isAgg85
  z22 := Tryz.sizeOf85
  v22 := Tryz.zeroValue85
  i3 := by kernel_rfl

theorem sortInts_px (l : List Int) (hl : l.length ≤ 1000000000) : PX Tryz.prog 49 [.hs 0 0 l.length] [(0, ⟨3, 1, dr (l.map iRow)⟩)] [(0, 0)] [(0, ⟨3, 1, dr ((l.mergeSort fun x y => decide (x ≤ y)).map iRow)⟩)] (.tup []) :=
  sortI_px sortInt_lays ⟨_, Tryz.func49, by kernel_rfl, by kernel_rfl⟩ 3 l (by omega)
theorem compactInts_px (l : List Int) (hl : l.length ≤ 1000000000) : PX Tryz.prog 50 [.hs 0 0 l.length] [(0, ⟨3, 1, dr (l.map iRow)⟩)] [(0, 0)] [(0, ⟨3, 1, dr ((Go.Lib.compact l ++ List.replicate (l.length - (Go.Lib.compact l).length) 0).map iRow)⟩)] (.hs 0 0 (Go.Lib.compact l).length) :=
  compactI_px compactInt_lays ⟨_, Tryz.func50, by kernel_rfl, by kernel_rfl⟩ 3 l (by omega)

theorem free_runs : ∀ l : List Run, D.freess (l.map Run.row) = true
  | [] => rfl
  | c :: l => by simp [D.freess, D.frees, D.free, free_runs l]
theorem cloneR_ok (l : List Run) (hl : l.length ≤ 100000000) : PC Tryz.prog 52 [encRuns l] (.f (encRuns l)) := by
  have h16 : l.length * 16 ≤ 140737488355328 := by omega
  refine pc_of_awp cx (fn := Tryz.f52) (c := _) Tryz.func52 rfl rfl (Nat.le_of_ble_eq_true rfl) ?_
  rw [Tryz.ntmps52]; refine Nav.imp ?_
  refine awp_region cx [] fun K hK => ?_
  simp [push_cast]
  repeat (refine And.intro (by clear hK; intros; first | omega | (simp_all; done) | (simp_all <;> omega)) ?_)
  refine hK _ ?_; clear hK K; refine Nav.imp ?_
  refine awp_region cx [] fun K hK => ?_
  simp [push_cast]
  repeat (refine And.intro (by clear hK; intros; first | omega | (simp_all; done) | (simp_all <;> omega)) ?_)
  refine hK _ ?_; clear hK K; refine Nav.imp ?_
  refine awp_ub 4 (by simp [push_cast]; exact ⟨rfl, rfl⟩) fun bu hu1 hu2 => ?_
  refine awp_cond (b := bu) (by simp [push_cast]) (fun hb => ?_) (fun hb => ?_) <;> (refine Nav.imp ?_)
  · have hl0 : l = [] := by simpa using hu1 hb
    subst hl0
    refine awp_region cx [] fun K hK => ?_
    simp [push_cast]
    repeat (refine And.intro (by clear hK; intros; first | omega | (simp_all; done) | (simp_all <;> omega)) ?_)
    refine hK _ ?_; clear hK K; refine Nav.imp ?_
    simp [push_cast]
  · refine awp_region cx [] fun K hK => ?_
    simp [push_cast, h16]
    repeat (refine And.intro (by clear hK; intros; first | omega | (simp_all; done) | (simp_all <;> omega)) ?_)
    refine hK _ ?_; clear hK K; refine Nav.imp ?_
    have ht : List.take l.length (l.map Run.row) = l.map Run.row := List.take_of_length_le (by simp)
    simp [push_cast, ht, free_runs]
end Go.Proofs.YtagakfaiimaifaaGreat

set_option linter.unusedVariables false
set_option linter.unusedSimpArgs false
set_option maxRecDepth 100000
namespace Go.Proofs.YtagakfaiimaifaaGreat
open Go.Abs

theorem take_flat_one' {α β : Type} {f : α → List β} (h : ∀ x, (f x).length ≤ 1) (l : List α) (k : Nat) : ((l.take k).flatMap f).length ≤ l.length := by
  have key : ∀ m : List α, (m.flatMap f).length ≤ m.length := by
    intro m
    induction m with
    | nil => simp
    | cons x m ih => have := h x; rw [List.flatMap_cons, List.length_append, List.length_cons]; omega
  have := key (l.take k)
  simp at this ⊢; omega
theorem swOut_len (now o : Bool) (out : List Run) (x : Int) : (swOut now o out x).length ≤ out.length + 1 := by
  unfold swOut
  split
  · simp
  · split
    · simp
      try omega
    · omega
theorem swF_len (f : Bool → Bool → Bool) (a b : List Run) : ∀ (n p q : Nat) (out : List Run) (o : Bool), (swF f a b n p q out o).length ≤ out.length + n
  | 0, _, _, out, _ => by simp [swF]
  | n + 1, p, q, out, o => by
    unfold swF
    split
    · omega
    · refine Nat.le_trans (swF_len f a b n _ _ _ _) ?_
      have := swOut_len (f (swP a (swX a b p q) p % 2 == 1) (swP b (swX a b p q) q % 2 == 1)) o out (swX a b p q)
      omega
theorem sweep_len (f : Bool → Bool → Bool) (a b : List Run) : (sweep f a b).length ≤ 2 * a.length + 2 * b.length := by
  unfold sweep
  split
  · simpa using swF_len f a b (2 * a.length + 2 * b.length) 0 0 [] false
  · simp
theorem rowOf_len {R : List Row} (hR : smallR R) (y : Int) : (rowOf R y).length ≤ 1000000 := by
  unfold rowOf
  split
  · rename_i w h; exact hR.2 w (List.mem_of_find?_eq_some h)
  · simp
theorem opRow_len (f : Bool → Bool → Bool) (a b : List Row) (y : Int) : (opRow f a b y).length ≤ 1 := by unfold opRow; split <;> simp
/-- The rows' numbers that the first k regions give. -/
def ysK (a b : List Row) (k : Nat) : List Int := if k = 0 then [] else if k = 1 then a.map Row.y else a.map Row.y ++ b.map Row.y

set_option maxHeartbeats 4000000 in
theorem combine_big (f : Bool → Bool → Bool) (hf : f false false = false) (g : FuncId) (hg : ∀ x y : List Run, x.length ≤ 1000000 → y.length ≤ 1000000 → rvalid x = true → rvalid y = true → PC Tryz.prog g [encRuns x, encRuns y] (.p (encRuns (sweep f x y)))) (a b : List Row) (hA : bigR a) (hB : bigR b) :
    PC Tryz.prog 65 [.agg (regRow a), .agg (regRow b), .fn (.func g) []] (.p (.agg (regRow (opR f a b)))) := by
  have c1 := valid_big a hA
  have c2 := valid_big b hB
  have hop : opR f a b = if validR a && validR b then opOn f a b (dedup (allY a b)) else [] := rfl
  cases ha : validR a with
  | false =>
    rw [ha] at c1
    have h0 : opR f a b = [] := by rw [hop, ha]; simp
    rw [h0]
    refine pc_of_awp cx (fn := Tryz.f65) (c := _) Tryz.func65 rfl rfl (Nat.le_of_ble_eq_true rfl) ?_
    rw [Tryz.ntmps65]; refine Nav.imp ?_
    refine awp_region cx [] fun K hK => ?_
    simp [push_cast]
    repeat (refine And.intro (by clear hK; intros; first | omega | (simp_all; done) | (simp_all <;> omega)) ?_)
    refine hK _ ?_; clear hK K; refine Nav.imp ?_
    refine awp_region cx [(1, .p (.bool false)), (5, .skip)] fun K hK => ?_
    simp [push_cast, c1]
    repeat (refine And.intro (by clear hK; intros; first | omega | (simp_all; done) | (simp_all <;> omega)) ?_)
    refine hK _ ?_; clear hK K; refine Nav.imp ?_
    refine awp_cond (b := true) (by simp [push_cast]) (fun hb => ?_) (fun hb => ?_) <;> (refine Nav.imp ?_)
    · refine awp_region cx [] fun K hK => ?_
      simp [push_cast]
      repeat (refine And.intro (by clear hK; intros; first | omega | (simp_all; done) | (simp_all <;> omega)) ?_)
      refine hK _ ?_; clear hK K; refine Nav.imp ?_
      simp [push_cast]
    · simp at hb
  | true =>
    rw [ha] at c1
    cases hb0 : validR b with
    | false =>
      rw [hb0] at c2
      have h0 : opR f a b = [] := by rw [hop, ha, hb0]; simp
      rw [h0]
      refine pc_of_awp cx (fn := Tryz.f65) (c := _) Tryz.func65 rfl rfl (Nat.le_of_ble_eq_true rfl) ?_
      rw [Tryz.ntmps65]; refine Nav.imp ?_
      refine awp_region cx [] fun K hK => ?_
      simp [push_cast]
      repeat (refine And.intro (by clear hK; intros; first | omega | (simp_all; done) | (simp_all <;> omega)) ?_)
      refine hK _ ?_; clear hK K; refine Nav.imp ?_
      refine awp_region cx [(1, .p (.bool true)), (5, .p (.bool false))] fun K hK => ?_
      simp [push_cast, c1, c2]
      repeat (refine And.intro (by clear hK; intros; first | omega | (simp_all; done) | (simp_all <;> omega)) ?_)
      refine hK _ ?_; clear hK K; refine Nav.imp ?_
      refine awp_cond (b := true) (by simp [push_cast]) (fun hb => ?_) (fun hb => ?_) <;> (refine Nav.imp ?_)
      · refine awp_region cx [] fun K hK => ?_
        simp [push_cast]
        repeat (refine And.intro (by clear hK; intros; first | omega | (simp_all; done) | (simp_all <;> omega)) ?_)
        refine hK _ ?_; clear hK K; refine Nav.imp ?_
        simp [push_cast]
      · simp at hb
    | true =>
      rw [hb0] at c2
      replace hA := small_valid ha
      replace hB := small_valid hb0
      have hal := hA.1
      have hbl := hB.1
      have hon := fun ys hp hys => @opR_on f hf a b ha hb0 ys hp hys
      clear hop
      generalize opR f a b = res at *
      refine pc_of_awp cx (fn := Tryz.f65) (c := _) Tryz.func65 rfl rfl (Nat.le_of_ble_eq_true rfl) ?_
      rw [Tryz.ntmps65]; refine Nav.imp ?_
      refine awp_region cx [] fun K hK => ?_
      simp [push_cast]
      repeat (refine And.intro (by clear hK; intros; first | omega | (simp_all; done) | (simp_all <;> omega)) ?_)
      refine hK _ ?_; clear hK K; refine Nav.imp ?_
      refine awp_region cx [(1, .p (.bool true)), (5, .p (.bool true))] fun K hK => ?_
      simp [push_cast, c1, c2]
      repeat (refine And.intro (by clear hK; intros; first | omega | (simp_all; done) | (simp_all <;> omega)) ?_)
      refine hK _ ?_; clear hK K; refine Nav.imp ?_
      refine awp_cond (b := false) (by simp [push_cast]) (fun hb => ?_) (fun hb => ?_) <;> (refine Nav.imp ?_)
      · simp at hb
      · refine awp_region cx [] fun K hK => ?_
        simp [push_cast]
        repeat (refine And.intro (by clear hK; intros; first | omega | (simp_all; done) | (simp_all <;> omega)) ?_)
        refine hK _ ?_; clear hK K; refine Nav.imp ?_
        refine awp_region cx [] fun K hK => ?_
        simp [push_cast]
        repeat (refine And.intro (by clear hK; intros; first | omega | (simp_all; done) | (simp_all <;> omega)) ?_)
        refine hK _ ?_; clear hK K; refine Nav.imp ?_
        refine awp_loop (β := Nat × List Int) (fun s => ⟨76, [(2, .d (.fn (.func g) [])), (3, .ptr 0 0 0), (4, .ptr 1 0 0), (6, .ptr 2 0 0), (7, .hs 3 0 s.2.length), (27, .d (.agg [encRows a, encRows b])), (28, .d (.int .i64 s.1))], [(0, some ⟨24, 1, [(regRow a).map .d]⟩), (1, some ⟨24, 1, [(regRow b).map .d]⟩), (2, some ⟨24, 1, [[.nl]]⟩), (3, some ⟨3, 1, dr (s.2.map iRow)⟩)], 4⟩) (fun s => s.1 ≤ 2 ∧ s.2 = ysK a b s.1) (fun s => 2 - s.1) (0, []) ?_ ⟨by simp only; omega, by simp [ysK]⟩ ?_
        · refine weak_of [(0, some 0), (1, some 1), (2, some 2), (3, none)] rfl (by simp [upT, up, upL, push_cast]) (by simp [upH, upR, upL, up, push_cast]) (by simp [namesOk, push_cast]) (by simp [olds])
        · rintro ⟨k, Y⟩ ⟨hk, hY⟩
          simp only at hk hY
          refine Nav.imp ?_
          have hYl : Y.length ≤ 2000000 := by
            rw [hY]; unfold ysK; split <;> (try split) <;> simp <;> omega
          by_cases hk2 : k < 2
          · obtain ⟨R, hR⟩ : ∃ R, R = if k = 0 then a else b := ⟨_, rfl⟩
            have hRl : R.length ≤ 1000000 := by rw [hR]; split <;> omega
            have hnx : ysK a b (k + 1) = Y ++ R.map Row.y := by
              rw [hY, hR]
              rcases (by omega : k = 0 ∨ k = 1) with rfl | rfl <;> simp [ysK]
            have hYK : Y.length + R.length ≤ 2000000 := by
              have : (Y ++ R.map Row.y).length ≤ a.length + b.length := by
                rw [← hnx]; unfold ysK; split <;> (try split) <;> simp <;> omega
              simp at this; omega
            have e0 := wrap_i64 (n := (k : Int) + 1) (by omega) (by omega)
            have hk2' : (k : Int) < 2 := by omega
            clear hY
            apply cut_
            · intro key
              rcases (by omega : k = 0 ∨ k = 1) with hk0 | hk0
              · have hR : R = a := by rw [hR, hk0]; rfl
                refine awp_region cx [] fun K hK => ?_
                simp [push_cast, hk0]
                repeat (refine And.intro (by clear hK; intros; first | omega | (simp_all; done) | (simp_all <;> omega)) ?_)
                refine hK _ ?_; clear hK K; refine Nav.imp ?_
                refine awp_cond (b := true) (by simp [push_cast, hk0]) (fun hb => ?_) (fun hb => ?_) <;> (refine Nav.imp ?_)
                · refine awp_region cx [] fun K hK => ?_
                  simp [push_cast, hk0]
                  repeat (refine And.intro (by clear hK; intros; first | omega | (simp_all; done) | (simp_all <;> omega)) ?_)
                  refine hK _ ?_; clear hK K; refine Nav.imp ?_
                  refine awp_weak (s' := ⟨76, [(2, .d (.fn (.func g) [])), (3, .ptr 0 0 0), (4, .ptr 1 0 0), (6, .ptr 2 0 0), (7, .hs 3 0 Y.length), (9, .ptr 4 0 0), (27, .d (.agg [encRows a, encRows b])), (28, .d (.int .i64 k))], [(0, some ⟨24, 1, [(regRow a).map .d]⟩), (1, some ⟨24, 1, [(regRow b).map .d]⟩), (2, some ⟨24, 1, [[.nl]]⟩), (3, some ⟨3, 1, dr (Y.map iRow)⟩), (4, some ⟨24, 1, [(regRow R).map .d]⟩)], 5⟩) ?_ key.h
                  refine weak_of [(0, some 0), (1, some 1), (2, some 2), (3, some 3), (4, some 6)] rfl (by simp [upT, up, upL, push_cast, hk0, hR]) (by simp [upH, upR, upL, up, push_cast, hk0, hR]) (by simp [namesOk, push_cast]) (by simp [olds])
                · simp at hb
              · have hR : R = b := by rw [hR, hk0]; rfl
                refine awp_region cx [] fun K hK => ?_
                simp [push_cast, hk0]
                repeat (refine And.intro (by clear hK; intros; first | omega | (simp_all; done) | (simp_all <;> omega)) ?_)
                refine hK _ ?_; clear hK K; refine Nav.imp ?_
                refine awp_cond (b := true) (by simp [push_cast, hk0]) (fun hb => ?_) (fun hb => ?_) <;> (refine Nav.imp ?_)
                · refine awp_region cx [] fun K hK => ?_
                  simp [push_cast, hk0]
                  repeat (refine And.intro (by clear hK; intros; first | omega | (simp_all; done) | (simp_all <;> omega)) ?_)
                  refine hK _ ?_; clear hK K; refine Nav.imp ?_
                  refine awp_weak (s' := ⟨76, [(2, .d (.fn (.func g) [])), (3, .ptr 0 0 0), (4, .ptr 1 0 0), (6, .ptr 2 0 0), (7, .hs 3 0 Y.length), (9, .ptr 4 0 0), (27, .d (.agg [encRows a, encRows b])), (28, .d (.int .i64 k))], [(0, some ⟨24, 1, [(regRow a).map .d]⟩), (1, some ⟨24, 1, [(regRow b).map .d]⟩), (2, some ⟨24, 1, [[.nl]]⟩), (3, some ⟨3, 1, dr (Y.map iRow)⟩), (4, some ⟨24, 1, [(regRow R).map .d]⟩)], 5⟩) ?_ key.h
                  refine weak_of [(0, some 0), (1, some 1), (2, some 2), (3, some 3), (4, some 6)] rfl (by simp [upT, up, upL, push_cast, hk0, hR]) (by simp [upH, upR, upL, up, push_cast, hk0, hR]) (by simp [namesOk, push_cast]) (by simp [olds])
                · simp at hb
            · refine Nav.imp ?_
              refine awp_region cx [] fun K hK => ?_
              simp [push_cast]
              repeat (refine And.intro (by clear hK; intros; first | omega | (simp_all; done) | (simp_all <;> omega)) ?_)
              refine hK _ ?_; clear hK K; refine Nav.imp ?_
              refine awp_loop (β := Nat × List Int) (fun s => ⟨76, [(2, .d (.fn (.func g) [])), (3, .ptr 0 0 0), (4, .ptr 1 0 0), (6, .ptr 2 0 0), (7, .hs 3 0 s.2.length), (27, .d (.agg [encRows a, encRows b])), (28, .d (.int .i64 k)), (32, .d (encRows R)), (33, .d (.int .i64 R.length)), (34, .d (.int .i64 s.1))], [(0, some ⟨24, 1, [(regRow a).map .d]⟩), (1, some ⟨24, 1, [(regRow b).map .d]⟩), (2, some ⟨24, 1, [[.nl]]⟩), (3, some ⟨3, 1, dr (s.2.map iRow)⟩)], 4⟩) (fun s => s.1 ≤ R.length ∧ s.2 = Y ++ (R.take s.1).map Row.y) (fun s => R.length - s.1) (0, Y) ?_ ⟨Nat.zero_le _, by simp⟩ ?_
              · refine weak_of [(0, some 0), (1, some 1), (2, some 2), (3, some 3)] rfl (by simp [upT, up, upL, push_cast]) (by simp [upH, upR, upL, up, push_cast]) (by simp [namesOk, push_cast]) (by simp [olds])
              · rintro ⟨j, Z⟩ ⟨hj, hZ⟩
                simp only at hj hZ
                refine Nav.imp ?_
                refine awp_region cx [] fun K hK => ?_
                simp [push_cast]
                repeat (refine And.intro (by clear hK; intros; first | omega | (simp_all; done) | (simp_all <;> omega)) ?_)
                refine hK _ ?_; clear hK K; refine Nav.imp ?_
                refine awp_cond (b := decide ((j : Int) < R.length)) (by simp [push_cast]) (fun hb => ?_) (fun hb => ?_) <;> (refine Nav.imp ?_)
                · have hjl : j < R.length := by simpa using hb
                  obtain ⟨w, hw⟩ := getq hjl
                  have e1 := wrap_i64 (n := (j : Int) + 1) (by omega) (by omega)
                  have hZl : Z.length ≤ 2000000 := by rw [hZ]; simp; omega
                  have hZ8 : (Z.length + 1) * 8 ≤ 140737488355328 := by omega
                  have hnz : Y ++ (R.take (j + 1)).map Row.y = Z ++ [w.y] := by rw [take_get hw, List.map_append, hZ]; simp
                  obtain ⟨wy, wr⟩ := w
                  simp only at hnz
                  refine awp_region cx [] fun K hK => ?_
                  simp [push_cast, hw, Row.row]
                  repeat (refine And.intro (by clear hK; intros; first | omega | (simp_all; done) | (simp_all <;> omega)) ?_)
                  refine hK _ ?_; clear hK K; refine Nav.imp ?_
                  refine awp_region cx [] fun K hK => ?_
                  simp [push_cast, hZ8, Row.row]
                  repeat (refine And.intro (by clear hK; intros; first | omega | (simp_all; done) | (simp_all <;> omega)) ?_)
                  refine hK _ ?_; clear hK K; refine Nav.imp ?_
                  refine awp_region cx [] fun K hK => ?_
                  simp [push_cast, e1]
                  repeat (refine And.intro (by clear hK; intros; first | omega | (simp_all; done) | (simp_all <;> omega)) ?_)
                  refine hK _ ?_; clear hK K; refine Nav.imp ?_
                  refine ⟨(j + 1, Z ++ [wy]), ⟨hjl, hnz.symm⟩, by simp only; omega, ?_⟩
                  refine weak_of [(0, some 0), (1, some 1), (2, some 2), (3, some 13)] rfl (by simp [upT, up, upL, push_cast]) (by simp [upH, upR, upL, up, push_cast]) (by simp [namesOk, push_cast]) (by simp [olds])
                · have hjn : j = R.length := by simp at hb; omega
                  subst hjn
                  rw [List.take_length, ← hnx] at hZ
                  refine awp_region cx [] fun K hK => ?_
                  simp [push_cast, e0]
                  repeat (refine And.intro (by clear hK; intros; first | omega | (simp_all; done) | (simp_all <;> omega)) ?_)
                  refine hK _ ?_; clear hK K; refine Nav.imp ?_
                  refine ⟨(k + 1, Z), ⟨by simp only; omega, hZ⟩, by simp only; omega, ?_⟩
                  refine weak_of [(0, some 0), (1, some 1), (2, some 2), (3, some 3)] rfl (by simp [upT, up, upL, push_cast]) (by simp [upH, upR, upL, up, push_cast]) (by simp [namesOk, push_cast]) (by simp [olds])
          · have hk2 : k = 2 := by omega
            subst hk2
            have hY : Y = a.map Row.y ++ b.map Row.y := by rw [hY]; simp [ysK]
            have d1 := sortInts_px Y (by omega)
            have hsrt : (Y.mergeSort fun x y => decide (x ≤ y)) = allY a b := by rw [hY]; rfl
            rw [hsrt] at d1
            have hsl : (allY a b).length = Y.length := by rw [← hsrt]; exact List.length_mergeSort Y
            have d2 := compactInts_px (allY a b) (by omega)
            obtain ⟨q1, q2⟩ := compact_sorted (allY_le a b)
            have hcl := Go.Lib.compact_length_le (allY a b)
            have hres := hon (Go.Lib.compact (allY a b)) q1 (fun w hw => by
              rw [q2, (allY_perm a b).mem_iff, List.mem_append]
              rcases hw with h | h
              · exact .inl (List.mem_map_of_mem h)
              · exact .inr (List.mem_map_of_mem h))
            clear hon q1 q2 hsrt hY
            generalize allY a b = S at *
            generalize hC : Go.Lib.compact S = C at *
            generalize hZs : List.replicate (S.length - C.length) (0 : Int) = Zs at *
            have htk : List.take C.length ((C ++ Zs).map iRow) = C.map iRow := by rw [List.map_append, List.take_left' (by simp)]
            have hCl : C.length ≤ 2000000 := by omega
            have hCle : C.length ≤ (C ++ Zs).length := by simp
            generalize hE : C ++ Zs = E at *
            refine awp_region cx [] fun K hK => ?_
            simp [push_cast]
            repeat (refine And.intro (by clear hK; intros; first | omega | (simp_all; done) | (simp_all <;> omega)) ?_)
            refine hK _ ?_; clear hK K; refine Nav.imp ?_
            refine awp_cond (b := false) (by simp [push_cast]) (fun hb => ?_) (fun hb => ?_) <;> (refine Nav.imp ?_)
            · simp at hb
            · refine awp_region cx [(1, .x ⟨[(0, 3)], [.hs 0 0 Y.length], [(0, ⟨3, 1, dr (Y.map iRow)⟩)], [(0, 0)], none, [(0, ⟨3, 1, dr (S.map iRow)⟩)], .tup []⟩)] fun K hK => ?_
              simp [push_cast, d1]
              repeat (refine And.intro (by clear hK; intros; first | omega | (simp_all; done) | (simp_all <;> omega)) ?_)
              refine hK _ ?_; clear hK K; refine Nav.imp ?_
              rw [← hsl]
              refine awp_region cx [] fun K hK => ?_
              simp [push_cast]
              repeat (refine And.intro (by clear hK; intros; first | omega | (simp_all; done) | (simp_all <;> omega)) ?_)
              refine hK _ ?_; clear hK K; refine Nav.imp ?_
              refine awp_region cx [(1, .x ⟨[(0, 3)], [.hs 0 0 S.length], [(0, ⟨3, 1, dr (S.map iRow)⟩)], [(0, 0)], none, [(0, ⟨3, 1, dr (E.map iRow)⟩)], .hs 0 0 C.length⟩)] fun K hK => ?_
              simp [push_cast, d2]
              repeat (refine And.intro (by clear hK; intros; first | omega | (simp_all; done) | (simp_all <;> omega)) ?_)
              refine hK _ ?_; clear hK K; refine Nav.imp ?_
              refine awp_freeze 3 (E.map iRow) rfl (by simp [push_cast, htk]) fun K hK => ?_
              simp [push_cast, St.fz, fzT, fzH, fzO, fz, fzL, fzR, fzR_dr, fzR_app, fzR_set, fzL_map, htk]
              refine hK _ ?_; clear hK K; refine Nav.imp ?_
              refine awp_loop (β := Nat × List Row) (fun s => ⟨76, [(2, .d (.fn (.func g) [])), (3, .ptr 0 0 0), (4, .ptr 1 0 0), (6, .ptr 2 0 0), (12, .ptr 3 0 0), (48, .d (.sl (C.map iRow))), (49, .d (.int .i64 C.length)), (50, .d (.int .i64 s.1))], [(0, some ⟨24, 1, [(regRow a).map .d]⟩), (1, some ⟨24, 1, [(regRow b).map .d]⟩), (2, some ⟨24, 1, [[.nl]]⟩), (3, some ⟨24, 1, [[.hs 4 0 s.2.length]]⟩), (4, some ⟨52, 2, dr (s.2.map Row.row)⟩)], 5⟩) (fun s => s.1 ≤ C.length ∧ s.2 = opOn f a b (C.take s.1)) (fun s => C.length - s.1) (0, []) ?_ ⟨Nat.zero_le _, by simp [opOn]⟩ ?_
              · refine weak_of [(0, some 0), (1, some 1), (2, some 2), (3, some 7), (4, none)] rfl (by simp [upT, up, upL, push_cast, hCle]) (by simp [upH, upR, upL, up, push_cast, hCle]) (by simp [namesOk, push_cast]) (by simp [olds])
              · rintro ⟨k, Z⟩ ⟨hk, hZ⟩
                simp only at hk hZ
                refine Nav.imp ?_
                refine awp_region cx [] fun K hK => ?_
                simp [push_cast]
                repeat (refine And.intro (by clear hK; intros; first | omega | (simp_all; done) | (simp_all <;> omega)) ?_)
                refine hK _ ?_; clear hK K; refine Nav.imp ?_
                refine awp_cond (b := decide ((k : Int) < C.length)) (by simp [push_cast]) (fun hb => ?_) (fun hb => ?_) <;> (refine Nav.imp ?_)
                · have hlt : k < C.length := by simpa using hb
                  obtain ⟨y, hy⟩ := getq hlt
                  have e0 := wrap_i64 (n := (k : Int) + 1) (by omega) (by omega)
                  have hnx : opOn f a b (C.take (k + 1)) = Z ++ opRow f a b y := by rw [hZ]; unfold opOn; rw [flat_take _ hy]
                  have hZl : Z.length ≤ 2000000 := by
                    have : Z.length ≤ C.length := by rw [hZ]; exact take_flat_one' (opRow_len f a b) C k
                    omega
                  have hZ32 : (Z.length + 1) * 32 ≤ 140737488355328 := by omega
                  have g1 := row_ok a y hA ha
                  have g2 := row_ok b y hB hb0
                  have g3 := hg (rowOf a y) (rowOf b y) (rowOf_len hA y) (rowOf_len hB y) (rowOf_rv ha y) (rowOf_rv hb0 y)
                  have hl1 := rowOf_len hA y
                  have hl2 := rowOf_len hB y
                  have hsl2 := sweep_len f (rowOf a y) (rowOf b y)
                  have g4 := cloneR_ok (sweep f (rowOf a y) (rowOf b y)) (by omega)
                  have hor : opRow f a b y = if sweep f (rowOf a y) (rowOf b y) = [] then [] else [⟨y, sweep f (rowOf a y) (rowOf b y)⟩] := rfl
                  rw [hor] at hnx
                  clear hor hl1 hl2 hsl2
                  generalize sweep f (rowOf a y) (rowOf b y) = r at *
                  generalize rowOf a y = ra at *
                  generalize rowOf b y = rb at *
                  refine awp_region cx [] fun K hK => ?_
                  simp [push_cast, hy]
                  repeat (refine And.intro (by clear hK; intros; first | omega | (simp_all; done) | (simp_all <;> omega)) ?_)
                  refine hK _ ?_; clear hK K; refine Nav.imp ?_
                  refine awp_region_draw cx mixed [(3, .p (encRuns ra)), (6, .p (encRuns rb)), (7, .p (encRuns r))] fun K hK => ?_
                  simp [push_cast, g1, g2, g3]
                  repeat (refine And.intro (by clear hK; intros; first | omega | (simp_all; done) | (simp_all <;> omega)) ?_)
                  refine hK _ _ (by kernel_rfl) ?_; clear hK K; refine Nav.imp ?_
                  refine awp_region cx [] fun K hK => ?_
                  simp [push_cast]
                  repeat (refine And.intro (by clear hK; intros; first | omega | (simp_all; done) | (simp_all <;> omega)) ?_)
                  refine hK _ ?_; clear hK K; refine Nav.imp ?_
                  refine awp_cond (b := decide (0 < (r.length : Int))) (by simp [push_cast]) (fun hb => ?_) (fun hb => ?_) <;> (refine Nav.imp ?_)
                  · have hb : 0 < r.length := by simp at hb; omega
                    have hne : r ≠ [] := List.length_pos_iff.1 hb
                    rw [if_neg hne] at hnx
                    refine awp_region_draw cx mixed [(4, .f (encRuns r))] fun K hK => ?_
                    simp [push_cast, g4, hZ32]
                    repeat (refine And.intro (by clear hK; intros; first | omega | (simp_all; done) | (simp_all <;> omega)) ?_)
                    refine hK _ _ (by kernel_rfl) ?_; clear hK K; refine Nav.imp ?_
                    refine awp_region cx [] fun K hK => ?_
                    simp [push_cast, e0]
                    repeat (refine And.intro (by clear hK; intros; first | omega | (simp_all; done) | (simp_all <;> omega)) ?_)
                    refine hK _ ?_; clear hK K; refine Nav.imp ?_
                    refine ⟨(k + 1, Z ++ [⟨y, r⟩]), ⟨hlt, hnx.symm⟩, by simp only; omega, ?_⟩
                    refine weak_of [(0, some 0), (1, some 1), (2, some 2), (3, some 3), (4, some 28)] rfl (by simp [upT, up, upL, push_cast, Row.row]) (by simp [upH, upR, upL, up, push_cast, Row.row]) (by simp [namesOk, push_cast]) (by simp [olds])
                  · have hb : r = [] := by simpa using hb
                    rw [if_pos hb, List.append_nil] at hnx
                    refine awp_region cx [] fun K hK => ?_
                    simp [push_cast, e0]
                    repeat (refine And.intro (by clear hK; intros; first | omega | (simp_all; done) | (simp_all <;> omega)) ?_)
                    refine hK _ ?_; clear hK K; refine Nav.imp ?_
                    refine ⟨(k + 1, Z), ⟨hlt, hnx.symm⟩, by simp only; omega, ?_⟩
                    refine weak_of [(0, some 0), (1, some 1), (2, some 2), (3, some 3), (4, some 4)] rfl (by simp [upT, up, upL, push_cast, Row.row]) (by simp [upH, upR, upL, up, push_cast, Row.row]) (by simp [namesOk, push_cast]) (by simp [olds])
                · have hge : k = C.length := by simp at hb; omega
                  subst hge
                  rw [List.take_length, hres] at hZ
                  subst hZ
                  refine awp_freeze 4 (Z.map Row.row) rfl (by simp [push_cast, Row.row]) fun K hK => ?_
                  simp [push_cast, St.fz, fzT, fzH, fzO, fz, fzL, fzR, fzR_dr, fzR_app, fzR_set, fzL_map, Row.row]
                  refine hK _ ?_; clear hK K; refine Nav.imp ?_
                  refine awp_region cx [] fun K hK => ?_
                  simp [push_cast]
                  repeat (refine And.intro (by clear hK; intros; first | omega | (simp_all; done) | (simp_all <;> omega)) ?_)
                  refine hK _ ?_; clear hK K; refine Nav.imp ?_
                  simp [push_cast]



theorem subtractR_big (a b : List Row) (hA : bigR a) (hB : bigR b) : PC Tryz.prog 31 [.agg (regRow a), .agg (regRow b)] (.p (.agg (regRow (opR fD a b)))) := by
  have c1 := combine_big fD rfl 46 (fun x y h1 h2 h3 h4 => subtract_ok x y h1 h2 h3 h4) a b hA hB
  generalize opR fD a b = r at *
  refine pc_of_awp cx (fn := Tryz.f31) (c := _) Tryz.func31 rfl rfl (Nat.le_of_ble_eq_true rfl) ?_
  rw [Tryz.ntmps31]; refine Nav.imp ?_
  refine awp_region cx [] fun K hK => ?_
  simp [push_cast]
  repeat (refine And.intro (by clear hK; intros; first | omega | (simp_all; done) | (simp_all <;> omega)) ?_)
  refine hK _ ?_; clear hK K; refine Nav.imp ?_
  refine awp_region cx [(2, .p (.agg (regRow r)))] fun K hK => ?_
  simp [push_cast, c1]
  repeat (refine And.intro (by clear hK; intros; first | omega | (simp_all; done) | (simp_all <;> omega)) ?_)
  refine hK _ ?_; clear hK K; refine Nav.imp ?_
  simp [push_cast]


theorem subtractR_ok (a b : List Row) (hA : smallR a) (hB : smallR b) : PC Tryz.prog 31 [.agg (regRow a), .agg (regRow b)] (.p (.agg (regRow (opR fD a b)))) := subtractR_big a b (big_of hA) (big_of hB)
end Go.Proofs.YtagakfaiimaifaaGreat

set_option linter.unusedVariables false
set_option linter.unusedSimpArgs false
set_option maxRecDepth 100000
namespace Go.Proofs.YtagakfaiimaifaaGreat
open Go.Abs

/-! Opening by one cell, and the wide part of a region. -/
def openR (R : List Row) : List Row := dilR (eroR R 1) 1
theorem nearP_ofCells {R : List Row} (hv : validR R = true) {K : Nat} {y x : Int} : nearP R K y x ↔ ∃ c ∈ regCells R, c.y - K ≤ y ∧ y ≤ c.y + K ∧ c.x - K ≤ x ∧ x ≤ c.x + K := by
  constructor
  · rintro ⟨w, hw, h1, h2, r, hr, h3, h4⟩
    have hrb := (fine_apart.1 (row_fine hv hw).2).2.1.1 r hr
    by_cases q : x < r.a
    · exact ⟨⟨r.a, w.y⟩, mem_regCells.2 ⟨w, hw, rfl, r, hr, by simp, hrb⟩, h1, h2, by simp only; omega, by simp only; omega⟩
    · by_cases q2 : x < r.b
      · exact ⟨⟨x, w.y⟩, mem_regCells.2 ⟨w, hw, rfl, r, hr, by simp only; omega, q2⟩, h1, h2, by simp only; omega, by simp only; omega⟩
      · exact ⟨⟨r.b - 1, w.y⟩, mem_regCells.2 ⟨w, hw, rfl, r, hr, by simp only; omega, by simp only; omega⟩, h1, h2, by simp only; omega, by simp only; omega⟩
  · rintro ⟨c, hc, h1, h2, h3, h4⟩
    obtain ⟨w, hw, hy, r, hr, h5, h6⟩ := mem_regCells.1 hc
    exact ⟨w, hw, by omega, by omega, r, hr, by omega, by omega⟩
theorem cell_bd {R : List Row} (hv : validR R = true) {c : Cell} (hc : c ∈ regCells R) : -4096 ≤ c.x ∧ c.x < 4096 ∧ -4096 ≤ c.y ∧ c.y < 4096 := by
  obtain ⟨w, hw, hy, r, hr, h5, h6⟩ := mem_regCells.1 hc
  obtain ⟨h1, h2⟩ := row_fine hv hw
  have := (fine_apart.1 h2).2.2 r hr
  omega
/-- A region whose cells all keep off the rim can be dilated by one. -/
theorem rng_of {R : List Row} (hv : validR R = true) (h0 : 0 < R.length) (h : ∀ c ∈ regCells R, -4095 ≤ c.x ∧ c.x < 4095 ∧ -4095 ≤ c.y ∧ c.y < 4095) : rngB R 1 = true := by
  have hrow : ∀ w ∈ R, -4095 ≤ fstA w ∧ lstB w - 1 ≤ 4094 ∧ -4095 ≤ w.y ∧ w.y ≤ 4094 := fun w hw => by
    obtain ⟨f, z, hf, hz, hf1, hz1, hl⟩ := fine_ends (row_fine hv hw).2
    have e1 : fstA w = f.a := by simp [fstA, hf]
    have e2 : lstB w = z.b := by simp [lstB, hz]
    have ha := (fine_apart.1 (row_fine hv hw).2).2.1.1
    have q1 := ha f (List.mem_of_getElem? hf)
    have q2 := ha z (List.mem_of_getElem? hz)
    have p1 := h ⟨f.a, w.y⟩ (mem_regCells.2 ⟨w, hw, rfl, f, List.mem_of_getElem? hf, by simp, q1⟩)
    have p2 := h ⟨z.b - 1, w.y⟩ (mem_regCells.2 ⟨w, hw, rfl, z, List.mem_of_getElem? hz, by simp only; omega, by simp only; omega⟩)
    simp only at p1 p2
    rw [e1, e2]
    omega
  have hlow := (foldMin fstA R 4096).2.2 (-4095) (by omega) fun w hw => (hrow w hw).1
  have hhigh := (foldMax (fun w => lstB w - 1) R (-4096)).2.2 4094 (by omega) fun w hw => (hrow w hw).2.1
  have hf : fstY R = R[0].y := by simp [fstY, List.getElem?_eq_getElem h0]
  have hl : lstY R = R[R.length - 1].y := by simp [lstY, List.getElem?_eq_getElem (show R.length - 1 < R.length by omega)]
  have p1 := hrow R[0] (List.getElem_mem _)
  have p2 := hrow R[R.length - 1] (List.getElem_mem _)
  have e1 : -4095 ≤ lowX R := hlow
  have e2 : highX R ≤ 4094 := hhigh
  simp only [rngB, Bool.and_eq_true, Bool.not_eq_true', decide_eq_false_iff_not]
  constructor <;> omega
theorem open_err {R : List Row} (hv : validR R = true) : dilE (eroR R 1) 1 = 0 := by
  have hq : reachB R 1 = true := by simp [reachB, hv]
  obtain ⟨h1, h2⟩ := ero_facts hq
  unfold dilE
  rw [if_pos (by simp [reachB, h1])]
  by_cases h0 : 0 < (eroR R 1).length
  · rw [if_pos h0, if_pos]
    refine rng_of h1 h0 fun c hc => ?_
    have ha := (h2 c).1 hc
    have p1 := cell_bd hv (ha (-1) (-1) (by simp) (by simp) (by simp) (by simp))
    have p2 := cell_bd hv (ha 1 1 (by simp) (by simp) (by simp) (by simp))
    simp only at p1 p2
    omega
  · rw [if_neg h0]
theorem open_facts {R : List Row} (hv : validR R = true) : validR (openR R) = true ∧ ∀ c, c ∈ regCells (openR R) ↔ ∃ d : Cell, aroundC R 1 d ∧ d.x - 1 ≤ c.x ∧ c.x ≤ d.x + 1 ∧ d.y - 1 ≤ c.y ∧ c.y ≤ d.y + 1 := by
  have hq : reachB R 1 = true := by simp [reachB, hv]
  obtain ⟨h1, h2⟩ := ero_facts hq
  obtain ⟨_, h3, h4⟩ := dil_facts (open_err hv)
  refine ⟨h3, fun c => ?_⟩
  unfold openR
  rw [h4, nearP_ofCells h1]
  constructor
  · rintro ⟨d, hd, p1, p2, p3, p4⟩
    exact ⟨d, (h2 d).1 hd, p3, p4, p1, p2⟩
  · rintro ⟨d, hd, p1, p2, p3, p4⟩
    exact ⟨d, (h2 d).2 hd, p3, p4, p1, p2⟩
theorem open_bad {R : List Row} (hv : validR R = false) : openR R = [] := by
  have e : eroR R 1 = [] := by simp [eroR, reachB, hv]
  unfold openR
  rw [e]; rfl
theorem open_sub {R : List Row} (hv : validR R = true) {c : Cell} (hc : c ∈ regCells (openR R)) : c ∈ regCells R := by
  obtain ⟨d, hd, h1, h2, h3, h4⟩ := ((open_facts hv).2 c).1 hc
  have := hd (c.x - d.x) (c.y - d.y) (by omega) (by omega) (by omega) (by omega)
  rw [show (⟨d.x + (c.x - d.x), d.y + (c.y - d.y)⟩ : Cell) = c from by cases c; simp only [Cell.mk.injEq]; omega] at this
  exact this
theorem open_idem {R : List Row} (hv : validR R = true) : openR (openR R) = openR R := by
  obtain ⟨h1, h2⟩ := open_facts hv
  obtain ⟨h3, h4⟩ := open_facts h1
  refine region_uniq h3 h1 fun c => ⟨fun hc => open_sub h1 hc, fun hc => ?_⟩
  obtain ⟨d, hd, q⟩ := (h2 c).1 hc
  refine (h4 c).2 ⟨d, fun dx dy p1 p2 p3 p4 => ?_, q⟩
  exact (h2 _).2 ⟨d, hd, by simp only; omega, by simp only; omega, by simp only; omega, by simp only; omega⟩
theorem open_valid (R : List Row) : validR (openR R) = true := dil_valid _ _

theorem open_ok (R : List Row) (hR : bigR R) : PC Tryz.prog 30 [.agg (regRow R), .int .i64 1] (.p (.agg (regRow (openR R)))) := by
  have c1 := erode_ok R 1 hR
  have c2 := dilate_ok (eroR R 1) 1 (big_of (small_valid (ero_valid R 1)))
  have e : openR R = dilR (eroR R 1) 1 := rfl
  rw [e]
  generalize dilR (eroR R 1) 1 = D at *
  generalize dilE (eroR R 1) 1 = er at *
  generalize eroR R 1 = E at *
  refine pc_of_awp cx (fn := Tryz.f30) (c := _) Tryz.func30 rfl rfl (Nat.le_of_ble_eq_true rfl) ?_
  rw [Tryz.ntmps30]; refine Nav.imp ?_
  refine awp_region cx [] fun K hK => ?_
  simp [push_cast]
  repeat (refine And.intro (by clear hK; intros; first | omega | (simp_all; done) | (simp_all <;> omega)) ?_)
  refine hK _ ?_; clear hK K; refine Nav.imp ?_
  refine awp_region cx [(2, .p (.agg (regRow E))), (4, .p (.tup [.agg (regRow D), .int .i64 er]))] fun K hK => ?_
  simp [push_cast, c1, c2]
  repeat (refine And.intro (by clear hK; intros; first | omega | (simp_all; done) | (simp_all <;> omega)) ?_)
  refine hK _ ?_; clear hK K; refine Nav.imp ?_
  refine awp_region cx [] fun K hK => ?_
  simp [push_cast]
  repeat (refine And.intro (by clear hK; intros; first | omega | (simp_all; done) | (simp_all <;> omega)) ?_)
  refine hK _ ?_; clear hK K; refine Nav.imp ?_
  simp [push_cast]
theorem split_ok (R : List Row) (hR : bigR R) : PC Tryz.prog 10 [.agg (regRow R)] (.p (.tup [.agg (regRow (openR R)), .agg (regRow (opR fD R (openR R)))])) := by
  have c1 := open_ok R hR
  have c2 := subtractR_big R (openR R) hR (big_of (small_valid (open_valid R)))
  generalize opR fD R (openR R) = B at *
  generalize openR R = O at *
  refine pc_of_awp cx (fn := Tryz.f10) (c := _) Tryz.func10 rfl rfl (Nat.le_of_ble_eq_true rfl) ?_
  rw [Tryz.ntmps10]; refine Nav.imp ?_
  refine awp_region cx [] fun K hK => ?_
  simp [push_cast]
  repeat (refine And.intro (by clear hK; intros; first | omega | (simp_all; done) | (simp_all <;> omega)) ?_)
  refine hK _ ?_; clear hK K; refine Nav.imp ?_
  refine awp_region cx [(1, .p (.agg (regRow O)))] fun K hK => ?_
  simp [push_cast, c1]
  repeat (refine And.intro (by clear hK; intros; first | omega | (simp_all; done) | (simp_all <;> omega)) ?_)
  refine hK _ ?_; clear hK K; refine Nav.imp ?_
  refine awp_region_draw cx mixed [(3, .p (.agg (regRow B)))] fun K hK => ?_
  simp [push_cast, c2]
  repeat (refine And.intro (by clear hK; intros; first | omega | (simp_all; done) | (simp_all <;> omega)) ?_)
  refine hK _ _ (by kernel_rfl) ?_; clear hK K; refine Nav.imp ?_
  simp [push_cast]

/-! What the law on the wide part says. -/
theorem split_facts {R : List Row} (hv : validR R = true) : opR fD (openR R) (openR (openR R)) = [] ∧ opR fU (openR R) (opR fD R (openR R)) = R ∧ opR fI (openR R) (opR fD R (openR R)) = [] := by
  have h1 := (open_facts hv).1
  have h2 := (opR_facts (f := fD) rfl hv h1).1
  rw [open_idem hv]
  refine ⟨?_, ?_, ?_⟩
  · refine valid_empty (opR_facts (f := fD) rfl h1 h1).1 fun c hc => ?_
    rw [opD_iff h1 h1] at hc
    exact hc.2 hc.1
  · refine region_uniq (opR_facts (f := fU) rfl h1 h2).1 hv fun c => ?_
    rw [opU_iff h1 h2, opD_iff hv h1]
    constructor
    · rintro (h | h)
      · exact open_sub hv h
      · exact h.1
    · intro h
      by_cases q : c ∈ regCells (openR R)
      · exact .inl q
      · exact .inr ⟨h, q⟩
  · refine valid_empty (opR_facts (f := fI) rfl h1 h2).1 fun c hc => ?_
    rw [opI_iff h1 h2, opD_iff hv h1] at hc
    exact hc.2.2 hc.1
end Go.Proofs.YtagakfaiimaifaaGreat

set_option linter.unusedVariables false
set_option linter.unusedSimpArgs false
set_option maxRecDepth 100000
namespace Go.Proofs.YtagakfaiimaifaaGreat
open Go.Abs

/-! The reference's dilation by one. -/
def nbRow (y : Int) (w : Row) : List Run := if w.y < y - 1 ∨ y + 1 < w.y then [] else w.runs.map fun r => ⟨r.a - 1, r.b + 1⟩
def nbL (R : List Row) (y : Int) : List Run := R.flatMap (nbRow y)
theorem mem_nbL {R : List Row} {y : Int} {q : Run} : q ∈ nbL R y ↔ ∃ w ∈ R, y - 1 ≤ w.y ∧ w.y ≤ y + 1 ∧ ∃ r ∈ w.runs, q = ⟨r.a - 1, r.b + 1⟩ := by
  unfold nbL nbRow
  rw [List.mem_flatMap]
  refine exists_congr fun w => and_congr_right fun _ => ?_
  split
  · rename_i h
    constructor
    · intro h2; simp at h2
    · rintro ⟨h1, h2, _⟩; omega
  · rename_i h
    rw [List.mem_map]
    constructor
    · rintro ⟨r, hr, rfl⟩; exact ⟨by omega, by omega, r, hr, rfl⟩
    · rintro ⟨_, _, r, hr, rfl⟩; exact ⟨r, hr, rfl⟩
theorem nbL_in {R : List Row} {y x : Int} : inR (nbL R y) x = true ↔ nearP R 1 y x := by
  rw [inR_iff]
  unfold nearP
  constructor
  · rintro ⟨q, hq, h1, h2⟩
    obtain ⟨w, hw, a1, a2, r, hr, rfl⟩ := mem_nbL.1 hq
    exact ⟨w, hw, by simp; omega, by simp; omega, r, hr, by simpa using h1, by simpa using h2⟩
  · rintro ⟨w, hw, a1, a2, r, hr, h1, h2⟩
    have a1 : w.y - 1 ≤ y := by simpa using a1
    have a2 : y ≤ w.y + 1 := by simpa using a2
    exact ⟨⟨r.a - 1, r.b + 1⟩, mem_nbL.2 ⟨w, hw, by omega, by omega, r, hr, rfl⟩, by simpa using h1, by simpa using h2⟩
theorem nb_nrm {R : List Row} (hv : validR R = true) (y : Int) : nrm6 (nbL R y) = dilRun R 1 y :=
  apart_uniq (nrm6_facts _).1 (dilRun_ok hv (by omega) y).1 fun x => by rw [(nrm6_facts _).2, Bool.eq_iff_iff, nbL_in, dilRun_in hv (by omega)]
theorem nbRow_len {y : Int} {w : Row} : (nbRow y w).length ≤ w.runs.length := by unfold nbRow; split <;> simp
theorem nbL_le (y : Int) : ∀ l : List Row, (∀ w ∈ l, w.runs.length ≤ 8192) → (nbL l y).length ≤ 8192 * (l.filter fun w => decide (y - 1 ≤ w.y) && decide (w.y < y + 2)).length
  | [], _ => by simp [nbL]
  | w :: l, h => by
    have h1 := nbL_le y l fun v hv => h v (by simp [hv])
    have h2 := h w (by simp)
    have h3 := @nbRow_len y w
    have e : nbL (w :: l) y = nbRow y w ++ nbL l y := by simp [nbL]
    rw [e, List.length_append]
    by_cases q : y - 1 ≤ w.y ∧ w.y < y + 2
    · rw [List.filter_cons_of_pos (by simpa using q), List.length_cons]; omega
    · rw [List.filter_cons_of_neg (by simpa using q)]
      have : nbRow y w = [] := by unfold nbRow; rw [if_pos (by omega)]
      rw [this]; simpa using h1
theorem nbL_take {R : List Row} (hv : validR R = true) (y : Int) (i : Nat) : (nbL (R.take i) y).length ≤ 24576 := by
  have h1 := nbL_le y (R.take i) fun w hw => valid_runs hv (List.mem_of_mem_take hw)
  have hp : ((R.take i).filter fun w => decide (y - 1 ≤ w.y) && decide (w.y < y + 2)).Pairwise fun a b => a.y < b.y :=
    ((validR_pw.1 hv).2.sublist (List.take_sublist i R)).sublist List.filter_sublist
  have h2 := rows_len (lo := y - 1) (hi := y + 2) hp fun w hw => by
    have := (List.mem_filter.1 hw).2
    simpa using this
  omega
theorem nbL_next {R : List Row} {i : Nat} {w : Row} (y : Int) (h : R[i]? = some w) : nbL (R.take (i + 1)) y = nbL (R.take i) y ++ nbRow y w := flat_take _ h
theorem nbL_fits {R : List Row} (hv : validR R = true) (y : Int) : ∀ r ∈ nbL R y, r.a < r.b ∧ okX r.a = true ∧ okX r.b = true := fun q hq => by
  obtain ⟨w, hw, _, _, r, hr, rfl⟩ := mem_nbL.1 hq
  obtain ⟨_, h2, h3⟩ := fine_apart.1 (row_fine hv hw).2
  have h4 := h2.1 r hr
  have h5 := h3 r hr
  simp only [okX, Bool.and_eq_true, decide_eq_true_eq]
  omega

set_option maxHeartbeats 16000000 in
theorem dilate20_ok (R : List Row) (hv : validR R = true) (hrg : 0 < R.length → rngB R 1 = true) : PC Tryz.prog 66 [.agg (regRow R), .int .i64 1] (.p (.tup [.agg (regRow (dilR R 1)), .int .i64 0])) := by
  have hR := small_valid hv
  have c0 := validR_ok R hR
  rw [hv] at c0
  have c0' := reach20_ok
  have c1 := rbox_ok R hR
  have hl := hR.1
  by_cases h0 : 0 < R.length
  · have hs : some? R = true := by simp [some?, hv, h0]
    have hbx : boxD R = .tup [.agg (Cell.row ⟨lowX R, fstY R⟩), .agg (Cell.row ⟨highX R, lstY R⟩), .bool true] := by simp [boxD, boxLo, boxHi, hs]
    rw [hbx] at c1
    clear hbx
    obtain ⟨w0, hw0⟩ : ∃ w, R[0]? = some w := getq h0
    obtain ⟨w1, hw1⟩ : ∃ w, R[R.length - 1]? = some w := getq (by omega)
    have b1 := (row_fine hv (List.mem_of_getElem? hw0)).1
    have b2 := (row_fine hv (List.mem_of_getElem? hw1)).1
    have y1 : fstY R = w0.y := by simp [fstY, hw0]
    have y2 : lstY R = w1.y := by simp [lstY, hw1]
    have y3 := rows_ends hv (List.mem_of_getElem? hw0)
    have lx1 : lowX R ≤ 4096 := (foldMin fstA R 4096).1
    have lx2 : -4096 ≤ lowX R := (foldMin fstA R 4096).2.2 (-4096) (by omega) fun w hw => (row_ends0 (row_fine hv hw).2).2.1
    have hx1 : -4096 ≤ highX R := (foldMax (fun w => lstB w - 1) R (-4096)).1
    have hx2 : highX R ≤ 4096 := (foldMax (fun w => lstB w - 1) R (-4096)).2.2 4096 (by omega) fun w hw => by have := (row_ends0 (row_fine hv hw).2).2.2.2; show lstB w - 1 ≤ 4096; omega
    have hrg2 := hrg h0
    have hD : dilR R 1 = dilL R 1 := by unfold dilR; rw [hrg2]; simp [h0, reachB, hv]
    simp only [rngB, Bool.and_eq_true, Bool.not_eq_true', decide_eq_false_iff_not] at hrg2
    rw [hD]
    have p1 : ¬ lowX R - 1 < -4096 := by omega
    have p2 : ¬ fstY R - 1 < -4096 := by omega
    have p3 : ¬ 4096 ≤ highX R + 1 := by omega
    have p4 : ¬ 4096 ≤ lstY R + 1 := by omega
    have e1 := wrap_i64 (n := lowX R - 1) (by omega) (by omega)
    have e2 := wrap_i64 (n := fstY R - 1) (by omega) (by omega)
    have e3 := wrap_i64 (n := highX R + 1) (by omega) (by omega)
    have e4 := wrap_i64 (n := lstY R + 1) (by omega) (by omega)
    have hLd : dilL R 1 = rowsF (dilRun R 1) (ysD (fstY R - 1) (dilN R 1)) := rfl
    have hnr := fun y => @nb_nrm R hv y
    have hno := fun y => norm6_ok (nbL R y) (by have := nbL_take hv y R.length; rw [List.take_length] at this; omega) (nbL_fits hv y)
    have hN : (dilN R 1 : Int) = lstY R + 1 - (fstY R - 1) + 1 := by
      show ((lstY R + (1 : Nat) - (fstY R - (1 : Nat)) + 1).toNat : Int) = _
      omega
    have hyl : (ysD (fstY R - 1) (dilN R 1)).length = dilN R 1 := by simp [ysD]
    have hyt : ∀ j : Nat, j < dilN R 1 → (ysD (fstY R - 1) (dilN R 1))[j]? = some (fstY R - 1 + j) := fun j hj => by simp [ysD, hj]
    rw [hLd]
    clear hLd hD hs
    generalize hys : ysD (fstY R - 1) (dilN R 1) = ys at *
    have hNl : dilN R 1 ≤ 100000 := by omega
    have hdl : ∀ y, (dilRun R 1 y).length ≤ 8320 := fun y => (dilRun_ok hv (by omega) y).len
    generalize dilRun R 1 = F at *
    have hFr : ∀ y, dilRow F y = if F y = [] then [] else [⟨y, F y⟩] := fun y => rfl
    generalize lowX R = lx at *
    generalize highX R = hx at *
    generalize fstY R = fy at *
    generalize lstY R = ly at *
    generalize dilN R 1 = n at *
    clear hys hrg
    refine pc_of_awp cx (fn := Tryz.f66) (c := _) Tryz.func66 rfl rfl (Nat.le_of_ble_eq_true rfl) ?_
    rw [Tryz.ntmps66]; refine Nav.imp ?_
    refine awp_region cx [] fun K hK => ?_
    simp [push_cast]
    repeat (refine And.intro (by clear hK; intros; first | omega | (simp_all; done) | (simp_all <;> omega)) ?_)
    refine hK _ ?_; clear hK K; refine Nav.imp ?_
    refine awp_region cx [(1, .p (.bool true)), (5, .p (.bool true))] fun K hK => ?_
    simp [push_cast, c0, c0']
    repeat (refine And.intro (by clear hK; intros; first | omega | (simp_all; done) | (simp_all <;> omega)) ?_)
    refine hK _ ?_; clear hK K; refine Nav.imp ?_
    refine awp_cond (b := false) (by simp [push_cast]) (fun hb => ?_) (fun hb => ?_) <;> (refine Nav.imp ?_)
    · simp at hb
    · refine awp_region cx [(1, .p (.tup [.agg (Cell.row ⟨lx, fy⟩), .agg (Cell.row ⟨hx, ly⟩), .bool true]))] fun K hK => ?_
      simp [push_cast, c1, Cell.row]
      repeat (refine And.intro (by clear hK; intros; first | omega | (simp_all; done) | (simp_all <;> omega)) ?_)
      refine hK _ ?_; clear hK K; refine Nav.imp ?_
      refine awp_region cx [] fun K hK => ?_
      simp [push_cast]
      repeat (refine And.intro (by clear hK; intros; first | omega | (simp_all; done) | (simp_all <;> omega)) ?_)
      refine hK _ ?_; clear hK K; refine Nav.imp ?_
      refine awp_cond (b := false) (by simp [push_cast]) (fun hb => ?_) (fun hb => ?_) <;> (refine Nav.imp ?_)
      · simp at hb
      · refine awp_region cx [] fun K hK => ?_
        simp [push_cast, e1, e2, e3, e4, p1, p2, p3, p4, Cell.row]
        repeat (refine And.intro (by clear hK; intros; first | omega | (simp_all; done) | (simp_all <;> omega)) ?_)
        refine hK _ ?_; clear hK K; refine Nav.imp ?_
        refine awp_cond (b := false) (by simp [push_cast, p1, p2, p3, p4]) (fun hb => ?_) (fun hb => ?_) <;> (refine Nav.imp ?_)
        · simp at hb
        · refine awp_region cx [] fun K hK => ?_
          simp [push_cast]
          repeat (refine And.intro (by clear hK; intros; first | omega | (simp_all; done) | (simp_all <;> omega)) ?_)
          refine hK _ ?_; clear hK K; refine Nav.imp ?_
          refine awp_region cx [] fun K hK => ?_
          simp [push_cast, e2, Cell.row]
          repeat (refine And.intro (by clear hK; intros; first | omega | (simp_all; done) | (simp_all <;> omega)) ?_)
          refine hK _ ?_; clear hK K; refine Nav.imp ?_
          refine awp_loop (β := Nat × List Row) (fun s => ⟨132, [(1, .d (.int .i64 1)), (2, .ptr 0 0 0), (4, .ptr 1 0 0), (6, .ptr 2 0 0), (7, .ptr 3 0 0), (9, .ptr 4 0 0), (10, .d (.int .i64 (fy - 1 + s.1)))], [(0, some ⟨24, 1, [(regRow R).map .d]⟩), (1, some ⟨24, 1, [[.nl]]⟩), (2, some ⟨62, 2, [(Cell.row ⟨lx, fy⟩).map .d]⟩), (3, some ⟨62, 2, [(Cell.row ⟨hx, ly⟩).map .d]⟩), (4, some ⟨24, 1, [[.hs 5 0 s.2.length]]⟩), (5, some ⟨52, 2, dr (s.2.map Row.row)⟩)], 6⟩) (fun s => s.1 ≤ n ∧ s.2 = rowsF F (ys.take s.1)) (fun s => n - s.1) (0, []) ?_ ⟨Nat.zero_le _, rfl⟩ ?_
          · refine weak_of [(0, some 0), (1, some 1), (2, some 17), (3, some 18), (4, some 50), (5, none)] rfl (by simp [upT, up, upL, push_cast, Cell.row]) (by simp [upH, upR, upL, up, push_cast, Cell.row]) (by simp [namesOk, push_cast]) (by simp [olds])
          · rintro ⟨j, Z⟩ ⟨hj, hZ⟩
            simp only at hj hZ
            refine Nav.imp ?_
            have hZl : Z.length ≤ j := by
              have h5 := flat_one_len (dilRow_len F) (ys.take j)
              have h6 : Z.length = ((ys.take j).flatMap (dilRow F)).length := by rw [hZ]; rfl
              have h7 : (ys.take j).length ≤ j := by simp; omega
              omega
            have hZ32 : (Z.length + 1) * 32 ≤ 140737488355328 := by omega
            refine awp_region cx [] fun K hK => ?_
            simp [push_cast, e4, Cell.row]
            repeat (refine And.intro (by clear hK; intros; first | omega | (simp_all; done) | (simp_all <;> omega)) ?_)
            refine hK _ ?_; clear hK K; refine Nav.imp ?_
            by_cases hlt : j < n
            · have q1 : fy - 1 + (j : Int) ≤ ly + 1 := by omega
              have e0 := wrap_i64 (n := fy - 1 + (j : Int) + 1) (by omega) (by omega)
              have g1 := wrap_i64 (n := fy - 1 + (j : Int) - 1) (by omega) (by omega)
              have hyj := hyt j hlt
              have hnx : rowsF F (ys.take (j + 1)) = Z ++ dilRow F (fy - 1 + j) := by rw [hZ]; exact flat_take _ hyj
              rw [hFr] at hnx
              have c3 := hno (fy - 1 + j)
              rw [hnr] at c3
              have hul := hdl (fy - 1 + j)
              have hnl := fun i => nbL_take hv (fy - 1 + j) i
              have hnn := fun i w => @nbL_next R i w (fy - 1 + j)
              have hnall : nbL (R.take R.length) (fy - 1 + j) = nbL R (fy - 1 + j) := by rw [List.take_length]
              have hn0 : nbL (R.take 0) (fy - 1 + j) = [] := rfl
              have hnb : ∀ w, nbRow (fy - 1 + j) w = if w.y < fy - 1 + j - 1 ∨ fy - 1 + j + 1 < w.y then [] else w.runs.map fun r => ⟨r.a - 1, r.b + 1⟩ := fun w => rfl
              generalize F (fy - 1 + j) = u at *
              have hyy : -5000 ≤ fy - 1 + (j : Int) ∧ fy - 1 + (j : Int) ≤ 5000 := by omega
              have hyn : fy - 1 + ((j + 1 : Nat) : Int) = fy - 1 + (j : Int) + 1 := by omega
              generalize hyv : fy - 1 + (j : Int) = y at *
              refine awp_cond (b := true) (by simp [push_cast, q1]) (fun hb => ?_) (fun hb => ?_) <;> (refine Nav.imp ?_)
              · refine awp_region cx [] fun K hK => ?_
                simp [push_cast]
                repeat (refine And.intro (by clear hK; intros; first | omega | (simp_all; done) | (simp_all <;> omega)) ?_)
                refine hK _ ?_; clear hK K; refine Nav.imp ?_
                refine awp_region cx [] fun K hK => ?_
                simp [push_cast]
                repeat (refine And.intro (by clear hK; intros; first | omega | (simp_all; done) | (simp_all <;> omega)) ?_)
                refine hK _ ?_; clear hK K; refine Nav.imp ?_
                refine awp_loop (β := Nat × List Run) (fun s => ⟨132, [(1, .d (.int .i64 1)), (2, .ptr 0 0 0), (4, .ptr 1 0 0), (6, .ptr 2 0 0), (7, .ptr 3 0 0), (9, .ptr 4 0 0), (10, .d (.int .i64 y)), (11, .hs 6 0 s.2.length), (74, .d (encRows R)), (75, .d (.int .i64 R.length)), (76, .d (.int .i64 s.1))], [(0, some ⟨24, 1, [(regRow R).map .d]⟩), (1, some ⟨24, 1, [[.nl]]⟩), (2, some ⟨62, 2, [(Cell.row ⟨lx, fy⟩).map .d]⟩), (3, some ⟨62, 2, [(Cell.row ⟨hx, ly⟩).map .d]⟩), (4, some ⟨24, 1, [[.hs 5 0 Z.length]]⟩), (5, some ⟨52, 2, dr (Z.map Row.row)⟩), (6, some ⟨54, 2, dr (s.2.map Run.row)⟩)], 7⟩) (fun s => s.1 ≤ R.length ∧ s.2 = nbL (R.take s.1) y) (fun s => R.length - s.1) (0, []) ?_ ⟨Nat.zero_le _, hn0.symm⟩ ?_
                · refine weak_of [(0, some 0), (1, some 1), (2, some 2), (3, some 3), (4, some 4), (5, some 5), (6, none)] rfl (by simp [upT, up, upL, push_cast, Cell.row]) (by simp [upH, upR, upL, up, push_cast, Cell.row]) (by simp [namesOk, push_cast]) (by simp [olds])
                · rintro ⟨i, L⟩ ⟨hi, hL⟩
                  simp only at hi hL
                  have hLl := hnl i
                  rw [← hL] at hLl
                  refine Nav.imp ?_
                  refine awp_region cx [] fun K hK => ?_
                  simp [push_cast]
                  repeat (refine And.intro (by clear hK; intros; first | omega | (simp_all; done) | (simp_all <;> omega)) ?_)
                  refine hK _ ?_; clear hK K; refine Nav.imp ?_
                  refine awp_cond (b := decide ((i : Int) < R.length)) (by simp [push_cast]) (fun hb => ?_) (fun hb => ?_) <;> (refine Nav.imp ?_)
                  · have hlt2 : i < R.length := by simpa using hb
                    obtain ⟨w, hw⟩ := getq hlt2
                    have f0 := wrap_i64 (n := (i : Int) + 1) (by omega) (by omega)
                    have hnx2 := hnn i w hw
                    rw [← hL, hnb] at hnx2
                    have hwb := row_fine hv (List.mem_of_getElem? hw)
                    have hwl := valid_runs hv (List.mem_of_getElem? hw)
                    have hrb : ∀ (k : Nat) (r : Run), w.runs[k]? = some r → -4096 ≤ r.a ∧ r.b ≤ 4096 ∧ r.a < r.b := fun k r hk => by
                      obtain ⟨_, h2, h3⟩ := fine_apart.1 hwb.2
                      have h4 := h2.1 r (List.mem_of_getElem? hk)
                      have h5 := h3 r (List.mem_of_getElem? hk)
                      omega
                    replace hwb := hwb.1
                    obtain ⟨wy, wr⟩ := w
                    simp only at hnx2 hwb hwl hrb
                    refine awp_region cx [] fun K hK => ?_
                    simp [push_cast, hw, Row.row]
                    repeat (refine And.intro (by clear hK; intros; first | omega | (simp_all; done) | (simp_all <;> omega)) ?_)
                    refine hK _ ?_; clear hK K; refine Nav.imp ?_
                    by_cases s1 : wy < y - 1
                    · rw [if_pos (.inl s1), List.append_nil] at hnx2
                      refine awp_region cx [] fun K hK => ?_
                      simp [push_cast, g1, s1, Row.row]
                      repeat (refine And.intro (by clear hK; intros; first | omega | (simp_all; done) | (simp_all <;> omega)) ?_)
                      refine hK _ ?_; clear hK K; refine Nav.imp ?_
                      refine awp_cond (b := true) (by simp [push_cast, s1]) (fun hb => ?_) (fun hb => ?_) <;> (refine Nav.imp ?_)
                      · refine awp_region cx [] fun K hK => ?_
                        simp [push_cast, f0]
                        repeat (refine And.intro (by clear hK; intros; first | omega | (simp_all; done) | (simp_all <;> omega)) ?_)
                        refine hK _ ?_; clear hK K; refine Nav.imp ?_
                        refine ⟨(i + 1, L), ⟨hlt2, hnx2.symm⟩, by simp only; omega, ?_⟩
                        refine weak_of [(0, some 0), (1, some 1), (2, some 2), (3, some 3), (4, some 4), (5, some 5), (6, some 6)] rfl (by simp [upT, up, upL, push_cast, Cell.row]) (by simp [upH, upR, upL, up, push_cast, Cell.row]) (by simp [namesOk, push_cast]) (by simp [olds])
                      · simp at hb
                    · by_cases s2 : y + 1 < wy
                      · rw [if_pos (.inr s2), List.append_nil] at hnx2
                        refine awp_region cx [] fun K hK => ?_
                        simp [push_cast, g1, e0, s1, s2, Row.row]
                        repeat (refine And.intro (by clear hK; intros; first | omega | (simp_all; done) | (simp_all <;> omega)) ?_)
                        refine hK _ ?_; clear hK K; refine Nav.imp ?_
                        refine awp_cond (b := true) (by simp [push_cast, s1, s2]) (fun hb => ?_) (fun hb => ?_) <;> (refine Nav.imp ?_)
                        · refine awp_region cx [] fun K hK => ?_
                          simp [push_cast, f0]
                          repeat (refine And.intro (by clear hK; intros; first | omega | (simp_all; done) | (simp_all <;> omega)) ?_)
                          refine hK _ ?_; clear hK K; refine Nav.imp ?_
                          refine ⟨(i + 1, L), ⟨hlt2, hnx2.symm⟩, by simp only; omega, ?_⟩
                          refine weak_of [(0, some 0), (1, some 1), (2, some 2), (3, some 3), (4, some 4), (5, some 5), (6, some 6)] rfl (by simp [upT, up, upL, push_cast, Cell.row]) (by simp [upH, upR, upL, up, push_cast, Cell.row]) (by simp [namesOk, push_cast]) (by simp [olds])
                        · simp at hb
                      · rw [if_neg (by omega)] at hnx2
                        refine awp_region cx [] fun K hK => ?_
                        simp [push_cast, g1, e0, s1, s2, Row.row]
                        repeat (refine And.intro (by clear hK; intros; first | omega | (simp_all; done) | (simp_all <;> omega)) ?_)
                        refine hK _ ?_; clear hK K; refine Nav.imp ?_
                        refine awp_cond (b := false) (by simp [push_cast, s1, s2]) (fun hb => ?_) (fun hb => ?_) <;> (refine Nav.imp ?_)
                        · simp at hb
                        · refine awp_region cx [] fun K hK => ?_
                          simp [push_cast, Row.row]
                          repeat (refine And.intro (by clear hK; intros; first | omega | (simp_all; done) | (simp_all <;> omega)) ?_)
                          refine hK _ ?_; clear hK K; refine Nav.imp ?_
                          refine awp_loop (β := Nat × List Run) (fun s => ⟨132, [(1, .d (.int .i64 1)), (2, .ptr 0 0 0), (4, .ptr 1 0 0), (6, .ptr 2 0 0), (7, .ptr 3 0 0), (9, .ptr 4 0 0), (10, .d (.int .i64 y)), (11, .hs 6 0 s.2.length), (74, .d (encRows R)), (75, .d (.int .i64 R.length)), (76, .d (.int .i64 i)), (95, .d (encRuns wr)), (96, .d (.int .i64 wr.length)), (97, .d (.int .i64 s.1))], [(0, some ⟨24, 1, [(regRow R).map .d]⟩), (1, some ⟨24, 1, [[.nl]]⟩), (2, some ⟨62, 2, [(Cell.row ⟨lx, fy⟩).map .d]⟩), (3, some ⟨62, 2, [(Cell.row ⟨hx, ly⟩).map .d]⟩), (4, some ⟨24, 1, [[.hs 5 0 Z.length]]⟩), (5, some ⟨52, 2, dr (Z.map Row.row)⟩), (6, some ⟨54, 2, dr (s.2.map Run.row)⟩)], 7⟩) (fun s => s.1 ≤ wr.length ∧ s.2 = L ++ (wr.take s.1).map fun r => ⟨r.a - 1, r.b + 1⟩) (fun s => wr.length - s.1) (0, L) ?_ ⟨Nat.zero_le _, by simp⟩ ?_
                          · refine weak_of [(0, some 0), (1, some 1), (2, some 2), (3, some 3), (4, some 4), (5, some 5), (6, some 6)] rfl (by simp [upT, up, upL, push_cast, Cell.row]) (by simp [upH, upR, upL, up, push_cast, Cell.row]) (by simp [namesOk, push_cast]) (by simp [olds])
                          · rintro ⟨k, M⟩ ⟨hk, hM⟩
                            simp only at hk hM
                            have hMl : M.length ≤ 24576 + 8192 := by
                              have : M.length = L.length + (wr.take k).length := by rw [hM]; simp
                              have h7 : (wr.take k).length ≤ k := by simp; omega
                              omega
                            have hM16 : (M.length + 1) * 16 ≤ 140737488355328 := by omega
                            refine Nav.imp ?_
                            refine awp_region cx [] fun K hK => ?_
                            simp [push_cast]
                            repeat (refine And.intro (by clear hK; intros; first | omega | (simp_all; done) | (simp_all <;> omega)) ?_)
                            refine hK _ ?_; clear hK K; refine Nav.imp ?_
                            refine awp_cond (b := decide ((k : Int) < wr.length)) (by simp [push_cast]) (fun hb => ?_) (fun hb => ?_) <;> (refine Nav.imp ?_)
                            · have hlt3 : k < wr.length := by simpa using hb
                              obtain ⟨r, hr⟩ := getq hlt3
                              have k0 := wrap_i64 (n := (k : Int) + 1) (by omega) (by omega)
                              have hrb2 := hrb k r hr
                              have hMn : L ++ (wr.take (k + 1)).map (fun r => ⟨r.a - 1, r.b + 1⟩) = M ++ [⟨r.a - 1, r.b + 1⟩] := by rw [hM, take_get hr]; simp
                              obtain ⟨a, b⟩ := r
                              simp only at hrb2 hMn
                              have k1 := wrap_i64 (n := a - 1) (by omega) (by omega)
                              have k2 := wrap_i64 (n := b + 1) (by omega) (by omega)
                              refine awp_region cx [] fun K hK => ?_
                              simp [push_cast, hr, Run.row]
                              repeat (refine And.intro (by clear hK; intros; first | omega | (simp_all; done) | (simp_all <;> omega)) ?_)
                              refine hK _ ?_; clear hK K; refine Nav.imp ?_
                              refine awp_region cx [] fun K hK => ?_
                              simp [push_cast, k1, k2, hM16, Run.row]
                              repeat (refine And.intro (by clear hK; intros; first | omega | (simp_all; done) | (simp_all <;> omega)) ?_)
                              refine hK _ ?_; clear hK K; refine Nav.imp ?_
                              refine awp_region cx [] fun K hK => ?_
                              simp [push_cast, k0]
                              repeat (refine And.intro (by clear hK; intros; first | omega | (simp_all; done) | (simp_all <;> omega)) ?_)
                              refine hK _ ?_; clear hK K; refine Nav.imp ?_
                              refine ⟨(k + 1, M ++ [⟨a - 1, b + 1⟩]), ⟨hlt3, hMn.symm⟩, by simp only; omega, ?_⟩
                              refine weak_of [(0, some 0), (1, some 1), (2, some 2), (3, some 3), (4, some 4), (5, some 5), (6, some 23)] rfl (by simp [upT, up, upL, push_cast, Cell.row, Run.row]) (by simp [upH, upR, upL, up, push_cast, Cell.row, Run.row]) (by simp [namesOk, push_cast]) (by simp [olds])
                            · have hke : k = wr.length := by simp at hb; omega
                              subst hke
                              rw [List.take_length, ← hnx2] at hM
                              refine awp_region cx [] fun K hK => ?_
                              simp [push_cast, f0]
                              repeat (refine And.intro (by clear hK; intros; first | omega | (simp_all; done) | (simp_all <;> omega)) ?_)
                              refine hK _ ?_; clear hK K; refine Nav.imp ?_
                              refine ⟨(i + 1, M), ⟨hlt2, hM⟩, by simp only; omega, ?_⟩
                              refine weak_of [(0, some 0), (1, some 1), (2, some 2), (3, some 3), (4, some 4), (5, some 5), (6, some 6)] rfl (by simp [upT, up, upL, push_cast, Cell.row]) (by simp [upH, upR, upL, up, push_cast, Cell.row]) (by simp [namesOk, push_cast]) (by simp [olds])
                  · have hie : i = R.length := by simp at hb; omega
                    subst hie
                    rw [hnall] at hL
                    rw [← hL] at c3
                    refine awp_freeze 6 (L.map Run.row) rfl (by simp [push_cast]) fun K hK => ?_
                    simp [push_cast, St.fz, fzT, fzH, fzO, fz, fzL, fzR, fzR_dr, fzR_app, fzR_set, fzL_map]
                    refine hK _ ?_; clear hK K; refine Nav.imp ?_
                    have ht : List.take L.length (L.map Run.row) = L.map Run.row := List.take_of_length_le (by simp)
                    refine awp_region cx [(1, .p (.tup [encRuns u, .int .i64 0]))] fun K hK => ?_
                    simp [push_cast, c3, ht]
                    repeat (refine And.intro (by clear hK; intros; first | omega | (simp_all; done) | (simp_all <;> omega)) ?_)
                    refine hK _ ?_; clear hK K; refine Nav.imp ?_
                    refine awp_region cx [] fun K hK => ?_
                    simp [push_cast]
                    repeat (refine And.intro (by clear hK; intros; first | omega | (simp_all; done) | (simp_all <;> omega)) ?_)
                    refine hK _ ?_; clear hK K; refine Nav.imp ?_
                    cases hu : u with
                    | nil =>
                      rw [hu] at hnx
                      simp only [if_true, List.append_nil] at hnx
                      refine awp_cond (b := false) (by simp [push_cast, hu]) (fun hb => ?_) (fun hb => ?_) <;> (refine Nav.imp ?_)
                      · simp at hb
                      · refine awp_region cx [] fun K hK => ?_
                        simp [push_cast, e0]
                        repeat (refine And.intro (by clear hK; intros; first | omega | (simp_all; done) | (simp_all <;> omega)) ?_)
                        refine hK _ ?_; clear hK K; refine Nav.imp ?_
                        refine ⟨(j + 1, Z), ⟨hlt, hnx.symm⟩, by simp only; omega, ?_⟩
                        simp only [hyn]
                        refine weak_of [(0, some 0), (1, some 1), (2, some 2), (3, some 3), (4, some 4), (5, some 5)] rfl (by simp [upT, up, upL, push_cast, Cell.row]) (by simp [upH, upR, upL, up, push_cast, Cell.row]) (by simp [namesOk, push_cast]) (by simp [olds])
                    | cons q u' =>
                      have hne : ¬ u = [] := by rw [hu]; simp
                      have hpos : 0 < u.length := by rw [hu]; simp
                      rw [if_neg hne] at hnx
                      rw [← hu]
                      clear hu
                      refine awp_cond (b := true) (by simp [push_cast, hpos]) (fun hb => ?_) (fun hb => ?_) <;> (refine Nav.imp ?_)
                      · refine awp_region cx [] fun K hK => ?_
                        simp [push_cast, hZ32, Row.row]
                        repeat (refine And.intro (by clear hK; intros; first | omega | (simp_all; done) | (simp_all <;> omega)) ?_)
                        refine hK _ ?_; clear hK K; refine Nav.imp ?_
                        refine awp_region cx [] fun K hK => ?_
                        simp [push_cast, e0]
                        repeat (refine And.intro (by clear hK; intros; first | omega | (simp_all; done) | (simp_all <;> omega)) ?_)
                        refine hK _ ?_; clear hK K; refine Nav.imp ?_
                        refine ⟨(j + 1, Z ++ [⟨y, u⟩]), ⟨hlt, hnx.symm⟩, by simp only; omega, ?_⟩
                        simp only [hyn]
                        refine weak_of [(0, some 0), (1, some 1), (2, some 2), (3, some 3), (4, some 4), (5, some 23)] rfl (by simp [upT, up, upL, push_cast, Row.row, Cell.row]) (by simp [upH, upR, upL, up, push_cast, Row.row, Cell.row]) (by simp [namesOk, push_cast]) (by simp [olds])
                      · simp at hb
              · simp at hb
            · have hje : j = n := by omega
              subst hje
              have q1 : ¬ fy - 1 + (j : Int) ≤ ly + 1 := by omega
              rw [← hyl, List.take_length] at hZ
              rw [← hZ]
              have ht2 : List.take Z.length (Z.map Row.row) = Z.map Row.row := List.take_of_length_le (by simp)
              refine awp_cond (b := false) (by simp [push_cast, q1]) (fun hb => ?_) (fun hb => ?_) <;> (refine Nav.imp ?_)
              · simp at hb
              · refine awp_freeze 5 (Z.map Row.row) rfl (by simp [push_cast, Row.row, ht2]) fun K hK => ?_
                simp [push_cast, St.fz, fzT, fzH, fzO, fz, fzL, fzR, fzR_dr, fzR_app, fzR_set, fzL_map, Row.row, ht2]
                refine hK _ ?_; clear hK K; refine Nav.imp ?_
                refine awp_region cx [] fun K hK => ?_
                simp [push_cast]
                repeat (refine And.intro (by clear hK; intros; first | omega | (simp_all; done) | (simp_all <;> omega)) ?_)
                refine hK _ ?_; clear hK K; refine Nav.imp ?_
                simp [push_cast]
  · have hs : some? R = false := by simp [some?, h0]
    have hD : dilR R 1 = [] := by unfold dilR; simp [h0]
    have hbx : boxD R = .tup [.agg (Cell.row ⟨0, 0⟩), .agg (Cell.row ⟨0, 0⟩), .bool false] := by simp [boxD, boxLo, boxHi, hs]
    rw [hbx] at c1
    rw [hD]
    refine pc_of_awp cx (fn := Tryz.f66) (c := _) Tryz.func66 rfl rfl (Nat.le_of_ble_eq_true rfl) ?_
    rw [Tryz.ntmps66]; refine Nav.imp ?_
    refine awp_region cx [] fun K hK => ?_
    simp [push_cast]
    repeat (refine And.intro (by clear hK; intros; first | omega | (simp_all; done) | (simp_all <;> omega)) ?_)
    refine hK _ ?_; clear hK K; refine Nav.imp ?_
    refine awp_region cx [(1, .p (.bool true)), (5, .p (.bool true))] fun K hK => ?_
    simp [push_cast, c0, c0']
    repeat (refine And.intro (by clear hK; intros; first | omega | (simp_all; done) | (simp_all <;> omega)) ?_)
    refine hK _ ?_; clear hK K; refine Nav.imp ?_
    refine awp_cond (b := false) (by simp [push_cast]) (fun hb => ?_) (fun hb => ?_) <;> (refine Nav.imp ?_)
    · simp at hb
    · refine awp_region cx [(1, .p (.tup [.agg (Cell.row ⟨0, 0⟩), .agg (Cell.row ⟨0, 0⟩), .bool false]))] fun K hK => ?_
      simp [push_cast, c1, Cell.row]
      repeat (refine And.intro (by clear hK; intros; first | omega | (simp_all; done) | (simp_all <;> omega)) ?_)
      refine hK _ ?_; clear hK K; refine Nav.imp ?_
      refine awp_region cx [] fun K hK => ?_
      simp [push_cast]
      repeat (refine And.intro (by clear hK; intros; first | omega | (simp_all; done) | (simp_all <;> omega)) ?_)
      refine hK _ ?_; clear hK K; refine Nav.imp ?_
      refine awp_cond (b := true) (by simp [push_cast]) (fun hb => ?_) (fun hb => ?_) <;> (refine Nav.imp ?_)
      · refine awp_region cx [] fun K hK => ?_
        simp [push_cast]
        repeat (refine And.intro (by clear hK; intros; first | omega | (simp_all; done) | (simp_all <;> omega)) ?_)
        refine hK _ ?_; clear hK K; refine Nav.imp ?_
        simp [push_cast]
      · simp at hb
end Go.Proofs.YtagakfaiimaifaaGreat
