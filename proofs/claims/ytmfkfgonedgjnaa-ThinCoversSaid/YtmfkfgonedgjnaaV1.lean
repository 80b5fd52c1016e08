/-
  The walks of this seat's functions and the plain laws behind them: part V1.
-/
import Derived.Test.YtmfkfgonedgjnaaBase
set_option linter.unusedVariables false
set_option linter.unusedSimpArgs false
namespace Go.Proofs.Ytmfkfgonedgjnaa
open Go.Abs

/-! Validity of tracks. -/
def dist (a b : Cell) : Int := max (a.x - b.x) (b.x - a.x) + max (a.y - b.y) (b.y - a.y)
def nbT (a b : Cell) : Bool := dist a b == 1
theorem sq_one {x y : Int} (hx : -8192 ≤ x ∧ x ≤ 8192) (hy : -8192 ≤ y ∧ y ≤ 8192) : (x * x + y * y = 1) ↔ max x (-x) + max y (-y) = 1 := by
  have hx2 : 0 ≤ x * x := by
    rcases Int.le_total 0 x with h | h
    · exact Int.mul_nonneg h h
    · exact Int.mul_nonneg_of_nonpos_of_nonpos h h
  have hy2 : 0 ≤ y * y := by
    rcases Int.le_total 0 y with h | h
    · exact Int.mul_nonneg h h
    · exact Int.mul_nonneg_of_nonpos_of_nonpos h h
  have big : ∀ z : Int, 2 ≤ max z (-z) → 4 ≤ z * z := by
    intro z hz
    rcases Int.le_total 0 z with h | h
    · have := Int.mul_le_mul (show (2 : Int) ≤ z by omega) (show (2 : Int) ≤ z by omega) (by omega) (by omega); omega
    · have := Int.mul_le_mul (show (2 : Int) ≤ -z by omega) (show (2 : Int) ≤ -z by omega) (by omega) (by omega)
      rw [Int.neg_mul_neg] at this; omega
  have small : ∀ z : Int, max z (-z) ≤ 1 → z * z = max z (-z) := by
    intro z hz
    have : z = 0 ∨ z = 1 ∨ z = -1 := by omega
    rcases this with rfl | rfl | rfl <;> decide
  by_cases h1 : 2 ≤ max x (-x)
  · have := big x h1; constructor <;> intro <;> omega
  · by_cases h2 : 2 ≤ max y (-y)
    · have := big y h2; constructor <;> intro <;> omega
    · rw [small x (by omega), small y (by omega)]

theorem sq_bd {z : Int} (h : -8192 ≤ z ∧ z ≤ 8192) : 0 ≤ z * z ∧ z * z ≤ 67108864 := by
  rcases Int.le_total 0 z with h0 | h0
  · exact ⟨Int.mul_nonneg h0 h0, by have := Int.mul_le_mul h.2 h.2 h0 (by omega); omega⟩
  · have h1 := Int.mul_le_mul (show -z ≤ 8192 by omega) (show -z ≤ 8192 by omega) (by omega) (by omega)
    rw [Int.neg_mul_neg] at h1
    exact ⟨Int.mul_nonneg_of_nonpos_of_nonpos h0 h0, by omega⟩
theorem wraps {a b : Cell} (ha : onG a = true) (hb : onG b = true) : IntKind.i64.wrap (a.x - b.x) = a.x - b.x ∧ IntKind.i64.wrap (a.y - b.y) = a.y - b.y ∧ IntKind.i64.wrap (b.x - a.x) = b.x - a.x ∧ IntKind.i64.wrap (b.y - a.y) = b.y - a.y ∧
    -8192 ≤ a.x - b.x ∧ a.x - b.x ≤ 8192 ∧ -8192 ≤ a.y - b.y ∧ a.y - b.y ≤ 8192 := by
  have := onG_bd ha; have := onG_bd hb
  exact ⟨wrap_i64 (by omega) (by omega), wrap_i64 (by omega) (by omega), wrap_i64 (by omega) (by omega), wrap_i64 (by omega) (by omega), by omega, by omega, by omega, by omega⟩

theorem neighbors_ok {a b : Cell} (ha : onG a = true) (hb : onG b = true) : PC Try.prog 77 [.agg a.row, .agg b.row] (.p (.bool (nbT a b))) := by
  obtain ⟨w1, w2, w3, w4, b1, b2, b3, b4⟩ := wraps ha hb
  have hd : dist a b = max (a.x - b.x) (-(a.x - b.x)) + max (a.y - b.y) (-(a.y - b.y)) := by unfold dist; omega
  have s1 := sq_bd (z := a.x - b.x) (by omega)
  have s2 := sq_bd (z := a.y - b.y) (by omega)
  have s3 := sq_one (x := a.x - b.x) (y := a.y - b.y) (by omega) (by omega)
  simp only [nbT, hd]
  have e3 : (max (a.x - b.x) (-(a.x - b.x)) + max (a.y - b.y) (-(a.y - b.y)) == 1) = ((a.x - b.x) * (a.x - b.x) + (a.y - b.y) * (a.y - b.y) == 1) := by
    rw [Bool.eq_iff_iff]; simp [s3]
  rw [e3]
  clear e3 s3 hd
  generalize hn1 : a.x - b.x = n1 at *
  generalize hn2 : a.y - b.y = n2 at *
  have w6 := wrap_i64 (n := n1 * n1) (by omega) (by omega)
  have w7 := wrap_i64 (n := n2 * n2) (by omega) (by omega)
  have w8 := wrap_i64 (n := n1 * n1 + n2 * n2) (by omega) (by omega)
  refine pc_of_awp cx (fn := Try.f77) (c := _) Try.func77 rfl rfl (Nat.le_of_ble_eq_true rfl) ?_
  rw [Try.ntmps77]; (repeat (first | refine awp_seq ?_ | refine awp_block ?_ | refine awp_scope ?_ | refine awp_skip ?_ | refine awp_exit ?_ | refine awp_ret ?_ | refine sq_n ?_ | refine sq_r ?_ | refine sq_x ?_ | refine bq_n ?_ | refine bq_r ?_ | refine bq_x ?_ | refine bq_y rfl ?_ | refine pq_n ?_ | refine pq_r ?_ | refine pq_x ?_))
  refine awp_region cx [] fun K hK => ?_
  simp [push_cast]
  repeat (refine And.intro (by clear hK; intros; first | omega | (simp_all; done) | (simp_all <;> omega)) ?_)
  refine hK _ ?_; clear hK K; (repeat (first | refine awp_seq ?_ | refine awp_block ?_ | refine awp_scope ?_ | refine awp_skip ?_ | refine awp_exit ?_ | refine awp_ret ?_ | refine sq_n ?_ | refine sq_r ?_ | refine sq_x ?_ | refine bq_n ?_ | refine bq_r ?_ | refine bq_x ?_ | refine bq_y rfl ?_ | refine pq_n ?_ | refine pq_r ?_ | refine pq_x ?_))
  refine awp_region_draw cx mixed [] fun K hK => ?_
  simp [push_cast, hn1, hn2, w1, w2]
  repeat (refine And.intro (by clear hK; intros; first | omega | (simp_all; done) | (simp_all <;> omega)) ?_)
  refine hK _ _ (by kernel_rfl) ?_; clear hK K; (repeat (first | refine awp_seq ?_ | refine awp_block ?_ | refine awp_scope ?_ | refine awp_skip ?_ | refine awp_exit ?_ | refine awp_ret ?_ | refine sq_n ?_ | refine sq_r ?_ | refine sq_x ?_ | refine bq_n ?_ | refine bq_r ?_ | refine bq_x ?_ | refine bq_y rfl ?_ | refine pq_n ?_ | refine pq_r ?_ | refine pq_x ?_))
  refine awp_region cx [] fun K hK => ?_
  simp [push_cast, w6, w7, w8]
  repeat (refine And.intro (by clear hK; intros; first | omega | (simp_all; done) | (simp_all <;> omega)) ?_)
  refine hK _ ?_; clear hK K; (repeat (first | refine awp_seq ?_ | refine awp_block ?_ | refine awp_scope ?_ | refine awp_skip ?_ | refine awp_exit ?_ | refine awp_ret ?_ | refine sq_n ?_ | refine sq_r ?_ | refine sq_x ?_ | refine bq_n ?_ | refine bq_r ?_ | refine bq_x ?_ | refine bq_y rfl ?_ | refine pq_n ?_ | refine pq_r ?_ | refine pq_x ?_))
  simp [push_cast]

theorem onGridT_ok (c : Cell) : PC Try.prog 76 [.agg c.row] (.p (.bool (onG c))) := by
  refine pc_of_awp cx (fn := Try.f76) (c := _) Try.func76 rfl rfl (Nat.le_of_ble_eq_true rfl) ?_
  rw [Try.ntmps76]; (repeat (first | refine awp_seq ?_ | refine awp_block ?_ | refine awp_scope ?_ | refine awp_skip ?_ | refine awp_exit ?_ | refine awp_ret ?_ | refine sq_n ?_ | refine sq_r ?_ | refine sq_x ?_ | refine bq_n ?_ | refine bq_r ?_ | refine bq_x ?_ | refine bq_y rfl ?_ | refine pq_n ?_ | refine pq_r ?_ | refine pq_x ?_))
  refine awp_region cx [] fun K hK => ?_
  simp [push_cast]
  repeat (refine And.intro (by clear hK; intros; first | omega | (simp_all; done) | (simp_all <;> omega)) ?_)
  refine hK _ ?_; clear hK K; (repeat (first | refine awp_seq ?_ | refine awp_block ?_ | refine awp_scope ?_ | refine awp_skip ?_ | refine awp_exit ?_ | refine awp_ret ?_ | refine sq_n ?_ | refine sq_r ?_ | refine sq_x ?_ | refine bq_n ?_ | refine bq_r ?_ | refine bq_x ?_ | refine bq_y rfl ?_ | refine pq_n ?_ | refine pq_r ?_ | refine pq_x ?_))
  refine awp_region cx [] fun K hK => ?_
  simp [push_cast]
  repeat (refine And.intro (by clear hK; intros; first | omega | (simp_all; done) | (simp_all <;> omega)) ?_)
  refine hK _ ?_; clear hK K; (repeat (first | refine awp_seq ?_ | refine awp_block ?_ | refine awp_scope ?_ | refine awp_skip ?_ | refine awp_exit ?_ | refine awp_ret ?_ | refine sq_n ?_ | refine sq_r ?_ | refine sq_x ?_ | refine bq_n ?_ | refine bq_r ?_ | refine bq_x ?_ | refine bq_y rfl ?_ | refine pq_n ?_ | refine pq_r ?_ | refine pq_x ?_))
  simp [push_cast, onG]
def okAt (l : List Cell) (i : Nat) : Bool := match l[i]?, l[i - 1]? with
  | some c, some p => onG c && (i == 0 || nbT p c)
  | _, _ => false
def roleOk (t : Track) : Bool := decide (1 ≤ t.role) && decide (t.role ≤ 7) && decide (1 ≤ t.cells.length) && decide (t.cells.length ≤ 65536)
def closes (t : Track) : Bool := !t.closed || (t.cells.length : Int) == 1 || (match t.cells[t.cells.length - 1]?, t.cells[0]? with | some a, some b => nbT a b | _, _ => false)
def validT (t : Track) : Bool := roleOk t && (List.range t.cells.length).all (okAt t.cells) && closes t

theorem okAt_some {l : List Cell} {i : Nat} {c p : Cell} (h : l[i]? = some c) (hp : l[i - 1]? = some p) : okAt l i = (onG c && (i == 0 || nbT p c)) := by
  simp only [okAt, h, hp]

theorem okAt_onG {l : List Cell} {k i : Nat} {c : Cell} (h : (List.range k).all (okAt l) = true) (hi : i < k) (hc : l[i]? = some c) : onG c = true := by
  have := List.all_eq_true.1 h i (by simpa using hi)
  unfold okAt at this
  rw [hc] at this
  split at this
  · rename_i c' p h1 h2
    cases h1
    simp at this
    exact this.1
  · cases this

set_option maxHeartbeats 1000000 in
theorem tvalid_ok (t : Track) (hl : t.cells.length ≤ 65536) : PC Try.prog 37 [.agg t.row] (.p (.bool (validT t))) := by
  refine pc_of_awp cx (fn := Try.f37) (c := _) Try.func37 rfl rfl (Nat.le_of_ble_eq_true rfl) ?_
  rw [Try.ntmps37]; (repeat (first | refine awp_seq ?_ | refine awp_block ?_ | refine awp_scope ?_ | refine awp_skip ?_ | refine awp_exit ?_ | refine awp_ret ?_ | refine sq_n ?_ | refine sq_r ?_ | refine sq_x ?_ | refine bq_n ?_ | refine bq_r ?_ | refine bq_x ?_ | refine bq_y rfl ?_ | refine pq_n ?_ | refine pq_r ?_ | refine pq_x ?_))
  refine awp_region cx [] fun K hK => ?_
  simp [push_cast, Track.row, encCells]
  repeat (refine And.intro (by clear hK; intros; first | omega | (simp_all; done) | (simp_all <;> omega)) ?_)
  refine hK _ ?_; clear hK K; (repeat (first | refine awp_seq ?_ | refine awp_block ?_ | refine awp_scope ?_ | refine awp_skip ?_ | refine awp_exit ?_ | refine awp_ret ?_ | refine sq_n ?_ | refine sq_r ?_ | refine sq_x ?_ | refine bq_n ?_ | refine bq_r ?_ | refine bq_x ?_ | refine bq_y rfl ?_ | refine pq_n ?_ | refine pq_r ?_ | refine pq_x ?_))
  refine awp_region cx [] fun K hK => ?_
  simp [push_cast, Track.row]
  repeat (refine And.intro (by clear hK; intros; first | omega | (simp_all; done) | (simp_all <;> omega)) ?_)
  refine hK _ ?_; clear hK K; (repeat (first | refine awp_seq ?_ | refine awp_block ?_ | refine awp_scope ?_ | refine awp_skip ?_ | refine awp_exit ?_ | refine awp_ret ?_ | refine sq_n ?_ | refine sq_r ?_ | refine sq_x ?_ | refine bq_n ?_ | refine bq_r ?_ | refine bq_x ?_ | refine bq_y rfl ?_ | refine pq_n ?_ | refine pq_r ?_ | refine pq_x ?_))
  refine awp_region cx [] fun K hK => ?_
  simp [push_cast, Track.row]
  repeat (refine And.intro (by clear hK; intros; first | omega | (simp_all; done) | (simp_all <;> omega)) ?_)
  refine hK _ ?_; clear hK K; (repeat (first | refine awp_seq ?_ | refine awp_block ?_ | refine awp_scope ?_ | refine awp_skip ?_ | refine awp_exit ?_ | refine awp_ret ?_ | refine sq_n ?_ | refine sq_r ?_ | refine sq_x ?_ | refine bq_n ?_ | refine bq_r ?_ | refine bq_x ?_ | refine bq_y rfl ?_ | refine pq_n ?_ | refine pq_r ?_ | refine pq_x ?_))
  refine awp_cond (by simp [push_cast] <;> exact rfl) (fun hb => ?_) (fun hb => ?_) <;> ((repeat (first | refine awp_seq ?_ | refine awp_block ?_ | refine awp_scope ?_ | refine awp_skip ?_ | refine awp_exit ?_ | refine awp_ret ?_ | refine sq_n ?_ | refine sq_r ?_ | refine sq_x ?_ | refine bq_n ?_ | refine bq_r ?_ | refine bq_x ?_ | refine bq_y rfl ?_ | refine pq_n ?_ | refine pq_r ?_ | refine pq_x ?_)))
  · refine awp_region cx [] fun K hK => ?_
    simp [push_cast]
    repeat (refine And.intro (by clear hK; intros; first | omega | (simp_all; done) | (simp_all <;> omega)) ?_)
    refine hK _ ?_; clear hK K; (repeat (first | refine awp_seq ?_ | refine awp_block ?_ | refine awp_scope ?_ | refine awp_skip ?_ | refine awp_exit ?_ | refine awp_ret ?_ | refine sq_n ?_ | refine sq_r ?_ | refine sq_x ?_ | refine bq_n ?_ | refine bq_r ?_ | refine bq_x ?_ | refine bq_y rfl ?_ | refine pq_n ?_ | refine pq_r ?_ | refine pq_x ?_))
    simp [push_cast]
    simp at hb
    have : roleOk t = false := by simp [roleOk]; omega
    simp [validT, this]
  · have hr : roleOk t = true := by simp at hb; simp [roleOk]; omega
    have hne : 1 ≤ t.cells.length := by simp at hb; omega
    refine awp_region cx [] fun K hK => ?_
    simp [push_cast, Track.row]
    repeat (refine And.intro (by clear hK; intros; first | omega | (simp_all; done) | (simp_all <;> omega)) ?_)
    refine hK _ ?_; clear hK K; (repeat (first | refine awp_seq ?_ | refine awp_block ?_ | refine awp_scope ?_ | refine awp_skip ?_ | refine awp_exit ?_ | refine awp_ret ?_ | refine sq_n ?_ | refine sq_r ?_ | refine sq_x ?_ | refine bq_n ?_ | refine bq_r ?_ | refine bq_x ?_ | refine bq_y rfl ?_ | refine pq_n ?_ | refine pq_r ?_ | refine pq_x ?_))
    refine awp_loop (β := Nat) (fun k => ⟨72, [(1, .ptr 0 0 0), (3, .d (.int .i64 t.cells.length)), (26, .d (encCells t.cells)), (27, .d (.int .i64 t.cells.length)), (28, .d (.int .i64 k))], [(0, some ⟨33, 3, [t.row.map .d]⟩)], 1⟩) (fun k => k ≤ t.cells.length ∧ (List.range k).all (okAt t.cells) = true) (fun k => t.cells.length - k) 0 ?_ ⟨Nat.zero_le _, rfl⟩ ?_
    · refine weak_of [(0, some 0)] rfl (by simp [upT, up, upL, push_cast, Track.row]) (by simp [upH, upR, upL, up, push_cast, Track.row]) (by simp [namesOk, push_cast]) (by simp [olds])
    · intro k ⟨hk, hall⟩
      (repeat (first | refine awp_seq ?_ | refine awp_block ?_ | refine awp_scope ?_ | refine awp_skip ?_ | refine awp_exit ?_ | refine awp_ret ?_ | refine sq_n ?_ | refine sq_r ?_ | refine sq_x ?_ | refine bq_n ?_ | refine bq_r ?_ | refine bq_x ?_ | refine bq_y rfl ?_ | refine pq_n ?_ | refine pq_r ?_ | refine pq_x ?_))
      refine awp_region cx [] fun K hK => ?_
      simp [push_cast]
      repeat (refine And.intro (by clear hK; intros; first | omega | (simp_all; done) | (simp_all <;> omega)) ?_)
      refine hK _ ?_; clear hK K; (repeat (first | refine awp_seq ?_ | refine awp_block ?_ | refine awp_scope ?_ | refine awp_skip ?_ | refine awp_exit ?_ | refine awp_ret ?_ | refine sq_n ?_ | refine sq_r ?_ | refine sq_x ?_ | refine bq_n ?_ | refine bq_r ?_ | refine bq_x ?_ | refine bq_y rfl ?_ | refine pq_n ?_ | refine pq_r ?_ | refine pq_x ?_))
      refine awp_cond (b := decide ((k : Int) < t.cells.length)) (by simp [push_cast]) (fun hb => ?_) (fun hb => ?_) <;> ((repeat (first | refine awp_seq ?_ | refine awp_block ?_ | refine awp_scope ?_ | refine awp_skip ?_ | refine awp_exit ?_ | refine awp_ret ?_ | refine sq_n ?_ | refine sq_r ?_ | refine sq_x ?_ | refine bq_n ?_ | refine bq_r ?_ | refine bq_x ?_ | refine bq_y rfl ?_ | refine pq_n ?_ | refine pq_r ?_ | refine pq_x ?_)))
      · have hlt : k < t.cells.length := by simpa using hb
        obtain ⟨c, hx⟩ : ∃ c, t.cells[k]? = some c := ⟨t.cells[k], List.getElem?_eq_getElem hlt⟩
        obtain ⟨p, hp⟩ : ∃ p, t.cells[k - 1]? = some p := ⟨t.cells[k - 1], List.getElem?_eq_getElem (by omega)⟩
        have c1 := onGridT_ok c
        have e0 := wrap_i64 (n := (k : Int) + 1) (by omega) (by omega)
        have hok := okAt_some hx hp
        refine awp_region cx [] fun K hK => ?_
        simp [push_cast, hx]
        repeat (refine And.intro (by clear hK; intros; first | omega | (simp_all; done) | (simp_all <;> omega)) ?_)
        refine hK _ ?_; clear hK K; (repeat (first | refine awp_seq ?_ | refine awp_block ?_ | refine awp_scope ?_ | refine awp_skip ?_ | refine awp_exit ?_ | refine awp_ret ?_ | refine sq_n ?_ | refine sq_r ?_ | refine sq_x ?_ | refine bq_n ?_ | refine bq_r ?_ | refine bq_x ?_ | refine bq_y rfl ?_ | refine pq_n ?_ | refine pq_r ?_ | refine pq_x ?_))
        by_cases hc : onG c = true
        · rw [hc] at c1 hok
          by_cases hk0 : k = 0
          · subst hk0
            refine awp_region_draw cx mixed [(1, .p (.bool true)), (11, .skip), (12, .skip)] fun K hK => ?_
            simp [push_cast, c1]
            repeat (refine And.intro (by clear hK; intros; first | omega | (simp_all; done) | (simp_all <;> omega)) ?_)
            refine hK _ _ (by kernel_rfl) ?_; clear hK K; (repeat (first | refine awp_seq ?_ | refine awp_block ?_ | refine awp_scope ?_ | refine awp_skip ?_ | refine awp_exit ?_ | refine awp_ret ?_ | refine sq_n ?_ | refine sq_r ?_ | refine sq_x ?_ | refine bq_n ?_ | refine bq_r ?_ | refine bq_x ?_ | refine bq_y rfl ?_ | refine pq_n ?_ | refine pq_r ?_ | refine pq_x ?_))
            refine awp_cond (by simp [push_cast] <;> exact rfl) (fun hb => ?_) (fun hb => ?_) <;> ((repeat (first | refine awp_seq ?_ | refine awp_block ?_ | refine awp_scope ?_ | refine awp_skip ?_ | refine awp_exit ?_ | refine awp_ret ?_ | refine sq_n ?_ | refine sq_r ?_ | refine sq_x ?_ | refine bq_n ?_ | refine bq_r ?_ | refine bq_x ?_ | refine bq_y rfl ?_ | refine pq_n ?_ | refine pq_r ?_ | refine pq_x ?_)))
            · simp at hb
            · refine awp_region cx [] fun K hK => ?_
              simp [push_cast, e0]
              repeat (refine And.intro (by clear hK; intros; first | omega | (simp_all; done) | (simp_all <;> omega)) ?_)
              refine hK _ ?_; clear hK K; (repeat (first | refine awp_seq ?_ | refine awp_block ?_ | refine awp_scope ?_ | refine awp_skip ?_ | refine awp_exit ?_ | refine awp_ret ?_ | refine sq_n ?_ | refine sq_r ?_ | refine sq_x ?_ | refine bq_n ?_ | refine bq_r ?_ | refine bq_x ?_ | refine bq_y rfl ?_ | refine pq_n ?_ | refine pq_r ?_ | refine pq_x ?_))
              refine ⟨1, ⟨hlt, by rw [all_range_succ, hall, hok]; rfl⟩, by omega, ?_⟩
              refine weak_of [(0, some 0)] rfl (by simp [upT, up, upL, push_cast, Track.row]) (by simp [upH, upR, upL, up, push_cast, Track.row]) (by simp [namesOk, push_cast]) (by simp [olds])
          · have e1 := wrap_i64 (n := (k : Int) - 1) (by omega) (by omega)
            have e2 : ((k : Int) - 1).toNat = k - 1 := by omega
            have c2 := neighbors_ok (okAt_onG hall (show k - 1 < k by omega) hp) hc
            have hk1 : (0 : Int) < k := by omega
            have hk2 : (0 : Int) ≤ k - 1 := by omega
            have hok' : okAt t.cells k = nbT p c := by rw [hok]; simp [hk0]
            generalize hn : nbT p c = nb at c2 hok'
            refine awp_region_draw cx mixed [(1, .p (.bool true)), (14, .p (.bool nb))] fun K hK => ?_
            simp [push_cast, c1, c2, hk1, e1, e2, hp, hk2, Track.row]
            repeat (refine And.intro (by clear hK; intros; first | omega | (simp_all; done) | (simp_all <;> omega)) ?_)
            refine hK _ _ (by kernel_rfl) ?_; clear hK K; (repeat (first | refine awp_seq ?_ | refine awp_block ?_ | refine awp_scope ?_ | refine awp_skip ?_ | refine awp_exit ?_ | refine awp_ret ?_ | refine sq_n ?_ | refine sq_r ?_ | refine sq_x ?_ | refine bq_n ?_ | refine bq_r ?_ | refine bq_x ?_ | refine bq_y rfl ?_ | refine pq_n ?_ | refine pq_r ?_ | refine pq_x ?_))
            have hk3 : 0 < k := by omega
            refine awp_cond (b := !nb) (by simp [push_cast, hk3]) (fun hb => ?_) (fun hb => ?_) <;> ((repeat (first | refine awp_seq ?_ | refine awp_block ?_ | refine awp_scope ?_ | refine awp_skip ?_ | refine awp_exit ?_ | refine awp_ret ?_ | refine sq_n ?_ | refine sq_r ?_ | refine sq_x ?_ | refine bq_n ?_ | refine bq_r ?_ | refine bq_x ?_ | refine bq_y rfl ?_ | refine pq_n ?_ | refine pq_r ?_ | refine pq_x ?_)))
            · simp at hb
              refine awp_region cx [] fun K hK => ?_
              simp [push_cast]
              repeat (refine And.intro (by clear hK; intros; first | omega | (simp_all; done) | (simp_all <;> omega)) ?_)
              refine hK _ ?_; clear hK K; (repeat (first | refine awp_seq ?_ | refine awp_block ?_ | refine awp_scope ?_ | refine awp_skip ?_ | refine awp_exit ?_ | refine awp_ret ?_ | refine sq_n ?_ | refine sq_r ?_ | refine sq_x ?_ | refine bq_n ?_ | refine bq_r ?_ | refine bq_x ?_ | refine bq_y rfl ?_ | refine pq_n ?_ | refine pq_r ?_ | refine pq_x ?_))
              simp [push_cast]
              simp only [validT, Bool.and_eq_false_iff]
              exact .inl (.inr (all_range_false hlt (by rw [hok', hb])))
            · simp at hb
              refine awp_region cx [] fun K hK => ?_
              simp [push_cast, e0]
              repeat (refine And.intro (by clear hK; intros; first | omega | (simp_all; done) | (simp_all <;> omega)) ?_)
              refine hK _ ?_; clear hK K; (repeat (first | refine awp_seq ?_ | refine awp_block ?_ | refine awp_scope ?_ | refine awp_skip ?_ | refine awp_exit ?_ | refine awp_ret ?_ | refine sq_n ?_ | refine sq_r ?_ | refine sq_x ?_ | refine bq_n ?_ | refine bq_r ?_ | refine bq_x ?_ | refine bq_y rfl ?_ | refine pq_n ?_ | refine pq_r ?_ | refine pq_x ?_))
              refine ⟨k + 1, ⟨hlt, by rw [all_range_succ, hall, hok', hb]; rfl⟩, by omega, ?_⟩
              refine weak_of [(0, some 0)] rfl (by simp [upT, up, upL, push_cast, Track.row]) (by simp [upH, upR, upL, up, push_cast, Track.row]) (by simp [namesOk, push_cast]) (by simp [olds])
        · simp at hc
          rw [hc] at c1 hok
          refine awp_region_draw cx mixed [(1, .p (.bool false)), (11, .skip), (12, .skip)] fun K hK => ?_
          simp [push_cast, c1]
          repeat (refine And.intro (by clear hK; intros; first | omega | (simp_all; done) | (simp_all <;> omega)) ?_)
          refine hK _ _ (by kernel_rfl) ?_; clear hK K; (repeat (first | refine awp_seq ?_ | refine awp_block ?_ | refine awp_scope ?_ | refine awp_skip ?_ | refine awp_exit ?_ | refine awp_ret ?_ | refine sq_n ?_ | refine sq_r ?_ | refine sq_x ?_ | refine bq_n ?_ | refine bq_r ?_ | refine bq_x ?_ | refine bq_y rfl ?_ | refine pq_n ?_ | refine pq_r ?_ | refine pq_x ?_))
          refine awp_cond (b := true) (by simp [push_cast]) (fun hb => ?_) (fun hb => ?_) <;> ((repeat (first | refine awp_seq ?_ | refine awp_block ?_ | refine awp_scope ?_ | refine awp_skip ?_ | refine awp_exit ?_ | refine awp_ret ?_ | refine sq_n ?_ | refine sq_r ?_ | refine sq_x ?_ | refine bq_n ?_ | refine bq_r ?_ | refine bq_x ?_ | refine bq_y rfl ?_ | refine pq_n ?_ | refine pq_r ?_ | refine pq_x ?_)))
          · refine awp_region cx [] fun K hK => ?_
            simp [push_cast]
            repeat (refine And.intro (by clear hK; intros; first | omega | (simp_all; done) | (simp_all <;> omega)) ?_)
            refine hK _ ?_; clear hK K; (repeat (first | refine awp_seq ?_ | refine awp_block ?_ | refine awp_scope ?_ | refine awp_skip ?_ | refine awp_exit ?_ | refine awp_ret ?_ | refine sq_n ?_ | refine sq_r ?_ | refine sq_x ?_ | refine bq_n ?_ | refine bq_r ?_ | refine bq_x ?_ | refine bq_y rfl ?_ | refine pq_n ?_ | refine pq_r ?_ | refine pq_x ?_))
            simp [push_cast]
            simp only [validT, Bool.and_eq_false_iff]
            exact .inl (.inr (all_range_false hlt (by rw [hok]; rfl)))
          · simp at hb
      · have hge : k = t.cells.length := by simp at hb; omega
        subst hge
        obtain ⟨a, ha⟩ : ∃ c, t.cells[0]? = some c := ⟨t.cells[0], List.getElem?_eq_getElem (by omega)⟩
        obtain ⟨b, hb'⟩ : ∃ c, t.cells[t.cells.length - 1]? = some c := ⟨t.cells[t.cells.length - 1], List.getElem?_eq_getElem (by omega)⟩
        have e1 := wrap_i64 (n := (t.cells.length : Int) - 1) (by omega) (by omega)
        have e2 : ((t.cells.length : Int) - 1).toNat = t.cells.length - 1 := by omega
        have hk2 : (0 : Int) ≤ (t.cells.length : Int) - 1 := by omega
        have c2 := neighbors_ok (okAt_onG hall (by omega) hb') (okAt_onG hall (by omega) ha)
        have hcl : closes t = (!t.closed || (t.cells.length : Int) == 1 || nbT b a) := by simp only [closes, ha, hb']
        have hv : validT t = closes t := by simp only [validT, hr, hall, Bool.true_and]
        rw [hv, hcl]
        generalize nbT b a = nb at c2
        refine awp_region_draw cx mixed [(18, .p (.bool nb))] fun K hK => ?_
        simp [push_cast, c2, e1, e2, ha, hb', hk2, Track.row]
        repeat (refine And.intro (by clear hK; intros; first | omega | (simp_all; done) | (simp_all <;> omega)) ?_)
        refine hK _ _ (by kernel_rfl) ?_; clear hK K; (repeat (first | refine awp_seq ?_ | refine awp_block ?_ | refine awp_scope ?_ | refine awp_skip ?_ | refine awp_exit ?_ | refine awp_ret ?_ | refine sq_n ?_ | refine sq_r ?_ | refine sq_x ?_ | refine bq_n ?_ | refine bq_r ?_ | refine bq_x ?_ | refine bq_y rfl ?_ | refine pq_n ?_ | refine pq_r ?_ | refine pq_x ?_))
        simp [push_cast]
end Go.Proofs.Ytmfkfgonedgjnaa
