/-
  The walks of this seat's functions and the plain laws behind them: part O5.
-/
import Derived.Test.YtdoedfheagkloaaO4
set_option linter.unusedVariables false
set_option linter.unusedSimpArgs false
namespace Go.Proofs.Ytdoedfheagkloaa
open Go.Abs

def zeroT : Track := ⟨0, false, []⟩
def revT (t : Track) : Track := if validT t then { t with cells := t.cells.reverse } else zeroT
def rot (l : List Cell) (k : Nat) : List Cell := l.drop k ++ l.take k
def tIx (t : Track) (i : Int) : Nat := if t.closed then ((i.tmod t.cells.length + t.cells.length).tmod t.cells.length).toNat else 0
def turT (t : Track) (i : Int) : Track := if validT t then { t with cells := rot t.cells (tIx t i) } else zeroT

theorem rev_step {l : List Cell} {i : Nat} {x : Cell} (h : l[i]? = some x) : (l.drop (i + 1)).reverse ++ [x] = (l.drop i).reverse := by
  rw [drop_get h]; simp

theorem reversed_ok (l : List Cell) (hl : l.length ≤ 65536) : PC Try.prog 48 [encCells l] (.o 23 2 (l.reverse.map Cell.row)) := by
  have e1 := wrap_i64 (n := (l.length : Int) - 1) (by omega) (by omega)
  have m1 : 16 * (l.length : Int) ≤ 281474976710656 := by omega
  have m2 : (l.length : Int) ≤ 9223372036854775807 := by omega
  refine pc_of_awp cx (fn := Try.f48) (c := _) Try.func48 rfl rfl (Nat.le_of_ble_eq_true rfl) ?_
  rw [Try.ntmps48]; (repeat (first | refine awp_seq ?_ | refine awp_block ?_ | refine awp_scope ?_ | refine awp_skip ?_ | refine awp_exit ?_ | refine awp_ret ?_ | refine sq_n ?_ | refine sq_r ?_ | refine sq_x ?_ | refine bq_n ?_ | refine bq_r ?_ | refine bq_x ?_ | refine bq_y rfl ?_ | refine pq_n ?_ | refine pq_r ?_ | refine pq_x ?_))
  refine awp_region cx [] fun K hK => ?_
  simp [push_cast]
  first | refine hK _ ?_ | refine ⟨(by clear hK; intros; first | omega | (simp_all; done) | (simp_all <;> omega)), hK _ ?_⟩ | refine ⟨(by clear hK; intros; first | omega | (simp_all; done) | (simp_all <;> omega)), (by clear hK; intros; first | omega | (simp_all; done) | (simp_all <;> omega)), hK _ ?_⟩ | refine ⟨(by clear hK; intros; first | omega | (simp_all; done) | (simp_all <;> omega)), (by clear hK; intros; first | omega | (simp_all; done) | (simp_all <;> omega)), (by clear hK; intros; first | omega | (simp_all; done) | (simp_all <;> omega)), hK _ ?_⟩
  clear hK K; (repeat (first | refine awp_seq ?_ | refine awp_block ?_ | refine awp_scope ?_ | refine awp_skip ?_ | refine awp_exit ?_ | refine awp_ret ?_ | refine sq_n ?_ | refine sq_r ?_ | refine sq_x ?_ | refine bq_n ?_ | refine bq_r ?_ | refine bq_x ?_ | refine bq_y rfl ?_ | refine pq_n ?_ | refine pq_r ?_ | refine pq_x ?_))
  refine awp_region cx [] fun K hK => ?_
  simp [push_cast, m1, m2]
  first | refine hK _ ?_ | refine ⟨(by clear hK; intros; first | omega | (simp_all; done) | (simp_all <;> omega)), hK _ ?_⟩ | refine ⟨(by clear hK; intros; first | omega | (simp_all; done) | (simp_all <;> omega)), (by clear hK; intros; first | omega | (simp_all; done) | (simp_all <;> omega)), hK _ ?_⟩ | refine ⟨(by clear hK; intros; first | omega | (simp_all; done) | (simp_all <;> omega)), (by clear hK; intros; first | omega | (simp_all; done) | (simp_all <;> omega)), (by clear hK; intros; first | omega | (simp_all; done) | (simp_all <;> omega)), hK _ ?_⟩
  clear hK K; (repeat (first | refine awp_seq ?_ | refine awp_block ?_ | refine awp_scope ?_ | refine awp_skip ?_ | refine awp_exit ?_ | refine awp_ret ?_ | refine sq_n ?_ | refine sq_r ?_ | refine sq_x ?_ | refine bq_n ?_ | refine bq_r ?_ | refine bq_x ?_ | refine bq_y rfl ?_ | refine pq_n ?_ | refine pq_r ?_ | refine pq_x ?_))
  refine awp_region cx [] fun K hK => ?_
  simp [push_cast, e1]
  first | refine hK _ ?_ | refine ⟨(by clear hK; intros; first | omega | (simp_all; done) | (simp_all <;> omega)), hK _ ?_⟩ | refine ⟨(by clear hK; intros; first | omega | (simp_all; done) | (simp_all <;> omega)), (by clear hK; intros; first | omega | (simp_all; done) | (simp_all <;> omega)), hK _ ?_⟩ | refine ⟨(by clear hK; intros; first | omega | (simp_all; done) | (simp_all <;> omega)), (by clear hK; intros; first | omega | (simp_all; done) | (simp_all <;> omega)), (by clear hK; intros; first | omega | (simp_all; done) | (simp_all <;> omega)), hK _ ?_⟩
  clear hK K; (repeat (first | refine awp_seq ?_ | refine awp_block ?_ | refine awp_scope ?_ | refine awp_skip ?_ | refine awp_exit ?_ | refine awp_ret ?_ | refine sq_n ?_ | refine sq_r ?_ | refine sq_x ?_ | refine bq_n ?_ | refine bq_r ?_ | refine bq_x ?_ | refine bq_y rfl ?_ | refine pq_n ?_ | refine pq_r ?_ | refine pq_x ?_))
  refine awp_loop (β := Nat × List Cell) (fun b => ⟨23, [(0, .d (encCells l)), (3, .hs 0 0 b.2.length), (4, .d (.int .i64 ((b.1 : Int) - 1)))], [(0, some ⟨23, 2, dr (b.2.map Cell.row)⟩)], 1⟩) (fun b => b.1 ≤ l.length ∧ b.2 = (l.drop b.1).reverse) (fun b => b.1) (l.length, []) ?_ ⟨Nat.le_refl _, by simp⟩ ?_
  · refine weak_of [(0, some 3)] rfl (by simp [upT, up, upL, push_cast]) (by simp [upH, upR, upL, up, push_cast]) (by simp [namesOk, push_cast]) (by simp [olds])
  · rintro ⟨k, X⟩ ⟨hk, hX⟩
    simp only at hk hX
    (repeat (first | refine awp_seq ?_ | refine awp_block ?_ | refine awp_scope ?_ | refine awp_skip ?_ | refine awp_exit ?_ | refine awp_ret ?_ | refine sq_n ?_ | refine sq_r ?_ | refine sq_x ?_ | refine bq_n ?_ | refine bq_r ?_ | refine bq_x ?_ | refine bq_y rfl ?_ | refine pq_n ?_ | refine pq_r ?_ | refine pq_x ?_))
    refine awp_region cx [] fun K hK => ?_
    simp [push_cast]
    first | refine hK _ ?_ | refine ⟨(by clear hK; intros; first | omega | (simp_all; done) | (simp_all <;> omega)), hK _ ?_⟩ | refine ⟨(by clear hK; intros; first | omega | (simp_all; done) | (simp_all <;> omega)), (by clear hK; intros; first | omega | (simp_all; done) | (simp_all <;> omega)), hK _ ?_⟩ | refine ⟨(by clear hK; intros; first | omega | (simp_all; done) | (simp_all <;> omega)), (by clear hK; intros; first | omega | (simp_all; done) | (simp_all <;> omega)), (by clear hK; intros; first | omega | (simp_all; done) | (simp_all <;> omega)), hK _ ?_⟩
    clear hK K; (repeat (first | refine awp_seq ?_ | refine awp_block ?_ | refine awp_scope ?_ | refine awp_skip ?_ | refine awp_exit ?_ | refine awp_ret ?_ | refine sq_n ?_ | refine sq_r ?_ | refine sq_x ?_ | refine bq_n ?_ | refine bq_r ?_ | refine bq_x ?_ | refine bq_y rfl ?_ | refine pq_n ?_ | refine pq_r ?_ | refine pq_x ?_))
    refine awp_cond (b := decide ((0 : Int) ≤ (k : Int) - 1)) (by simp [push_cast]) (fun hb => ?_) (fun hb => ?_) <;> ((repeat (first | refine awp_seq ?_ | refine awp_block ?_ | refine awp_scope ?_ | refine awp_skip ?_ | refine awp_exit ?_ | refine awp_ret ?_ | refine sq_n ?_ | refine sq_r ?_ | refine sq_x ?_ | refine bq_n ?_ | refine bq_r ?_ | refine bq_x ?_ | refine bq_y rfl ?_ | refine pq_n ?_ | refine pq_r ?_ | refine pq_x ?_)))
    · have hk0 : 0 < k := by simp at hb; omega
      obtain ⟨j, rfl⟩ : ∃ j, k = j + 1 := ⟨k - 1, by omega⟩
      obtain ⟨x, hx⟩ : ∃ x, l[j]? = some x := getq (by omega)
      have e0 : ((j + 1 : Nat) : Int) - 1 = j := by omega
      have e2 := wrap_i64 (n := (j : Int) - 1) (by omega) (by omega)
      have hXl : X.length ≤ l.length := by rw [hX]; simp
      have e3 : (X.length + 1) * 16 ≤ 140737488355328 := by omega
      have hs := rev_step hx
      rw [← hX] at hs
      simp only [e0]
      refine awp_region cx [] fun K hK => ?_
      simp [push_cast, hx, e3, Cell.row]
      first | refine hK _ ?_ | refine ⟨(by clear hK; intros; first | omega | (simp_all; done) | (simp_all <;> omega)), hK _ ?_⟩ | refine ⟨(by clear hK; intros; first | omega | (simp_all; done) | (simp_all <;> omega)), (by clear hK; intros; first | omega | (simp_all; done) | (simp_all <;> omega)), hK _ ?_⟩ | refine ⟨(by clear hK; intros; first | omega | (simp_all; done) | (simp_all <;> omega)), (by clear hK; intros; first | omega | (simp_all; done) | (simp_all <;> omega)), (by clear hK; intros; first | omega | (simp_all; done) | (simp_all <;> omega)), hK _ ?_⟩
      clear hK K; (repeat (first | refine awp_seq ?_ | refine awp_block ?_ | refine awp_scope ?_ | refine awp_skip ?_ | refine awp_exit ?_ | refine awp_ret ?_ | refine sq_n ?_ | refine sq_r ?_ | refine sq_x ?_ | refine bq_n ?_ | refine bq_r ?_ | refine bq_x ?_ | refine bq_y rfl ?_ | refine pq_n ?_ | refine pq_r ?_ | refine pq_x ?_))
      refine awp_region cx [] fun K hK => ?_
      simp [push_cast]
      first | refine hK _ ?_ | refine ⟨(by clear hK; intros; first | omega | (simp_all; done) | (simp_all <;> omega)), hK _ ?_⟩ | refine ⟨(by clear hK; intros; first | omega | (simp_all; done) | (simp_all <;> omega)), (by clear hK; intros; first | omega | (simp_all; done) | (simp_all <;> omega)), hK _ ?_⟩ | refine ⟨(by clear hK; intros; first | omega | (simp_all; done) | (simp_all <;> omega)), (by clear hK; intros; first | omega | (simp_all; done) | (simp_all <;> omega)), (by clear hK; intros; first | omega | (simp_all; done) | (simp_all <;> omega)), hK _ ?_⟩
      clear hK K; (repeat (first | refine awp_seq ?_ | refine awp_block ?_ | refine awp_scope ?_ | refine awp_skip ?_ | refine awp_exit ?_ | refine awp_ret ?_ | refine sq_n ?_ | refine sq_r ?_ | refine sq_x ?_ | refine bq_n ?_ | refine bq_r ?_ | refine bq_x ?_ | refine bq_y rfl ?_ | refine pq_n ?_ | refine pq_r ?_ | refine pq_x ?_))
      refine ⟨(j, X ++ [x]), ⟨by omega, hs⟩, by simp, ?_⟩
      refine weak_of [(0, some 9)] rfl (by simp [upT, up, upL, push_cast, e2, Cell.row]) (by simp [upH, upR, upL, up, push_cast, e2, Cell.row]) (by simp [namesOk, push_cast]) (by simp [olds])
    · have hk0 : k = 0 := by simp at hb; omega
      subst hk0
      simp at hX
      subst hX
      refine awp_region cx [] fun K hK => ?_
      simp [push_cast]
      first | refine hK _ ?_ | refine ⟨(by clear hK; intros; first | omega | (simp_all; done) | (simp_all <;> omega)), hK _ ?_⟩ | refine ⟨(by clear hK; intros; first | omega | (simp_all; done) | (simp_all <;> omega)), (by clear hK; intros; first | omega | (simp_all; done) | (simp_all <;> omega)), hK _ ?_⟩ | refine ⟨(by clear hK; intros; first | omega | (simp_all; done) | (simp_all <;> omega)), (by clear hK; intros; first | omega | (simp_all; done) | (simp_all <;> omega)), (by clear hK; intros; first | omega | (simp_all; done) | (simp_all <;> omega)), hK _ ?_⟩
      clear hK K; (repeat (first | refine awp_seq ?_ | refine awp_block ?_ | refine awp_scope ?_ | refine awp_skip ?_ | refine awp_exit ?_ | refine awp_ret ?_ | refine sq_n ?_ | refine sq_r ?_ | refine sq_x ?_ | refine bq_n ?_ | refine bq_r ?_ | refine bq_x ?_ | refine bq_y rfl ?_ | refine pq_n ?_ | refine pq_r ?_ | refine pq_x ?_))
      simp [push_cast]
      exact List.take_of_length_le (by simp)

theorem reverse_ok (t : Track) (hl : t.cells.length ≤ 65536) : PC Try.prog 29 [.agg t.row] (.p (.agg (revT t).row)) := by
  have c1 := valid_ok t hl
  have c2 := (reversed_ok t.cells hl).data
  refine pc_of_awp cx (fn := Try.f29) (c := _) Try.func29 rfl rfl (Nat.le_of_ble_eq_true rfl) ?_
  rw [Try.ntmps29]; (repeat (first | refine awp_seq ?_ | refine awp_block ?_ | refine awp_scope ?_ | refine awp_skip ?_ | refine awp_exit ?_ | refine awp_ret ?_ | refine sq_n ?_ | refine sq_r ?_ | refine sq_x ?_ | refine bq_n ?_ | refine bq_r ?_ | refine bq_x ?_ | refine bq_y rfl ?_ | refine pq_n ?_ | refine pq_r ?_ | refine pq_x ?_))
  refine awp_region cx [] fun K hK => ?_
  simp [push_cast, Track.row]
  first | refine hK _ ?_ | refine ⟨(by clear hK; intros; first | omega | (simp_all; done) | (simp_all <;> omega)), hK _ ?_⟩ | refine ⟨(by clear hK; intros; first | omega | (simp_all; done) | (simp_all <;> omega)), (by clear hK; intros; first | omega | (simp_all; done) | (simp_all <;> omega)), hK _ ?_⟩ | refine ⟨(by clear hK; intros; first | omega | (simp_all; done) | (simp_all <;> omega)), (by clear hK; intros; first | omega | (simp_all; done) | (simp_all <;> omega)), (by clear hK; intros; first | omega | (simp_all; done) | (simp_all <;> omega)), hK _ ?_⟩
  clear hK K; (repeat (first | refine awp_seq ?_ | refine awp_block ?_ | refine awp_scope ?_ | refine awp_skip ?_ | refine awp_exit ?_ | refine awp_ret ?_ | refine sq_n ?_ | refine sq_r ?_ | refine sq_x ?_ | refine bq_n ?_ | refine bq_r ?_ | refine bq_x ?_ | refine bq_y rfl ?_ | refine pq_n ?_ | refine pq_r ?_ | refine pq_x ?_))
  generalize hv : validT t = v at c1
  refine awp_region cx [(1, .p (.bool v))] fun K hK => ?_
  simp [push_cast, c1, Track.row]
  first | refine hK _ ?_ | refine ⟨(by clear hK; intros; first | omega | (simp_all; done) | (simp_all <;> omega)), hK _ ?_⟩ | refine ⟨(by clear hK; intros; first | omega | (simp_all; done) | (simp_all <;> omega)), (by clear hK; intros; first | omega | (simp_all; done) | (simp_all <;> omega)), hK _ ?_⟩ | refine ⟨(by clear hK; intros; first | omega | (simp_all; done) | (simp_all <;> omega)), (by clear hK; intros; first | omega | (simp_all; done) | (simp_all <;> omega)), (by clear hK; intros; first | omega | (simp_all; done) | (simp_all <;> omega)), hK _ ?_⟩
  clear hK K; (repeat (first | refine awp_seq ?_ | refine awp_block ?_ | refine awp_scope ?_ | refine awp_skip ?_ | refine awp_exit ?_ | refine awp_ret ?_ | refine sq_n ?_ | refine sq_r ?_ | refine sq_x ?_ | refine bq_n ?_ | refine bq_r ?_ | refine bq_x ?_ | refine bq_y rfl ?_ | refine pq_n ?_ | refine pq_r ?_ | refine pq_x ?_))
  refine awp_cond (b := !v) (by simp [push_cast]) (fun hb => ?_) (fun hb => ?_) <;> ((repeat (first | refine awp_seq ?_ | refine awp_block ?_ | refine awp_scope ?_ | refine awp_skip ?_ | refine awp_exit ?_ | refine awp_ret ?_ | refine sq_n ?_ | refine sq_r ?_ | refine sq_x ?_ | refine bq_n ?_ | refine bq_r ?_ | refine bq_x ?_ | refine bq_y rfl ?_ | refine pq_n ?_ | refine pq_r ?_ | refine pq_x ?_)))
  · simp at hb
    refine awp_region cx [] fun K hK => ?_
    simp [push_cast]
    first | refine hK _ ?_ | refine ⟨(by clear hK; intros; first | omega | (simp_all; done) | (simp_all <;> omega)), hK _ ?_⟩ | refine ⟨(by clear hK; intros; first | omega | (simp_all; done) | (simp_all <;> omega)), (by clear hK; intros; first | omega | (simp_all; done) | (simp_all <;> omega)), hK _ ?_⟩ | refine ⟨(by clear hK; intros; first | omega | (simp_all; done) | (simp_all <;> omega)), (by clear hK; intros; first | omega | (simp_all; done) | (simp_all <;> omega)), (by clear hK; intros; first | omega | (simp_all; done) | (simp_all <;> omega)), hK _ ?_⟩
    clear hK K; (repeat (first | refine awp_seq ?_ | refine awp_block ?_ | refine awp_scope ?_ | refine awp_skip ?_ | refine awp_exit ?_ | refine awp_ret ?_ | refine sq_n ?_ | refine sq_r ?_ | refine sq_x ?_ | refine bq_n ?_ | refine bq_r ?_ | refine bq_x ?_ | refine bq_y rfl ?_ | refine pq_n ?_ | refine pq_r ?_ | refine pq_x ?_))
    simp [push_cast]
    simp [revT, hv, hb, zeroT]
  · simp at hb
    rw [hb] at hv
    generalize hR : t.cells.reverse = R at c2
    refine awp_region_draw cx mixed [(6, .p (encCells R))] fun K hK => ?_
    simp [push_cast, Track.row, c2]
    first | refine hK _ _ (by kernel_rfl) ?_ | refine ⟨(by clear hK; intros; first | omega | (simp_all; done) | (simp_all <;> omega)), hK _ _ (by kernel_rfl) ?_⟩ | refine ⟨(by clear hK; intros; first | omega | (simp_all; done) | (simp_all <;> omega)), (by clear hK; intros; first | omega | (simp_all; done) | (simp_all <;> omega)), hK _ _ (by kernel_rfl) ?_⟩ | refine ⟨(by clear hK; intros; first | omega | (simp_all; done) | (simp_all <;> omega)), (by clear hK; intros; first | omega | (simp_all; done) | (simp_all <;> omega)), (by clear hK; intros; first | omega | (simp_all; done) | (simp_all <;> omega)), hK _ _ (by kernel_rfl) ?_⟩
    clear hK K; (repeat (first | refine awp_seq ?_ | refine awp_block ?_ | refine awp_scope ?_ | refine awp_skip ?_ | refine awp_exit ?_ | refine awp_ret ?_ | refine sq_n ?_ | refine sq_r ?_ | refine sq_x ?_ | refine bq_n ?_ | refine bq_r ?_ | refine bq_x ?_ | refine bq_y rfl ?_ | refine pq_n ?_ | refine pq_r ?_ | refine pq_x ?_))
    simp [push_cast]
    simp [revT, hv, hR]

theorem rreverse_ok (t : Track) (hl : t.cells.length ≤ 65536) : PC Try.prog 53 [.agg t.row] (.p (.agg (revT t).row)) := by
  have c1 := validR_ok t hl
  have e1 := wrap_i64 (n := (t.cells.length : Int) - 1) (by omega) (by omega)
  refine pc_of_awp cx (fn := Try.f53) (c := _) Try.func53 rfl rfl (Nat.le_of_ble_eq_true rfl) ?_
  rw [Try.ntmps53]; (repeat (first | refine awp_seq ?_ | refine awp_block ?_ | refine awp_scope ?_ | refine awp_skip ?_ | refine awp_exit ?_ | refine awp_ret ?_ | refine sq_n ?_ | refine sq_r ?_ | refine sq_x ?_ | refine bq_n ?_ | refine bq_r ?_ | refine bq_x ?_ | refine bq_y rfl ?_ | refine pq_n ?_ | refine pq_r ?_ | refine pq_x ?_))
  refine awp_region cx [] fun K hK => ?_
  simp [push_cast, Track.row]
  first | refine hK _ ?_ | refine ⟨(by clear hK; intros; first | omega | (simp_all; done) | (simp_all <;> omega)), hK _ ?_⟩ | refine ⟨(by clear hK; intros; first | omega | (simp_all; done) | (simp_all <;> omega)), (by clear hK; intros; first | omega | (simp_all; done) | (simp_all <;> omega)), hK _ ?_⟩ | refine ⟨(by clear hK; intros; first | omega | (simp_all; done) | (simp_all <;> omega)), (by clear hK; intros; first | omega | (simp_all; done) | (simp_all <;> omega)), (by clear hK; intros; first | omega | (simp_all; done) | (simp_all <;> omega)), hK _ ?_⟩
  clear hK K; (repeat (first | refine awp_seq ?_ | refine awp_block ?_ | refine awp_scope ?_ | refine awp_skip ?_ | refine awp_exit ?_ | refine awp_ret ?_ | refine sq_n ?_ | refine sq_r ?_ | refine sq_x ?_ | refine bq_n ?_ | refine bq_r ?_ | refine bq_x ?_ | refine bq_y rfl ?_ | refine pq_n ?_ | refine pq_r ?_ | refine pq_x ?_))
  generalize hv : validT t = v at c1
  refine awp_region cx [(1, .p (.bool v))] fun K hK => ?_
  simp [push_cast, c1, Track.row]
  first | refine hK _ ?_ | refine ⟨(by clear hK; intros; first | omega | (simp_all; done) | (simp_all <;> omega)), hK _ ?_⟩ | refine ⟨(by clear hK; intros; first | omega | (simp_all; done) | (simp_all <;> omega)), (by clear hK; intros; first | omega | (simp_all; done) | (simp_all <;> omega)), hK _ ?_⟩ | refine ⟨(by clear hK; intros; first | omega | (simp_all; done) | (simp_all <;> omega)), (by clear hK; intros; first | omega | (simp_all; done) | (simp_all <;> omega)), (by clear hK; intros; first | omega | (simp_all; done) | (simp_all <;> omega)), hK _ ?_⟩
  clear hK K; (repeat (first | refine awp_seq ?_ | refine awp_block ?_ | refine awp_scope ?_ | refine awp_skip ?_ | refine awp_exit ?_ | refine awp_ret ?_ | refine sq_n ?_ | refine sq_r ?_ | refine sq_x ?_ | refine bq_n ?_ | refine bq_r ?_ | refine bq_x ?_ | refine bq_y rfl ?_ | refine pq_n ?_ | refine pq_r ?_ | refine pq_x ?_))
  refine awp_cond (b := !v) (by simp [push_cast]) (fun hb => ?_) (fun hb => ?_) <;> ((repeat (first | refine awp_seq ?_ | refine awp_block ?_ | refine awp_scope ?_ | refine awp_skip ?_ | refine awp_exit ?_ | refine awp_ret ?_ | refine sq_n ?_ | refine sq_r ?_ | refine sq_x ?_ | refine bq_n ?_ | refine bq_r ?_ | refine bq_x ?_ | refine bq_y rfl ?_ | refine pq_n ?_ | refine pq_r ?_ | refine pq_x ?_)))
  · simp at hb
    refine awp_region cx [] fun K hK => ?_
    simp [push_cast]
    first | refine hK _ ?_ | refine ⟨(by clear hK; intros; first | omega | (simp_all; done) | (simp_all <;> omega)), hK _ ?_⟩ | refine ⟨(by clear hK; intros; first | omega | (simp_all; done) | (simp_all <;> omega)), (by clear hK; intros; first | omega | (simp_all; done) | (simp_all <;> omega)), hK _ ?_⟩ | refine ⟨(by clear hK; intros; first | omega | (simp_all; done) | (simp_all <;> omega)), (by clear hK; intros; first | omega | (simp_all; done) | (simp_all <;> omega)), (by clear hK; intros; first | omega | (simp_all; done) | (simp_all <;> omega)), hK _ ?_⟩
    clear hK K; (repeat (first | refine awp_seq ?_ | refine awp_block ?_ | refine awp_scope ?_ | refine awp_skip ?_ | refine awp_exit ?_ | refine awp_ret ?_ | refine sq_n ?_ | refine sq_r ?_ | refine sq_x ?_ | refine bq_n ?_ | refine bq_r ?_ | refine bq_x ?_ | refine bq_y rfl ?_ | refine pq_n ?_ | refine pq_r ?_ | refine pq_x ?_))
    simp [push_cast]
    simp [revT, hv, hb, zeroT]
  · simp at hb
    rw [hb] at hv
    refine awp_region cx [] fun K hK => ?_
    simp [push_cast, Track.row]
    first | refine hK _ ?_ | refine ⟨(by clear hK; intros; first | omega | (simp_all; done) | (simp_all <;> omega)), hK _ ?_⟩ | refine ⟨(by clear hK; intros; first | omega | (simp_all; done) | (simp_all <;> omega)), (by clear hK; intros; first | omega | (simp_all; done) | (simp_all <;> omega)), hK _ ?_⟩ | refine ⟨(by clear hK; intros; first | omega | (simp_all; done) | (simp_all <;> omega)), (by clear hK; intros; first | omega | (simp_all; done) | (simp_all <;> omega)), (by clear hK; intros; first | omega | (simp_all; done) | (simp_all <;> omega)), hK _ ?_⟩
    clear hK K; (repeat (first | refine awp_seq ?_ | refine awp_block ?_ | refine awp_scope ?_ | refine awp_skip ?_ | refine awp_exit ?_ | refine awp_ret ?_ | refine sq_n ?_ | refine sq_r ?_ | refine sq_x ?_ | refine bq_n ?_ | refine bq_r ?_ | refine bq_x ?_ | refine bq_y rfl ?_ | refine pq_n ?_ | refine pq_r ?_ | refine pq_x ?_))
    refine awp_region cx [] fun K hK => ?_
    simp [push_cast, Track.row, e1]
    first | refine hK _ ?_ | refine ⟨(by clear hK; intros; first | omega | (simp_all; done) | (simp_all <;> omega)), hK _ ?_⟩ | refine ⟨(by clear hK; intros; first | omega | (simp_all; done) | (simp_all <;> omega)), (by clear hK; intros; first | omega | (simp_all; done) | (simp_all <;> omega)), hK _ ?_⟩ | refine ⟨(by clear hK; intros; first | omega | (simp_all; done) | (simp_all <;> omega)), (by clear hK; intros; first | omega | (simp_all; done) | (simp_all <;> omega)), (by clear hK; intros; first | omega | (simp_all; done) | (simp_all <;> omega)), hK _ ?_⟩
    clear hK K; (repeat (first | refine awp_seq ?_ | refine awp_block ?_ | refine awp_scope ?_ | refine awp_skip ?_ | refine awp_exit ?_ | refine awp_ret ?_ | refine sq_n ?_ | refine sq_r ?_ | refine sq_x ?_ | refine bq_n ?_ | refine bq_r ?_ | refine bq_x ?_ | refine bq_y rfl ?_ | refine pq_n ?_ | refine pq_r ?_ | refine pq_x ?_))
    refine awp_loop (β := Nat × List Cell) (fun b => ⟨33, [(1, .ptr 0 0 0), (2, .ptr 1 0 0), (3, .ptr 2 0 0), (4, .d (.int .i64 ((b.1 : Int) - 1)))], [(0, some ⟨36, 3, [t.row.map .d]⟩), (1, some ⟨36, 3, [[.d (.int .i64 0), .d (.bool false), .nl]]⟩), (2, some ⟨36, 3, [[.d (.int .i64 t.role), .d (.bool t.closed), .hs 3 0 b.2.length]]⟩), (3, some ⟨23, 2, dr (b.2.map Cell.row)⟩)], 4⟩) (fun b => b.1 ≤ t.cells.length ∧ b.2 = (t.cells.drop b.1).reverse) (fun b => b.1) (t.cells.length, []) ?_ ⟨Nat.le_refl _, by simp⟩ ?_
    · refine weak_of [(0, some 0), (1, some 1), (2, some 10), (3, none)] rfl (by simp [upT, up, upL, push_cast, Track.row]) (by simp [upH, upR, upL, up, push_cast, Track.row]) (by simp [namesOk, push_cast]) (by simp [olds])
    · rintro ⟨k, X⟩ ⟨hk, hX⟩
      simp only at hk hX
      (repeat (first | refine awp_seq ?_ | refine awp_block ?_ | refine awp_scope ?_ | refine awp_skip ?_ | refine awp_exit ?_ | refine awp_ret ?_ | refine sq_n ?_ | refine sq_r ?_ | refine sq_x ?_ | refine bq_n ?_ | refine bq_r ?_ | refine bq_x ?_ | refine bq_y rfl ?_ | refine pq_n ?_ | refine pq_r ?_ | refine pq_x ?_))
      refine awp_region cx [] fun K hK => ?_
      simp [push_cast]
      first | refine hK _ ?_ | refine ⟨(by clear hK; intros; first | omega | (simp_all; done) | (simp_all <;> omega)), hK _ ?_⟩ | refine ⟨(by clear hK; intros; first | omega | (simp_all; done) | (simp_all <;> omega)), (by clear hK; intros; first | omega | (simp_all; done) | (simp_all <;> omega)), hK _ ?_⟩ | refine ⟨(by clear hK; intros; first | omega | (simp_all; done) | (simp_all <;> omega)), (by clear hK; intros; first | omega | (simp_all; done) | (simp_all <;> omega)), (by clear hK; intros; first | omega | (simp_all; done) | (simp_all <;> omega)), hK _ ?_⟩
      clear hK K; (repeat (first | refine awp_seq ?_ | refine awp_block ?_ | refine awp_scope ?_ | refine awp_skip ?_ | refine awp_exit ?_ | refine awp_ret ?_ | refine sq_n ?_ | refine sq_r ?_ | refine sq_x ?_ | refine bq_n ?_ | refine bq_r ?_ | refine bq_x ?_ | refine bq_y rfl ?_ | refine pq_n ?_ | refine pq_r ?_ | refine pq_x ?_))
      refine awp_cond (b := decide ((0 : Int) ≤ (k : Int) - 1)) (by simp [push_cast]) (fun hb => ?_) (fun hb => ?_) <;> ((repeat (first | refine awp_seq ?_ | refine awp_block ?_ | refine awp_scope ?_ | refine awp_skip ?_ | refine awp_exit ?_ | refine awp_ret ?_ | refine sq_n ?_ | refine sq_r ?_ | refine sq_x ?_ | refine bq_n ?_ | refine bq_r ?_ | refine bq_x ?_ | refine bq_y rfl ?_ | refine pq_n ?_ | refine pq_r ?_ | refine pq_x ?_)))
      · have hk0 : 0 < k := by simp at hb; omega
        obtain ⟨j, rfl⟩ : ∃ j, k = j + 1 := ⟨k - 1, by omega⟩
        obtain ⟨x, hx⟩ : ∃ x, t.cells[j]? = some x := getq (by omega)
        have e0 : ((j + 1 : Nat) : Int) - 1 = j := by omega
        have e2 := wrap_i64 (n := (j : Int) - 1) (by omega) (by omega)
        have hXl : X.length ≤ t.cells.length := by rw [hX]; simp
        have e3 : (X.length + 1) * 16 ≤ 140737488355328 := by omega
        have hs := rev_step hx
        rw [← hX] at hs
        simp only [e0]
        refine awp_region_draw cx mixed [] fun K hK => ?_
        simp [push_cast, hx, e3, Track.row, Cell.row]
        first | refine hK _ _ (by kernel_rfl) ?_ | refine ⟨(by clear hK; intros; first | omega | (simp_all; done) | (simp_all <;> omega)), hK _ _ (by kernel_rfl) ?_⟩ | refine ⟨(by clear hK; intros; first | omega | (simp_all; done) | (simp_all <;> omega)), (by clear hK; intros; first | omega | (simp_all; done) | (simp_all <;> omega)), hK _ _ (by kernel_rfl) ?_⟩ | refine ⟨(by clear hK; intros; first | omega | (simp_all; done) | (simp_all <;> omega)), (by clear hK; intros; first | omega | (simp_all; done) | (simp_all <;> omega)), (by clear hK; intros; first | omega | (simp_all; done) | (simp_all <;> omega)), hK _ _ (by kernel_rfl) ?_⟩
        clear hK K; (repeat (first | refine awp_seq ?_ | refine awp_block ?_ | refine awp_scope ?_ | refine awp_skip ?_ | refine awp_exit ?_ | refine awp_ret ?_ | refine sq_n ?_ | refine sq_r ?_ | refine sq_x ?_ | refine bq_n ?_ | refine bq_r ?_ | refine bq_x ?_ | refine bq_y rfl ?_ | refine pq_n ?_ | refine pq_r ?_ | refine pq_x ?_))
        refine awp_region cx [] fun K hK => ?_
        simp [push_cast]
        first | refine hK _ ?_ | refine ⟨(by clear hK; intros; first | omega | (simp_all; done) | (simp_all <;> omega)), hK _ ?_⟩ | refine ⟨(by clear hK; intros; first | omega | (simp_all; done) | (simp_all <;> omega)), (by clear hK; intros; first | omega | (simp_all; done) | (simp_all <;> omega)), hK _ ?_⟩ | refine ⟨(by clear hK; intros; first | omega | (simp_all; done) | (simp_all <;> omega)), (by clear hK; intros; first | omega | (simp_all; done) | (simp_all <;> omega)), (by clear hK; intros; first | omega | (simp_all; done) | (simp_all <;> omega)), hK _ ?_⟩
        clear hK K; (repeat (first | refine awp_seq ?_ | refine awp_block ?_ | refine awp_scope ?_ | refine awp_skip ?_ | refine awp_exit ?_ | refine awp_ret ?_ | refine sq_n ?_ | refine sq_r ?_ | refine sq_x ?_ | refine bq_n ?_ | refine bq_r ?_ | refine bq_x ?_ | refine bq_y rfl ?_ | refine pq_n ?_ | refine pq_r ?_ | refine pq_x ?_))
        refine ⟨(j, X ++ [x]), ⟨by omega, hs⟩, by simp, ?_⟩
        refine weak_of [(0, some 0), (1, some 1), (2, some 2), (3, some 14)] rfl (by simp [upT, up, upL, push_cast, e2, Track.row, Cell.row]) (by simp [upH, upR, upL, up, push_cast, e2, Track.row, Cell.row]) (by simp [namesOk, push_cast]) (by simp [olds])
      · have hk0 : k = 0 := by simp at hb; omega
        subst hk0
        simp at hX
        subst hX
        refine awp_region cx [] fun K hK => ?_
        simp [push_cast]
        first | refine hK _ ?_ | refine ⟨(by clear hK; intros; first | omega | (simp_all; done) | (simp_all <;> omega)), hK _ ?_⟩ | refine ⟨(by clear hK; intros; first | omega | (simp_all; done) | (simp_all <;> omega)), (by clear hK; intros; first | omega | (simp_all; done) | (simp_all <;> omega)), hK _ ?_⟩ | refine ⟨(by clear hK; intros; first | omega | (simp_all; done) | (simp_all <;> omega)), (by clear hK; intros; first | omega | (simp_all; done) | (simp_all <;> omega)), (by clear hK; intros; first | omega | (simp_all; done) | (simp_all <;> omega)), hK _ ?_⟩
        clear hK K; (repeat (first | refine awp_seq ?_ | refine awp_block ?_ | refine awp_scope ?_ | refine awp_skip ?_ | refine awp_exit ?_ | refine awp_ret ?_ | refine sq_n ?_ | refine sq_r ?_ | refine sq_x ?_ | refine bq_n ?_ | refine bq_r ?_ | refine bq_x ?_ | refine bq_y rfl ?_ | refine pq_n ?_ | refine pq_r ?_ | refine pq_x ?_))
        simp [push_cast, Track.row]
        simp [revT, hv]
        exact List.take_of_length_le (by simp)

theorem row2 {l : List Cell} {r : List D} (h : r ∈ l.map Cell.row) : r.length = 2 := by
  obtain ⟨c, _, rfl⟩ := List.mem_map.1 h; rfl

theorem rotated_ok (l : List Cell) (k : Nat) (hl : l.length ≤ 65536) (hk : k ≤ l.length) : PC Try.prog 60 [encCells l, .int .i64 k] (.o 23 2 ((rot l k).map Cell.row)) := by
  have m1 : 16 * (l.length : Int) ≤ 281474976710656 := by omega
  have m2 : (l.length : Int) ≤ 9223372036854775807 := by omega
  have m3 : (l.length - k) * 16 ≤ 140737488355328 := by omega
  have m4 : (l.length - k + k) * 16 ≤ 140737488355328 := by omega
  have m6 : min k l.length = k := by omega
  have m7 : k ≤ l.length := hk
  refine pc_of_awp cx (fn := Try.f60) (c := _) Try.func60 rfl rfl (Nat.le_of_ble_eq_true rfl) ?_
  rw [Try.ntmps60]; (repeat (first | refine awp_seq ?_ | refine awp_block ?_ | refine awp_scope ?_ | refine awp_skip ?_ | refine awp_exit ?_ | refine awp_ret ?_ | refine sq_n ?_ | refine sq_r ?_ | refine sq_x ?_ | refine bq_n ?_ | refine bq_r ?_ | refine bq_x ?_ | refine bq_y rfl ?_ | refine pq_n ?_ | refine pq_r ?_ | refine pq_x ?_))
  refine awp_region cx [] fun K hK => ?_
  simp [push_cast]
  first | refine hK _ ?_ | refine ⟨(by clear hK; intros; first | omega | (simp_all; done) | (simp_all <;> omega)), hK _ ?_⟩ | refine ⟨(by clear hK; intros; first | omega | (simp_all; done) | (simp_all <;> omega)), (by clear hK; intros; first | omega | (simp_all; done) | (simp_all <;> omega)), hK _ ?_⟩ | refine ⟨(by clear hK; intros; first | omega | (simp_all; done) | (simp_all <;> omega)), (by clear hK; intros; first | omega | (simp_all; done) | (simp_all <;> omega)), (by clear hK; intros; first | omega | (simp_all; done) | (simp_all <;> omega)), hK _ ?_⟩
  clear hK K; (repeat (first | refine awp_seq ?_ | refine awp_block ?_ | refine awp_scope ?_ | refine awp_skip ?_ | refine awp_exit ?_ | refine awp_ret ?_ | refine sq_n ?_ | refine sq_r ?_ | refine sq_x ?_ | refine bq_n ?_ | refine bq_r ?_ | refine bq_x ?_ | refine bq_y rfl ?_ | refine pq_n ?_ | refine pq_r ?_ | refine pq_x ?_))
  refine awp_region_draw cx mixed [] fun K hK => ?_
  simp [push_cast, m1, m2, m3, m4, m6, m7, Cell.row_len]
  refine ⟨fun r h => row2 (List.mem_of_mem_drop h), ⟨fun r h => row2 (List.mem_of_mem_take h), by omega⟩, hK _ _ (by kernel_rfl) ?_⟩; clear hK K; (repeat (first | refine awp_seq ?_ | refine awp_block ?_ | refine awp_scope ?_ | refine awp_skip ?_ | refine awp_exit ?_ | refine awp_ret ?_ | refine sq_n ?_ | refine sq_r ?_ | refine sq_x ?_ | refine bq_n ?_ | refine bq_r ?_ | refine bq_x ?_ | refine bq_y rfl ?_ | refine pq_n ?_ | refine pq_r ?_ | refine pq_x ?_))
  have h1 : List.take (l.length - k) (List.drop k (List.map Cell.row l)) = List.drop k (List.map Cell.row l) := List.take_of_length_le (by simp)
  simp [push_cast, rot, h1]
  constructor
  · exact List.take_of_length_le (by simp; omega)
  · omega

def variant (t : Track) (k : Int) : Track := if t.closed then turT t k else if k = 1 then revT t else t

theorem neg_lt_tmod (i n : Int) (h : 0 < n) : -n < i.tmod n := by
  rcases Int.le_total 0 i with h0 | h0
  · have := Int.tmod_nonneg n h0; omega
  · have h1 := Int.tmod_lt_of_pos (-i) h
    rw [Int.neg_tmod] at h1; omega

theorem turned_ok (t : Track) (i : Int) (hl : t.cells.length ≤ 65536) : PC Try.prog 52 [.agg t.row, .int .i64 i] (.p (.agg (turT t i).row)) := by
  have c1 := valid_ok t hl
  by_cases hv : validT t = true
  · rw [hv] at c1
    have hn := (validT_facts hv).1
    have hn0 : ¬ (t.cells.length : Int) = 0 := by omega
    have b1 := Int.tmod_lt_of_pos i (show 0 < (t.cells.length : Int) by omega)
    have b2 := neg_lt_tmod i _ (show 0 < (t.cells.length : Int) by omega)
    have w1 := wrap_i64 (n := i.tmod t.cells.length + t.cells.length) (by omega) (by omega)
    have b3 := Int.tmod_lt_of_pos (i.tmod t.cells.length + t.cells.length) (show 0 < (t.cells.length : Int) by omega)
    have b4 := Int.tmod_nonneg (t.cells.length : Int) (show 0 ≤ i.tmod t.cells.length + t.cells.length by omega)
    have hkk : tIx t i ≤ t.cells.length := by unfold tIx; split <;> omega
    have c2 := (rotated_ok t.cells (tIx t i) hl hkk).data
    have ht : turT t i = { t with cells := rot t.cells (tIx t i) } := by simp [turT, hv]
    rw [ht]
    generalize hR : rot t.cells (tIx t i) = R at c2
    refine pc_of_awp cx (fn := Try.f52) (c := _) Try.func52 rfl rfl (Nat.le_of_ble_eq_true rfl) ?_
    rw [Try.ntmps52]; (repeat (first | refine awp_seq ?_ | refine awp_block ?_ | refine awp_scope ?_ | refine awp_skip ?_ | refine awp_exit ?_ | refine awp_ret ?_ | refine sq_n ?_ | refine sq_r ?_ | refine sq_x ?_ | refine bq_n ?_ | refine bq_r ?_ | refine bq_x ?_ | refine bq_y rfl ?_ | refine pq_n ?_ | refine pq_r ?_ | refine pq_x ?_))
    refine awp_region cx [] fun K hK => ?_
    simp [push_cast, Track.row]
    first | refine hK _ ?_ | refine ⟨(by clear hK; intros; first | omega | (simp_all; done) | (simp_all <;> omega)), hK _ ?_⟩ | refine ⟨(by clear hK; intros; first | omega | (simp_all; done) | (simp_all <;> omega)), (by clear hK; intros; first | omega | (simp_all; done) | (simp_all <;> omega)), hK _ ?_⟩ | refine ⟨(by clear hK; intros; first | omega | (simp_all; done) | (simp_all <;> omega)), (by clear hK; intros; first | omega | (simp_all; done) | (simp_all <;> omega)), (by clear hK; intros; first | omega | (simp_all; done) | (simp_all <;> omega)), hK _ ?_⟩
    clear hK K; (repeat (first | refine awp_seq ?_ | refine awp_block ?_ | refine awp_scope ?_ | refine awp_skip ?_ | refine awp_exit ?_ | refine awp_ret ?_ | refine sq_n ?_ | refine sq_r ?_ | refine sq_x ?_ | refine bq_n ?_ | refine bq_r ?_ | refine bq_x ?_ | refine bq_y rfl ?_ | refine pq_n ?_ | refine pq_r ?_ | refine pq_x ?_))
    refine awp_region cx [(1, .p (.bool true))] fun K hK => ?_
    simp [push_cast, c1, Track.row]
    first | refine hK _ ?_ | refine ⟨(by clear hK; intros; first | omega | (simp_all; done) | (simp_all <;> omega)), hK _ ?_⟩ | refine ⟨(by clear hK; intros; first | omega | (simp_all; done) | (simp_all <;> omega)), (by clear hK; intros; first | omega | (simp_all; done) | (simp_all <;> omega)), hK _ ?_⟩ | refine ⟨(by clear hK; intros; first | omega | (simp_all; done) | (simp_all <;> omega)), (by clear hK; intros; first | omega | (simp_all; done) | (simp_all <;> omega)), (by clear hK; intros; first | omega | (simp_all; done) | (simp_all <;> omega)), hK _ ?_⟩
    clear hK K; (repeat (first | refine awp_seq ?_ | refine awp_block ?_ | refine awp_scope ?_ | refine awp_skip ?_ | refine awp_exit ?_ | refine awp_ret ?_ | refine sq_n ?_ | refine sq_r ?_ | refine sq_x ?_ | refine bq_n ?_ | refine bq_r ?_ | refine bq_x ?_ | refine bq_y rfl ?_ | refine pq_n ?_ | refine pq_r ?_ | refine pq_x ?_))
    refine awp_cond (b := false) (by simp [push_cast]) (fun hb => ?_) (fun hb => ?_) <;> ((repeat (first | refine awp_seq ?_ | refine awp_block ?_ | refine awp_scope ?_ | refine awp_skip ?_ | refine awp_exit ?_ | refine awp_ret ?_ | refine sq_n ?_ | refine sq_r ?_ | refine sq_x ?_ | refine bq_n ?_ | refine bq_r ?_ | refine bq_x ?_ | refine bq_y rfl ?_ | refine pq_n ?_ | refine pq_r ?_ | refine pq_x ?_)))
    · simp at hb
    · refine awp_region cx [] fun K hK => ?_
      simp [push_cast]
      first | refine hK _ ?_ | refine ⟨(by clear hK; intros; first | omega | (simp_all; done) | (simp_all <;> omega)), hK _ ?_⟩ | refine ⟨(by clear hK; intros; first | omega | (simp_all; done) | (simp_all <;> omega)), (by clear hK; intros; first | omega | (simp_all; done) | (simp_all <;> omega)), hK _ ?_⟩ | refine ⟨(by clear hK; intros; first | omega | (simp_all; done) | (simp_all <;> omega)), (by clear hK; intros; first | omega | (simp_all; done) | (simp_all <;> omega)), (by clear hK; intros; first | omega | (simp_all; done) | (simp_all <;> omega)), hK _ ?_⟩
      clear hK K; (repeat (first | refine awp_seq ?_ | refine awp_block ?_ | refine awp_scope ?_ | refine awp_skip ?_ | refine awp_exit ?_ | refine awp_ret ?_ | refine sq_n ?_ | refine sq_r ?_ | refine sq_x ?_ | refine bq_n ?_ | refine bq_r ?_ | refine bq_x ?_ | refine bq_y rfl ?_ | refine pq_n ?_ | refine pq_r ?_ | refine pq_x ?_))
      refine awp_region cx [] fun K hK => ?_
      simp [push_cast, Track.row]
      first | refine hK _ ?_ | refine ⟨(by clear hK; intros; first | omega | (simp_all; done) | (simp_all <;> omega)), hK _ ?_⟩ | refine ⟨(by clear hK; intros; first | omega | (simp_all; done) | (simp_all <;> omega)), (by clear hK; intros; first | omega | (simp_all; done) | (simp_all <;> omega)), hK _ ?_⟩ | refine ⟨(by clear hK; intros; first | omega | (simp_all; done) | (simp_all <;> omega)), (by clear hK; intros; first | omega | (simp_all; done) | (simp_all <;> omega)), (by clear hK; intros; first | omega | (simp_all; done) | (simp_all <;> omega)), hK _ ?_⟩
      clear hK K; (repeat (first | refine awp_seq ?_ | refine awp_block ?_ | refine awp_scope ?_ | refine awp_skip ?_ | refine awp_exit ?_ | refine awp_ret ?_ | refine sq_n ?_ | refine sq_r ?_ | refine sq_x ?_ | refine bq_n ?_ | refine bq_r ?_ | refine bq_x ?_ | refine bq_y rfl ?_ | refine pq_n ?_ | refine pq_r ?_ | refine pq_x ?_))
      refine awp_region cx [] fun K hK => ?_
      simp [push_cast, Track.row]
      first | refine hK _ ?_ | refine ⟨(by clear hK; intros; first | omega | (simp_all; done) | (simp_all <;> omega)), hK _ ?_⟩ | refine ⟨(by clear hK; intros; first | omega | (simp_all; done) | (simp_all <;> omega)), (by clear hK; intros; first | omega | (simp_all; done) | (simp_all <;> omega)), hK _ ?_⟩ | refine ⟨(by clear hK; intros; first | omega | (simp_all; done) | (simp_all <;> omega)), (by clear hK; intros; first | omega | (simp_all; done) | (simp_all <;> omega)), (by clear hK; intros; first | omega | (simp_all; done) | (simp_all <;> omega)), hK _ ?_⟩
      clear hK K; (repeat (first | refine awp_seq ?_ | refine awp_block ?_ | refine awp_scope ?_ | refine awp_skip ?_ | refine awp_exit ?_ | refine awp_ret ?_ | refine sq_n ?_ | refine sq_r ?_ | refine sq_x ?_ | refine bq_n ?_ | refine bq_r ?_ | refine bq_x ?_ | refine bq_y rfl ?_ | refine pq_n ?_ | refine pq_r ?_ | refine pq_x ?_))
      refine awp_cond (b := t.closed) (by simp [push_cast]) (fun hb => ?_) (fun hb => ?_) <;> ((repeat (first | refine awp_seq ?_ | refine awp_block ?_ | refine awp_scope ?_ | refine awp_skip ?_ | refine awp_exit ?_ | refine awp_ret ?_ | refine sq_n ?_ | refine sq_r ?_ | refine sq_x ?_ | refine bq_n ?_ | refine bq_r ?_ | refine bq_x ?_ | refine bq_y rfl ?_ | refine pq_n ?_ | refine pq_r ?_ | refine pq_x ?_)))
      · have hk : ((i.tmod t.cells.length + t.cells.length).tmod t.cells.length) = (tIx t i : Nat) := by simp only [tIx, hb, if_true]; omega
        generalize tIx t i = k at *
        refine awp_region cx [] fun K hK => ?_
        simp [push_cast, hn0, w1, hk]
        first | refine hK _ ?_ | refine ⟨(by clear hK; intros; first | omega | (simp_all; done) | (simp_all <;> omega)), hK _ ?_⟩ | refine ⟨(by clear hK; intros; first | omega | (simp_all; done) | (simp_all <;> omega)), (by clear hK; intros; first | omega | (simp_all; done) | (simp_all <;> omega)), hK _ ?_⟩ | refine ⟨(by clear hK; intros; first | omega | (simp_all; done) | (simp_all <;> omega)), (by clear hK; intros; first | omega | (simp_all; done) | (simp_all <;> omega)), (by clear hK; intros; first | omega | (simp_all; done) | (simp_all <;> omega)), hK _ ?_⟩
        clear hK K; (repeat (first | refine awp_seq ?_ | refine awp_block ?_ | refine awp_scope ?_ | refine awp_skip ?_ | refine awp_exit ?_ | refine awp_ret ?_ | refine sq_n ?_ | refine sq_r ?_ | refine sq_x ?_ | refine bq_n ?_ | refine bq_r ?_ | refine bq_x ?_ | refine bq_y rfl ?_ | refine pq_n ?_ | refine pq_r ?_ | refine pq_x ?_))
        refine awp_region_draw cx mixed [(7, .p (encCells R))] fun K hK => ?_
        simp [push_cast, c2, Track.row]
        first | refine hK _ _ (by kernel_rfl) ?_ | refine ⟨(by clear hK; intros; first | omega | (simp_all; done) | (simp_all <;> omega)), hK _ _ (by kernel_rfl) ?_⟩ | refine ⟨(by clear hK; intros; first | omega | (simp_all; done) | (simp_all <;> omega)), (by clear hK; intros; first | omega | (simp_all; done) | (simp_all <;> omega)), hK _ _ (by kernel_rfl) ?_⟩ | refine ⟨(by clear hK; intros; first | omega | (simp_all; done) | (simp_all <;> omega)), (by clear hK; intros; first | omega | (simp_all; done) | (simp_all <;> omega)), (by clear hK; intros; first | omega | (simp_all; done) | (simp_all <;> omega)), hK _ _ (by kernel_rfl) ?_⟩
        clear hK K; (repeat (first | refine awp_seq ?_ | refine awp_block ?_ | refine awp_scope ?_ | refine awp_skip ?_ | refine awp_exit ?_ | refine awp_ret ?_ | refine sq_n ?_ | refine sq_r ?_ | refine sq_x ?_ | refine bq_n ?_ | refine bq_r ?_ | refine bq_x ?_ | refine bq_y rfl ?_ | refine pq_n ?_ | refine pq_r ?_ | refine pq_x ?_))
        simp [push_cast, Track.row]
      · have hk : tIx t i = 0 := by simp [tIx, hb]
        rw [hk] at c2
        refine awp_region_draw cx mixed [(7, .p (encCells R))] fun K hK => ?_
        simp [push_cast, c2, Track.row]
        first | refine hK _ _ (by kernel_rfl) ?_ | refine ⟨(by clear hK; intros; first | omega | (simp_all; done) | (simp_all <;> omega)), hK _ _ (by kernel_rfl) ?_⟩ | refine ⟨(by clear hK; intros; first | omega | (simp_all; done) | (simp_all <;> omega)), (by clear hK; intros; first | omega | (simp_all; done) | (simp_all <;> omega)), hK _ _ (by kernel_rfl) ?_⟩ | refine ⟨(by clear hK; intros; first | omega | (simp_all; done) | (simp_all <;> omega)), (by clear hK; intros; first | omega | (simp_all; done) | (simp_all <;> omega)), (by clear hK; intros; first | omega | (simp_all; done) | (simp_all <;> omega)), hK _ _ (by kernel_rfl) ?_⟩
        clear hK K; (repeat (first | refine awp_seq ?_ | refine awp_block ?_ | refine awp_scope ?_ | refine awp_skip ?_ | refine awp_exit ?_ | refine awp_ret ?_ | refine sq_n ?_ | refine sq_r ?_ | refine sq_x ?_ | refine bq_n ?_ | refine bq_r ?_ | refine bq_x ?_ | refine bq_y rfl ?_ | refine pq_n ?_ | refine pq_r ?_ | refine pq_x ?_))
        simp [push_cast, Track.row]
  · simp only [Bool.not_eq_true] at hv
    rw [hv] at c1
    have ht : turT t i = zeroT := by simp [turT, hv]
    rw [ht]
    refine pc_of_awp cx (fn := Try.f52) (c := _) Try.func52 rfl rfl (Nat.le_of_ble_eq_true rfl) ?_
    rw [Try.ntmps52]; (repeat (first | refine awp_seq ?_ | refine awp_block ?_ | refine awp_scope ?_ | refine awp_skip ?_ | refine awp_exit ?_ | refine awp_ret ?_ | refine sq_n ?_ | refine sq_r ?_ | refine sq_x ?_ | refine bq_n ?_ | refine bq_r ?_ | refine bq_x ?_ | refine bq_y rfl ?_ | refine pq_n ?_ | refine pq_r ?_ | refine pq_x ?_))
    refine awp_region cx [] fun K hK => ?_
    simp [push_cast, Track.row]
    first | refine hK _ ?_ | refine ⟨(by clear hK; intros; first | omega | (simp_all; done) | (simp_all <;> omega)), hK _ ?_⟩ | refine ⟨(by clear hK; intros; first | omega | (simp_all; done) | (simp_all <;> omega)), (by clear hK; intros; first | omega | (simp_all; done) | (simp_all <;> omega)), hK _ ?_⟩ | refine ⟨(by clear hK; intros; first | omega | (simp_all; done) | (simp_all <;> omega)), (by clear hK; intros; first | omega | (simp_all; done) | (simp_all <;> omega)), (by clear hK; intros; first | omega | (simp_all; done) | (simp_all <;> omega)), hK _ ?_⟩
    clear hK K; (repeat (first | refine awp_seq ?_ | refine awp_block ?_ | refine awp_scope ?_ | refine awp_skip ?_ | refine awp_exit ?_ | refine awp_ret ?_ | refine sq_n ?_ | refine sq_r ?_ | refine sq_x ?_ | refine bq_n ?_ | refine bq_r ?_ | refine bq_x ?_ | refine bq_y rfl ?_ | refine pq_n ?_ | refine pq_r ?_ | refine pq_x ?_))
    refine awp_region cx [(1, .p (.bool false))] fun K hK => ?_
    simp [push_cast, c1, Track.row]
    first | refine hK _ ?_ | refine ⟨(by clear hK; intros; first | omega | (simp_all; done) | (simp_all <;> omega)), hK _ ?_⟩ | refine ⟨(by clear hK; intros; first | omega | (simp_all; done) | (simp_all <;> omega)), (by clear hK; intros; first | omega | (simp_all; done) | (simp_all <;> omega)), hK _ ?_⟩ | refine ⟨(by clear hK; intros; first | omega | (simp_all; done) | (simp_all <;> omega)), (by clear hK; intros; first | omega | (simp_all; done) | (simp_all <;> omega)), (by clear hK; intros; first | omega | (simp_all; done) | (simp_all <;> omega)), hK _ ?_⟩
    clear hK K; (repeat (first | refine awp_seq ?_ | refine awp_block ?_ | refine awp_scope ?_ | refine awp_skip ?_ | refine awp_exit ?_ | refine awp_ret ?_ | refine sq_n ?_ | refine sq_r ?_ | refine sq_x ?_ | refine bq_n ?_ | refine bq_r ?_ | refine bq_x ?_ | refine bq_y rfl ?_ | refine pq_n ?_ | refine pq_r ?_ | refine pq_x ?_))
    refine awp_cond (b := true) (by simp [push_cast]) (fun hb => ?_) (fun hb => ?_) <;> ((repeat (first | refine awp_seq ?_ | refine awp_block ?_ | refine awp_scope ?_ | refine awp_skip ?_ | refine awp_exit ?_ | refine awp_ret ?_ | refine sq_n ?_ | refine sq_r ?_ | refine sq_x ?_ | refine bq_n ?_ | refine bq_r ?_ | refine bq_x ?_ | refine bq_y rfl ?_ | refine pq_n ?_ | refine pq_r ?_ | refine pq_x ?_)))
    · refine awp_region cx [] fun K hK => ?_
      simp [push_cast]
      first | refine hK _ ?_ | refine ⟨(by clear hK; intros; first | omega | (simp_all; done) | (simp_all <;> omega)), hK _ ?_⟩ | refine ⟨(by clear hK; intros; first | omega | (simp_all; done) | (simp_all <;> omega)), (by clear hK; intros; first | omega | (simp_all; done) | (simp_all <;> omega)), hK _ ?_⟩ | refine ⟨(by clear hK; intros; first | omega | (simp_all; done) | (simp_all <;> omega)), (by clear hK; intros; first | omega | (simp_all; done) | (simp_all <;> omega)), (by clear hK; intros; first | omega | (simp_all; done) | (simp_all <;> omega)), hK _ ?_⟩
      clear hK K; (repeat (first | refine awp_seq ?_ | refine awp_block ?_ | refine awp_scope ?_ | refine awp_skip ?_ | refine awp_exit ?_ | refine awp_ret ?_ | refine sq_n ?_ | refine sq_r ?_ | refine sq_x ?_ | refine bq_n ?_ | refine bq_r ?_ | refine bq_x ?_ | refine bq_y rfl ?_ | refine pq_n ?_ | refine pq_r ?_ | refine pq_x ?_))
      simp [push_cast, zeroT, Track.row]
    · simp at hb

theorem rot_get {l : List Cell} {k j : Nat} {x : Cell} (hk : k ≤ l.length) (hj : j < l.length) (hx : l[(k + j) % l.length]? = some x) : (rot l k).take (j + 1) = (rot l k).take j ++ [x] := by
  rw [List.take_add_one]
  congr 1
  have : (rot l k)[j]? = some x := by
    rw [← hx]
    unfold rot
    rw [List.getElem?_append]
    simp only [List.length_drop]
    split
    · rename_i h
      rw [List.getElem?_drop, Nat.mod_eq_of_lt (by omega)]
    · rename_i h
      rw [List.getElem?_take, if_pos (by omega)]
      congr 1
      by_cases e : k = l.length
      · subst e
        rw [Nat.add_mod_left, Nat.mod_eq_of_lt hj]; omega
      · have : k + j = (j - (l.length - k)) + l.length := by omega
        rw [this, Nat.add_mod_right, Nat.mod_eq_of_lt (by omega)]
  rw [this]; rfl

theorem rot_length {l : List Cell} {k : Nat} (hk : k ≤ l.length) : (rot l k).length = l.length := by simp [rot]; omega

theorem rturned_ok (t : Track) (i : Int) (hl : t.cells.length ≤ 65536) : PC Try.prog 54 [.agg t.row, .int .i64 i] (.p (.agg (turT t i).row)) := by
  have c1 := validR_ok t hl
  by_cases hv : validT t = true
  · rw [hv] at c1
    have hn := (validT_facts hv).1
    have hn0 : ¬ (t.cells.length : Int) = 0 := by omega
    have b1 := Int.tmod_lt_of_pos i (show 0 < (t.cells.length : Int) by omega)
    have b2 := neg_lt_tmod i _ (show 0 < (t.cells.length : Int) by omega)
    have w1 := wrap_i64 (n := i.tmod t.cells.length + t.cells.length) (by omega) (by omega)
    have b3 := Int.tmod_lt_of_pos (i.tmod t.cells.length + t.cells.length) (show 0 < (t.cells.length : Int) by omega)
    have b4 := Int.tmod_nonneg (t.cells.length : Int) (show 0 ≤ i.tmod t.cells.length + t.cells.length by omega)
    have hkk : tIx t i ≤ t.cells.length := by unfold tIx; split <;> omega
    have ht : turT t i = { t with cells := rot t.cells (tIx t i) } := by simp [turT, hv]
    have hrl := rot_length hkk
    rw [ht]
    have hk0 : ¬ t.closed → tIx t i = 0 := fun h => by simp [tIx, h]
    have hk1 : t.closed = true → ((i.tmod t.cells.length + t.cells.length).tmod t.cells.length) = (tIx t i : Nat) := fun h => by simp only [tIx, h, if_true]; omega
    generalize hkq : tIx t i = kk at *
    refine pc_of_awp cx (fn := Try.f54) (c := _) Try.func54 rfl rfl (Nat.le_of_ble_eq_true rfl) ?_
    rw [Try.ntmps54]; (repeat (first | refine awp_seq ?_ | refine awp_block ?_ | refine awp_scope ?_ | refine awp_skip ?_ | refine awp_exit ?_ | refine awp_ret ?_ | refine sq_n ?_ | refine sq_r ?_ | refine sq_x ?_ | refine bq_n ?_ | refine bq_r ?_ | refine bq_x ?_ | refine bq_y rfl ?_ | refine pq_n ?_ | refine pq_r ?_ | refine pq_x ?_))
    refine awp_region cx [] fun K hK => ?_
    simp [push_cast, Track.row]
    first | refine hK _ ?_ | refine ⟨(by clear hK; intros; first | omega | (simp_all; done) | (simp_all <;> omega)), hK _ ?_⟩ | refine ⟨(by clear hK; intros; first | omega | (simp_all; done) | (simp_all <;> omega)), (by clear hK; intros; first | omega | (simp_all; done) | (simp_all <;> omega)), hK _ ?_⟩ | refine ⟨(by clear hK; intros; first | omega | (simp_all; done) | (simp_all <;> omega)), (by clear hK; intros; first | omega | (simp_all; done) | (simp_all <;> omega)), (by clear hK; intros; first | omega | (simp_all; done) | (simp_all <;> omega)), hK _ ?_⟩
    clear hK K; (repeat (first | refine awp_seq ?_ | refine awp_block ?_ | refine awp_scope ?_ | refine awp_skip ?_ | refine awp_exit ?_ | refine awp_ret ?_ | refine sq_n ?_ | refine sq_r ?_ | refine sq_x ?_ | refine bq_n ?_ | refine bq_r ?_ | refine bq_x ?_ | refine bq_y rfl ?_ | refine pq_n ?_ | refine pq_r ?_ | refine pq_x ?_))
    refine awp_region cx [(1, .p (.bool true))] fun K hK => ?_
    simp [push_cast, c1, Track.row]
    first | refine hK _ ?_ | refine ⟨(by clear hK; intros; first | omega | (simp_all; done) | (simp_all <;> omega)), hK _ ?_⟩ | refine ⟨(by clear hK; intros; first | omega | (simp_all; done) | (simp_all <;> omega)), (by clear hK; intros; first | omega | (simp_all; done) | (simp_all <;> omega)), hK _ ?_⟩ | refine ⟨(by clear hK; intros; first | omega | (simp_all; done) | (simp_all <;> omega)), (by clear hK; intros; first | omega | (simp_all; done) | (simp_all <;> omega)), (by clear hK; intros; first | omega | (simp_all; done) | (simp_all <;> omega)), hK _ ?_⟩
    clear hK K; (repeat (first | refine awp_seq ?_ | refine awp_block ?_ | refine awp_scope ?_ | refine awp_skip ?_ | refine awp_exit ?_ | refine awp_ret ?_ | refine sq_n ?_ | refine sq_r ?_ | refine sq_x ?_ | refine bq_n ?_ | refine bq_r ?_ | refine bq_x ?_ | refine bq_y rfl ?_ | refine pq_n ?_ | refine pq_r ?_ | refine pq_x ?_))
    refine awp_cond (b := false) (by simp [push_cast]) (fun hb => ?_) (fun hb => ?_) <;> ((repeat (first | refine awp_seq ?_ | refine awp_block ?_ | refine awp_scope ?_ | refine awp_skip ?_ | refine awp_exit ?_ | refine awp_ret ?_ | refine sq_n ?_ | refine sq_r ?_ | refine sq_x ?_ | refine bq_n ?_ | refine bq_r ?_ | refine bq_x ?_ | refine bq_y rfl ?_ | refine pq_n ?_ | refine pq_r ?_ | refine pq_x ?_)))
    · simp at hb
    · refine awp_region_draw cx mixed [] fun K hK => ?_
      simp [push_cast, Track.row]
      first | refine hK _ _ (by kernel_rfl) ?_ | refine ⟨(by clear hK; intros; first | omega | (simp_all; done) | (simp_all <;> omega)), hK _ _ (by kernel_rfl) ?_⟩ | refine ⟨(by clear hK; intros; first | omega | (simp_all; done) | (simp_all <;> omega)), (by clear hK; intros; first | omega | (simp_all; done) | (simp_all <;> omega)), hK _ _ (by kernel_rfl) ?_⟩ | refine ⟨(by clear hK; intros; first | omega | (simp_all; done) | (simp_all <;> omega)), (by clear hK; intros; first | omega | (simp_all; done) | (simp_all <;> omega)), (by clear hK; intros; first | omega | (simp_all; done) | (simp_all <;> omega)), hK _ _ (by kernel_rfl) ?_⟩
      clear hK K; (repeat (first | refine awp_seq ?_ | refine awp_block ?_ | refine awp_scope ?_ | refine awp_skip ?_ | refine awp_exit ?_ | refine awp_ret ?_ | refine sq_n ?_ | refine sq_r ?_ | refine sq_x ?_ | refine bq_n ?_ | refine bq_r ?_ | refine bq_x ?_ | refine bq_y rfl ?_ | refine pq_n ?_ | refine pq_r ?_ | refine pq_x ?_))
      refine awp_region cx [] fun K hK => ?_
      simp [push_cast, Track.row]
      first | refine hK _ ?_ | refine ⟨(by clear hK; intros; first | omega | (simp_all; done) | (simp_all <;> omega)), hK _ ?_⟩ | refine ⟨(by clear hK; intros; first | omega | (simp_all; done) | (simp_all <;> omega)), (by clear hK; intros; first | omega | (simp_all; done) | (simp_all <;> omega)), hK _ ?_⟩ | refine ⟨(by clear hK; intros; first | omega | (simp_all; done) | (simp_all <;> omega)), (by clear hK; intros; first | omega | (simp_all; done) | (simp_all <;> omega)), (by clear hK; intros; first | omega | (simp_all; done) | (simp_all <;> omega)), hK _ ?_⟩
      clear hK K; (repeat (first | refine awp_seq ?_ | refine awp_block ?_ | refine awp_scope ?_ | refine awp_skip ?_ | refine awp_exit ?_ | refine awp_ret ?_ | refine sq_n ?_ | refine sq_r ?_ | refine sq_x ?_ | refine bq_n ?_ | refine bq_r ?_ | refine bq_x ?_ | refine bq_y rfl ?_ | refine pq_n ?_ | refine pq_r ?_ | refine pq_x ?_))
      refine awp_cond (b := t.closed) (by simp [push_cast]) (fun hb => ?_) (fun hb => ?_) <;> ((repeat (first | refine awp_seq ?_ | refine awp_block ?_ | refine awp_scope ?_ | refine awp_skip ?_ | refine awp_exit ?_ | refine awp_ret ?_ | refine sq_n ?_ | refine sq_r ?_ | refine sq_x ?_ | refine bq_n ?_ | refine bq_r ?_ | refine bq_x ?_ | refine bq_y rfl ?_ | refine pq_n ?_ | refine pq_r ?_ | refine pq_x ?_)))
      · have hk := hk1 hb
        have hz : True := trivial
        refine awp_region cx [] fun K hK => ?_
        simp [push_cast, hn0, w1, hk]
        first | refine hK _ ?_ | refine ⟨(by clear hK; intros; first | omega | (simp_all; done) | (simp_all <;> omega)), hK _ ?_⟩ | refine ⟨(by clear hK; intros; first | omega | (simp_all; done) | (simp_all <;> omega)), (by clear hK; intros; first | omega | (simp_all; done) | (simp_all <;> omega)), hK _ ?_⟩ | refine ⟨(by clear hK; intros; first | omega | (simp_all; done) | (simp_all <;> omega)), (by clear hK; intros; first | omega | (simp_all; done) | (simp_all <;> omega)), (by clear hK; intros; first | omega | (simp_all; done) | (simp_all <;> omega)), hK _ ?_⟩
        clear hK K; (repeat (first | refine awp_seq ?_ | refine awp_block ?_ | refine awp_scope ?_ | refine awp_skip ?_ | refine awp_exit ?_ | refine awp_ret ?_ | refine sq_n ?_ | refine sq_r ?_ | refine sq_x ?_ | refine bq_n ?_ | refine bq_r ?_ | refine bq_x ?_ | refine bq_y rfl ?_ | refine pq_n ?_ | refine pq_r ?_ | refine pq_x ?_))
        refine awp_region cx [] fun K hK => ?_
        simp [push_cast, Track.row]
        first | refine hK _ ?_ | refine ⟨(by clear hK; intros; first | omega | (simp_all; done) | (simp_all <;> omega)), hK _ ?_⟩ | refine ⟨(by clear hK; intros; first | omega | (simp_all; done) | (simp_all <;> omega)), (by clear hK; intros; first | omega | (simp_all; done) | (simp_all <;> omega)), hK _ ?_⟩ | refine ⟨(by clear hK; intros; first | omega | (simp_all; done) | (simp_all <;> omega)), (by clear hK; intros; first | omega | (simp_all; done) | (simp_all <;> omega)), (by clear hK; intros; first | omega | (simp_all; done) | (simp_all <;> omega)), hK _ ?_⟩
        clear hK K; (repeat (first | refine awp_seq ?_ | refine awp_block ?_ | refine awp_scope ?_ | refine awp_skip ?_ | refine awp_exit ?_ | refine awp_ret ?_ | refine sq_n ?_ | refine sq_r ?_ | refine sq_x ?_ | refine bq_n ?_ | refine bq_r ?_ | refine bq_x ?_ | refine bq_y rfl ?_ | refine pq_n ?_ | refine pq_r ?_ | refine pq_x ?_))
        refine awp_region cx [] fun K hK => ?_
        simp [push_cast, Track.row]
        first | refine hK _ ?_ | refine ⟨(by clear hK; intros; first | omega | (simp_all; done) | (simp_all <;> omega)), hK _ ?_⟩ | refine ⟨(by clear hK; intros; first | omega | (simp_all; done) | (simp_all <;> omega)), (by clear hK; intros; first | omega | (simp_all; done) | (simp_all <;> omega)), hK _ ?_⟩ | refine ⟨(by clear hK; intros; first | omega | (simp_all; done) | (simp_all <;> omega)), (by clear hK; intros; first | omega | (simp_all; done) | (simp_all <;> omega)), (by clear hK; intros; first | omega | (simp_all; done) | (simp_all <;> omega)), hK _ ?_⟩
        clear hK K; (repeat (first | refine awp_seq ?_ | refine awp_block ?_ | refine awp_scope ?_ | refine awp_skip ?_ | refine awp_exit ?_ | refine awp_ret ?_ | refine sq_n ?_ | refine sq_r ?_ | refine sq_x ?_ | refine bq_n ?_ | refine bq_r ?_ | refine bq_x ?_ | refine bq_y rfl ?_ | refine pq_n ?_ | refine pq_r ?_ | refine pq_x ?_))
        refine awp_loop (β := Nat × List Cell) (fun b => ⟨52, [(2, .ptr 0 0 0), (4, .ptr 1 0 0), (5, .d (.int .i64 kk)), (6, .d (.int .i64 t.cells.length)), (7, .ptr 2 0 0), (32, .d (.int .i64 t.cells.length)), (33, .d (.int .i64 b.1))], [(0, some ⟨36, 3, [t.row.map .d]⟩), (1, some ⟨36, 3, [[.d (.int .i64 0), .d (.bool false), .nl]]⟩), (2, some ⟨36, 3, [[.d (.int .i64 t.role), .d (.bool t.closed), .hs 3 0 b.2.length]]⟩), (3, some ⟨23, 2, dr (b.2.map Cell.row)⟩)], 4⟩) (fun b => b.1 ≤ t.cells.length ∧ b.2 = (rot t.cells kk).take b.1) (fun b => t.cells.length - b.1) (0, []) ?_ ⟨Nat.zero_le _, by simp⟩ ?_
        · refine weak_of [(0, some 0), (1, some 1), (2, some 25), (3, none)] rfl (by simp [upT, up, upL, push_cast, Track.row, hz]) (by simp [upH, upR, upL, up, push_cast, Track.row, hz]) (by simp [namesOk, push_cast]) (by simp [olds])
        · rintro ⟨j, X⟩ ⟨hj, hX⟩
          simp only at hj hX
          (repeat (first | refine awp_seq ?_ | refine awp_block ?_ | refine awp_scope ?_ | refine awp_skip ?_ | refine awp_exit ?_ | refine awp_ret ?_ | refine sq_n ?_ | refine sq_r ?_ | refine sq_x ?_ | refine bq_n ?_ | refine bq_r ?_ | refine bq_x ?_ | refine bq_y rfl ?_ | refine pq_n ?_ | refine pq_r ?_ | refine pq_x ?_))
          refine awp_region cx [] fun K hK => ?_
          simp [push_cast]
          first | refine hK _ ?_ | refine ⟨(by clear hK; intros; first | omega | (simp_all; done) | (simp_all <;> omega)), hK _ ?_⟩ | refine ⟨(by clear hK; intros; first | omega | (simp_all; done) | (simp_all <;> omega)), (by clear hK; intros; first | omega | (simp_all; done) | (simp_all <;> omega)), hK _ ?_⟩ | refine ⟨(by clear hK; intros; first | omega | (simp_all; done) | (simp_all <;> omega)), (by clear hK; intros; first | omega | (simp_all; done) | (simp_all <;> omega)), (by clear hK; intros; first | omega | (simp_all; done) | (simp_all <;> omega)), hK _ ?_⟩
          clear hK K; (repeat (first | refine awp_seq ?_ | refine awp_block ?_ | refine awp_scope ?_ | refine awp_skip ?_ | refine awp_exit ?_ | refine awp_ret ?_ | refine sq_n ?_ | refine sq_r ?_ | refine sq_x ?_ | refine bq_n ?_ | refine bq_r ?_ | refine bq_x ?_ | refine bq_y rfl ?_ | refine pq_n ?_ | refine pq_r ?_ | refine pq_x ?_))
          refine awp_cond (b := decide ((j : Int) < t.cells.length)) (by simp [push_cast]) (fun hb => ?_) (fun hb => ?_) <;> ((repeat (first | refine awp_seq ?_ | refine awp_block ?_ | refine awp_scope ?_ | refine awp_skip ?_ | refine awp_exit ?_ | refine awp_ret ?_ | refine sq_n ?_ | refine sq_r ?_ | refine sq_x ?_ | refine bq_n ?_ | refine bq_r ?_ | refine bq_x ?_ | refine bq_y rfl ?_ | refine pq_n ?_ | refine pq_r ?_ | refine pq_x ?_)))
          · have hlt : j < t.cells.length := by simpa using hb
            obtain ⟨x, hx⟩ : ∃ x, t.cells[(kk + j) % t.cells.length]? = some x := getq (Nat.mod_lt _ (by omega))
            have e0 := wrap_i64 (n := (j : Int) + 1) (by omega) (by omega)
            have e1 := wrap_i64 (n := (kk : Int) + j) (by omega) (by omega)
            have hm : ((kk : Int) + j).tmod t.cells.length = ((kk + j) % t.cells.length : Nat) := by
              rw [Int.tmod_eq_emod_of_nonneg (by omega)]; norm_cast
            have hm0 : (0 : Int) ≤ ((kk + j) % t.cells.length : Nat) := Int.natCast_nonneg _
            have hm2 : (((kk + j) % t.cells.length : Nat) : Int).toNat = (kk + j) % t.cells.length := Int.toNat_natCast _
            have hXl : X.length ≤ t.cells.length := by rw [hX]; simp; omega
            have e3 : (X.length + 1) * 16 ≤ 140737488355328 := by omega
            have hs := rot_get hkk hlt hx
            rw [← hX] at hs
            generalize (kk + j) % t.cells.length = q at *
            refine awp_region cx [] fun K hK => ?_
            simp [push_cast]
            first | refine hK _ ?_ | refine ⟨(by clear hK; intros; first | omega | (simp_all; done) | (simp_all <;> omega)), hK _ ?_⟩ | refine ⟨(by clear hK; intros; first | omega | (simp_all; done) | (simp_all <;> omega)), (by clear hK; intros; first | omega | (simp_all; done) | (simp_all <;> omega)), hK _ ?_⟩ | refine ⟨(by clear hK; intros; first | omega | (simp_all; done) | (simp_all <;> omega)), (by clear hK; intros; first | omega | (simp_all; done) | (simp_all <;> omega)), (by clear hK; intros; first | omega | (simp_all; done) | (simp_all <;> omega)), hK _ ?_⟩
            clear hK K; (repeat (first | refine awp_seq ?_ | refine awp_block ?_ | refine awp_scope ?_ | refine awp_skip ?_ | refine awp_exit ?_ | refine awp_ret ?_ | refine sq_n ?_ | refine sq_r ?_ | refine sq_x ?_ | refine bq_n ?_ | refine bq_r ?_ | refine bq_x ?_ | refine bq_y rfl ?_ | refine pq_n ?_ | refine pq_r ?_ | refine pq_x ?_))
            refine awp_region_draw cx mixed [] fun K hK => ?_
            simp [push_cast, hx, e3, e1, hm, hm0, hm2, hn0, Track.row, Cell.row]
            first | refine hK _ _ (by kernel_rfl) ?_ | refine ⟨(by clear hK; intros; first | omega | (simp_all; done) | (simp_all <;> omega)), hK _ _ (by kernel_rfl) ?_⟩ | refine ⟨(by clear hK; intros; first | omega | (simp_all; done) | (simp_all <;> omega)), (by clear hK; intros; first | omega | (simp_all; done) | (simp_all <;> omega)), hK _ _ (by kernel_rfl) ?_⟩ | refine ⟨(by clear hK; intros; first | omega | (simp_all; done) | (simp_all <;> omega)), (by clear hK; intros; first | omega | (simp_all; done) | (simp_all <;> omega)), (by clear hK; intros; first | omega | (simp_all; done) | (simp_all <;> omega)), hK _ _ (by kernel_rfl) ?_⟩
            clear hK K; (repeat (first | refine awp_seq ?_ | refine awp_block ?_ | refine awp_scope ?_ | refine awp_skip ?_ | refine awp_exit ?_ | refine awp_ret ?_ | refine sq_n ?_ | refine sq_r ?_ | refine sq_x ?_ | refine bq_n ?_ | refine bq_r ?_ | refine bq_x ?_ | refine bq_y rfl ?_ | refine pq_n ?_ | refine pq_r ?_ | refine pq_x ?_))
            refine awp_region cx [] fun K hK => ?_
            simp [push_cast]
            first | refine hK _ ?_ | refine ⟨(by clear hK; intros; first | omega | (simp_all; done) | (simp_all <;> omega)), hK _ ?_⟩ | refine ⟨(by clear hK; intros; first | omega | (simp_all; done) | (simp_all <;> omega)), (by clear hK; intros; first | omega | (simp_all; done) | (simp_all <;> omega)), hK _ ?_⟩ | refine ⟨(by clear hK; intros; first | omega | (simp_all; done) | (simp_all <;> omega)), (by clear hK; intros; first | omega | (simp_all; done) | (simp_all <;> omega)), (by clear hK; intros; first | omega | (simp_all; done) | (simp_all <;> omega)), hK _ ?_⟩
            clear hK K; (repeat (first | refine awp_seq ?_ | refine awp_block ?_ | refine awp_scope ?_ | refine awp_skip ?_ | refine awp_exit ?_ | refine awp_ret ?_ | refine sq_n ?_ | refine sq_r ?_ | refine sq_x ?_ | refine bq_n ?_ | refine bq_r ?_ | refine bq_x ?_ | refine bq_y rfl ?_ | refine pq_n ?_ | refine pq_r ?_ | refine pq_x ?_))
            refine ⟨(j + 1, X ++ [x]), ⟨hlt, hs.symm⟩, by simp; omega, ?_⟩
            refine weak_of [(0, some 0), (1, some 1), (2, some 2), (3, some 19)] rfl (by simp [upT, up, upL, push_cast, e0, Track.row, Cell.row]) (by simp [upH, upR, upL, up, push_cast, e0, Track.row, Cell.row]) (by simp [namesOk, push_cast]) (by simp [olds])
          · have hge : j = t.cells.length := by simp at hb; omega
            subst hge
            rw [List.take_of_length_le (by rw [hrl]; exact Nat.le_refl _)] at hX
            subst hX
            refine awp_region cx [] fun K hK => ?_
            simp [push_cast]
            first | refine hK _ ?_ | refine ⟨(by clear hK; intros; first | omega | (simp_all; done) | (simp_all <;> omega)), hK _ ?_⟩ | refine ⟨(by clear hK; intros; first | omega | (simp_all; done) | (simp_all <;> omega)), (by clear hK; intros; first | omega | (simp_all; done) | (simp_all <;> omega)), hK _ ?_⟩ | refine ⟨(by clear hK; intros; first | omega | (simp_all; done) | (simp_all <;> omega)), (by clear hK; intros; first | omega | (simp_all; done) | (simp_all <;> omega)), (by clear hK; intros; first | omega | (simp_all; done) | (simp_all <;> omega)), hK _ ?_⟩
            clear hK K; (repeat (first | refine awp_seq ?_ | refine awp_block ?_ | refine awp_scope ?_ | refine awp_skip ?_ | refine awp_exit ?_ | refine awp_ret ?_ | refine sq_n ?_ | refine sq_r ?_ | refine sq_x ?_ | refine bq_n ?_ | refine bq_r ?_ | refine bq_x ?_ | refine bq_y rfl ?_ | refine pq_n ?_ | refine pq_r ?_ | refine pq_x ?_))
            simp [push_cast, Track.row]
      · have hz := hk0 (by simp [hb])
        refine awp_region cx [] fun K hK => ?_
        simp [push_cast, Track.row]
        first | refine hK _ ?_ | refine ⟨(by clear hK; intros; first | omega | (simp_all; done) | (simp_all <;> omega)), hK _ ?_⟩ | refine ⟨(by clear hK; intros; first | omega | (simp_all; done) | (simp_all <;> omega)), (by clear hK; intros; first | omega | (simp_all; done) | (simp_all <;> omega)), hK _ ?_⟩ | refine ⟨(by clear hK; intros; first | omega | (simp_all; done) | (simp_all <;> omega)), (by clear hK; intros; first | omega | (simp_all; done) | (simp_all <;> omega)), (by clear hK; intros; first | omega | (simp_all; done) | (simp_all <;> omega)), hK _ ?_⟩
        clear hK K; (repeat (first | refine awp_seq ?_ | refine awp_block ?_ | refine awp_scope ?_ | refine awp_skip ?_ | refine awp_exit ?_ | refine awp_ret ?_ | refine sq_n ?_ | refine sq_r ?_ | refine sq_x ?_ | refine bq_n ?_ | refine bq_r ?_ | refine bq_x ?_ | refine bq_y rfl ?_ | refine pq_n ?_ | refine pq_r ?_ | refine pq_x ?_))
        refine awp_region cx [] fun K hK => ?_
        simp [push_cast, Track.row]
        first | refine hK _ ?_ | refine ⟨(by clear hK; intros; first | omega | (simp_all; done) | (simp_all <;> omega)), hK _ ?_⟩ | refine ⟨(by clear hK; intros; first | omega | (simp_all; done) | (simp_all <;> omega)), (by clear hK; intros; first | omega | (simp_all; done) | (simp_all <;> omega)), hK _ ?_⟩ | refine ⟨(by clear hK; intros; first | omega | (simp_all; done) | (simp_all <;> omega)), (by clear hK; intros; first | omega | (simp_all; done) | (simp_all <;> omega)), (by clear hK; intros; first | omega | (simp_all; done) | (simp_all <;> omega)), hK _ ?_⟩
        clear hK K; (repeat (first | refine awp_seq ?_ | refine awp_block ?_ | refine awp_scope ?_ | refine awp_skip ?_ | refine awp_exit ?_ | refine awp_ret ?_ | refine sq_n ?_ | refine sq_r ?_ | refine sq_x ?_ | refine bq_n ?_ | refine bq_r ?_ | refine bq_x ?_ | refine bq_y rfl ?_ | refine pq_n ?_ | refine pq_r ?_ | refine pq_x ?_))
        refine awp_loop (β := Nat × List Cell) (fun b => ⟨52, [(2, .ptr 0 0 0), (4, .ptr 1 0 0), (5, .d (.int .i64 kk)), (6, .d (.int .i64 t.cells.length)), (7, .ptr 2 0 0), (32, .d (.int .i64 t.cells.length)), (33, .d (.int .i64 b.1))], [(0, some ⟨36, 3, [t.row.map .d]⟩), (1, some ⟨36, 3, [[.d (.int .i64 0), .d (.bool false), .nl]]⟩), (2, some ⟨36, 3, [[.d (.int .i64 t.role), .d (.bool t.closed), .hs 3 0 b.2.length]]⟩), (3, some ⟨23, 2, dr (b.2.map Cell.row)⟩)], 4⟩) (fun b => b.1 ≤ t.cells.length ∧ b.2 = (rot t.cells kk).take b.1) (fun b => t.cells.length - b.1) (0, []) ?_ ⟨Nat.zero_le _, by simp⟩ ?_
        · refine weak_of [(0, some 0), (1, some 1), (2, some 17), (3, none)] rfl (by simp [upT, up, upL, push_cast, Track.row, hz]) (by simp [upH, upR, upL, up, push_cast, Track.row, hz]) (by simp [namesOk, push_cast]) (by simp [olds])
        · rintro ⟨j, X⟩ ⟨hj, hX⟩
          simp only at hj hX
          (repeat (first | refine awp_seq ?_ | refine awp_block ?_ | refine awp_scope ?_ | refine awp_skip ?_ | refine awp_exit ?_ | refine awp_ret ?_ | refine sq_n ?_ | refine sq_r ?_ | refine sq_x ?_ | refine bq_n ?_ | refine bq_r ?_ | refine bq_x ?_ | refine bq_y rfl ?_ | refine pq_n ?_ | refine pq_r ?_ | refine pq_x ?_))
          refine awp_region cx [] fun K hK => ?_
          simp [push_cast]
          first | refine hK _ ?_ | refine ⟨(by clear hK; intros; first | omega | (simp_all; done) | (simp_all <;> omega)), hK _ ?_⟩ | refine ⟨(by clear hK; intros; first | omega | (simp_all; done) | (simp_all <;> omega)), (by clear hK; intros; first | omega | (simp_all; done) | (simp_all <;> omega)), hK _ ?_⟩ | refine ⟨(by clear hK; intros; first | omega | (simp_all; done) | (simp_all <;> omega)), (by clear hK; intros; first | omega | (simp_all; done) | (simp_all <;> omega)), (by clear hK; intros; first | omega | (simp_all; done) | (simp_all <;> omega)), hK _ ?_⟩
          clear hK K; (repeat (first | refine awp_seq ?_ | refine awp_block ?_ | refine awp_scope ?_ | refine awp_skip ?_ | refine awp_exit ?_ | refine awp_ret ?_ | refine sq_n ?_ | refine sq_r ?_ | refine sq_x ?_ | refine bq_n ?_ | refine bq_r ?_ | refine bq_x ?_ | refine bq_y rfl ?_ | refine pq_n ?_ | refine pq_r ?_ | refine pq_x ?_))
          refine awp_cond (b := decide ((j : Int) < t.cells.length)) (by simp [push_cast]) (fun hb => ?_) (fun hb => ?_) <;> ((repeat (first | refine awp_seq ?_ | refine awp_block ?_ | refine awp_scope ?_ | refine awp_skip ?_ | refine awp_exit ?_ | refine awp_ret ?_ | refine sq_n ?_ | refine sq_r ?_ | refine sq_x ?_ | refine bq_n ?_ | refine bq_r ?_ | refine bq_x ?_ | refine bq_y rfl ?_ | refine pq_n ?_ | refine pq_r ?_ | refine pq_x ?_)))
          · have hlt : j < t.cells.length := by simpa using hb
            obtain ⟨x, hx⟩ : ∃ x, t.cells[(kk + j) % t.cells.length]? = some x := getq (Nat.mod_lt _ (by omega))
            have e0 := wrap_i64 (n := (j : Int) + 1) (by omega) (by omega)
            have e1 := wrap_i64 (n := (kk : Int) + j) (by omega) (by omega)
            have hm : ((kk : Int) + j).tmod t.cells.length = ((kk + j) % t.cells.length : Nat) := by
              rw [Int.tmod_eq_emod_of_nonneg (by omega)]; norm_cast
            have hm0 : (0 : Int) ≤ ((kk + j) % t.cells.length : Nat) := Int.natCast_nonneg _
            have hm2 : (((kk + j) % t.cells.length : Nat) : Int).toNat = (kk + j) % t.cells.length := Int.toNat_natCast _
            have hXl : X.length ≤ t.cells.length := by rw [hX]; simp; omega
            have e3 : (X.length + 1) * 16 ≤ 140737488355328 := by omega
            have hs := rot_get hkk hlt hx
            rw [← hX] at hs
            generalize (kk + j) % t.cells.length = q at *
            refine awp_region cx [] fun K hK => ?_
            simp [push_cast]
            first | refine hK _ ?_ | refine ⟨(by clear hK; intros; first | omega | (simp_all; done) | (simp_all <;> omega)), hK _ ?_⟩ | refine ⟨(by clear hK; intros; first | omega | (simp_all; done) | (simp_all <;> omega)), (by clear hK; intros; first | omega | (simp_all; done) | (simp_all <;> omega)), hK _ ?_⟩ | refine ⟨(by clear hK; intros; first | omega | (simp_all; done) | (simp_all <;> omega)), (by clear hK; intros; first | omega | (simp_all; done) | (simp_all <;> omega)), (by clear hK; intros; first | omega | (simp_all; done) | (simp_all <;> omega)), hK _ ?_⟩
            clear hK K; (repeat (first | refine awp_seq ?_ | refine awp_block ?_ | refine awp_scope ?_ | refine awp_skip ?_ | refine awp_exit ?_ | refine awp_ret ?_ | refine sq_n ?_ | refine sq_r ?_ | refine sq_x ?_ | refine bq_n ?_ | refine bq_r ?_ | refine bq_x ?_ | refine bq_y rfl ?_ | refine pq_n ?_ | refine pq_r ?_ | refine pq_x ?_))
            refine awp_region_draw cx mixed [] fun K hK => ?_
            simp [push_cast, hx, e3, e1, hm, hm0, hm2, hn0, Track.row, Cell.row]
            first | refine hK _ _ (by kernel_rfl) ?_ | refine ⟨(by clear hK; intros; first | omega | (simp_all; done) | (simp_all <;> omega)), hK _ _ (by kernel_rfl) ?_⟩ | refine ⟨(by clear hK; intros; first | omega | (simp_all; done) | (simp_all <;> omega)), (by clear hK; intros; first | omega | (simp_all; done) | (simp_all <;> omega)), hK _ _ (by kernel_rfl) ?_⟩ | refine ⟨(by clear hK; intros; first | omega | (simp_all; done) | (simp_all <;> omega)), (by clear hK; intros; first | omega | (simp_all; done) | (simp_all <;> omega)), (by clear hK; intros; first | omega | (simp_all; done) | (simp_all <;> omega)), hK _ _ (by kernel_rfl) ?_⟩
            clear hK K; (repeat (first | refine awp_seq ?_ | refine awp_block ?_ | refine awp_scope ?_ | refine awp_skip ?_ | refine awp_exit ?_ | refine awp_ret ?_ | refine sq_n ?_ | refine sq_r ?_ | refine sq_x ?_ | refine bq_n ?_ | refine bq_r ?_ | refine bq_x ?_ | refine bq_y rfl ?_ | refine pq_n ?_ | refine pq_r ?_ | refine pq_x ?_))
            refine awp_region cx [] fun K hK => ?_
            simp [push_cast]
            first | refine hK _ ?_ | refine ⟨(by clear hK; intros; first | omega | (simp_all; done) | (simp_all <;> omega)), hK _ ?_⟩ | refine ⟨(by clear hK; intros; first | omega | (simp_all; done) | (simp_all <;> omega)), (by clear hK; intros; first | omega | (simp_all; done) | (simp_all <;> omega)), hK _ ?_⟩ | refine ⟨(by clear hK; intros; first | omega | (simp_all; done) | (simp_all <;> omega)), (by clear hK; intros; first | omega | (simp_all; done) | (simp_all <;> omega)), (by clear hK; intros; first | omega | (simp_all; done) | (simp_all <;> omega)), hK _ ?_⟩
            clear hK K; (repeat (first | refine awp_seq ?_ | refine awp_block ?_ | refine awp_scope ?_ | refine awp_skip ?_ | refine awp_exit ?_ | refine awp_ret ?_ | refine sq_n ?_ | refine sq_r ?_ | refine sq_x ?_ | refine bq_n ?_ | refine bq_r ?_ | refine bq_x ?_ | refine bq_y rfl ?_ | refine pq_n ?_ | refine pq_r ?_ | refine pq_x ?_))
            refine ⟨(j + 1, X ++ [x]), ⟨hlt, hs.symm⟩, by simp; omega, ?_⟩
            refine weak_of [(0, some 0), (1, some 1), (2, some 2), (3, some 19)] rfl (by simp [upT, up, upL, push_cast, e0, Track.row, Cell.row]) (by simp [upH, upR, upL, up, push_cast, e0, Track.row, Cell.row]) (by simp [namesOk, push_cast]) (by simp [olds])
          · have hge : j = t.cells.length := by simp at hb; omega
            subst hge
            rw [List.take_of_length_le (by rw [hrl]; exact Nat.le_refl _)] at hX
            subst hX
            refine awp_region cx [] fun K hK => ?_
            simp [push_cast]
            first | refine hK _ ?_ | refine ⟨(by clear hK; intros; first | omega | (simp_all; done) | (simp_all <;> omega)), hK _ ?_⟩ | refine ⟨(by clear hK; intros; first | omega | (simp_all; done) | (simp_all <;> omega)), (by clear hK; intros; first | omega | (simp_all; done) | (simp_all <;> omega)), hK _ ?_⟩ | refine ⟨(by clear hK; intros; first | omega | (simp_all; done) | (simp_all <;> omega)), (by clear hK; intros; first | omega | (simp_all; done) | (simp_all <;> omega)), (by clear hK; intros; first | omega | (simp_all; done) | (simp_all <;> omega)), hK _ ?_⟩
            clear hK K; (repeat (first | refine awp_seq ?_ | refine awp_block ?_ | refine awp_scope ?_ | refine awp_skip ?_ | refine awp_exit ?_ | refine awp_ret ?_ | refine sq_n ?_ | refine sq_r ?_ | refine sq_x ?_ | refine bq_n ?_ | refine bq_r ?_ | refine bq_x ?_ | refine bq_y rfl ?_ | refine pq_n ?_ | refine pq_r ?_ | refine pq_x ?_))
            simp [push_cast, Track.row]
  · simp only [Bool.not_eq_true] at hv
    rw [hv] at c1
    have ht : turT t i = zeroT := by simp [turT, hv]
    rw [ht]
    refine pc_of_awp cx (fn := Try.f54) (c := _) Try.func54 rfl rfl (Nat.le_of_ble_eq_true rfl) ?_
    rw [Try.ntmps54]; (repeat (first | refine awp_seq ?_ | refine awp_block ?_ | refine awp_scope ?_ | refine awp_skip ?_ | refine awp_exit ?_ | refine awp_ret ?_ | refine sq_n ?_ | refine sq_r ?_ | refine sq_x ?_ | refine bq_n ?_ | refine bq_r ?_ | refine bq_x ?_ | refine bq_y rfl ?_ | refine pq_n ?_ | refine pq_r ?_ | refine pq_x ?_))
    refine awp_region cx [] fun K hK => ?_
    simp [push_cast, Track.row]
    first | refine hK _ ?_ | refine ⟨(by clear hK; intros; first | omega | (simp_all; done) | (simp_all <;> omega)), hK _ ?_⟩ | refine ⟨(by clear hK; intros; first | omega | (simp_all; done) | (simp_all <;> omega)), (by clear hK; intros; first | omega | (simp_all; done) | (simp_all <;> omega)), hK _ ?_⟩ | refine ⟨(by clear hK; intros; first | omega | (simp_all; done) | (simp_all <;> omega)), (by clear hK; intros; first | omega | (simp_all; done) | (simp_all <;> omega)), (by clear hK; intros; first | omega | (simp_all; done) | (simp_all <;> omega)), hK _ ?_⟩
    clear hK K; (repeat (first | refine awp_seq ?_ | refine awp_block ?_ | refine awp_scope ?_ | refine awp_skip ?_ | refine awp_exit ?_ | refine awp_ret ?_ | refine sq_n ?_ | refine sq_r ?_ | refine sq_x ?_ | refine bq_n ?_ | refine bq_r ?_ | refine bq_x ?_ | refine bq_y rfl ?_ | refine pq_n ?_ | refine pq_r ?_ | refine pq_x ?_))
    refine awp_region cx [(1, .p (.bool false))] fun K hK => ?_
    simp [push_cast, c1, Track.row]
    first | refine hK _ ?_ | refine ⟨(by clear hK; intros; first | omega | (simp_all; done) | (simp_all <;> omega)), hK _ ?_⟩ | refine ⟨(by clear hK; intros; first | omega | (simp_all; done) | (simp_all <;> omega)), (by clear hK; intros; first | omega | (simp_all; done) | (simp_all <;> omega)), hK _ ?_⟩ | refine ⟨(by clear hK; intros; first | omega | (simp_all; done) | (simp_all <;> omega)), (by clear hK; intros; first | omega | (simp_all; done) | (simp_all <;> omega)), (by clear hK; intros; first | omega | (simp_all; done) | (simp_all <;> omega)), hK _ ?_⟩
    clear hK K; (repeat (first | refine awp_seq ?_ | refine awp_block ?_ | refine awp_scope ?_ | refine awp_skip ?_ | refine awp_exit ?_ | refine awp_ret ?_ | refine sq_n ?_ | refine sq_r ?_ | refine sq_x ?_ | refine bq_n ?_ | refine bq_r ?_ | refine bq_x ?_ | refine bq_y rfl ?_ | refine pq_n ?_ | refine pq_r ?_ | refine pq_x ?_))
    refine awp_cond (b := true) (by simp [push_cast]) (fun hb => ?_) (fun hb => ?_) <;> ((repeat (first | refine awp_seq ?_ | refine awp_block ?_ | refine awp_scope ?_ | refine awp_skip ?_ | refine awp_exit ?_ | refine awp_ret ?_ | refine sq_n ?_ | refine sq_r ?_ | refine sq_x ?_ | refine bq_n ?_ | refine bq_r ?_ | refine bq_x ?_ | refine bq_y rfl ?_ | refine pq_n ?_ | refine pq_r ?_ | refine pq_x ?_)))
    · refine awp_region cx [] fun K hK => ?_
      simp [push_cast]
      first | refine hK _ ?_ | refine ⟨(by clear hK; intros; first | omega | (simp_all; done) | (simp_all <;> omega)), hK _ ?_⟩ | refine ⟨(by clear hK; intros; first | omega | (simp_all; done) | (simp_all <;> omega)), (by clear hK; intros; first | omega | (simp_all; done) | (simp_all <;> omega)), hK _ ?_⟩ | refine ⟨(by clear hK; intros; first | omega | (simp_all; done) | (simp_all <;> omega)), (by clear hK; intros; first | omega | (simp_all; done) | (simp_all <;> omega)), (by clear hK; intros; first | omega | (simp_all; done) | (simp_all <;> omega)), hK _ ?_⟩
      clear hK K; (repeat (first | refine awp_seq ?_ | refine awp_block ?_ | refine awp_scope ?_ | refine awp_skip ?_ | refine awp_exit ?_ | refine awp_ret ?_ | refine sq_n ?_ | refine sq_r ?_ | refine sq_x ?_ | refine bq_n ?_ | refine bq_r ?_ | refine bq_x ?_ | refine bq_y rfl ?_ | refine pq_n ?_ | refine pq_r ?_ | refine pq_x ?_))
      simp [push_cast, zeroT, Track.row]
    · simp at hb

end Go.Proofs.Ytdoedfheagkloaa
