/-
  The walks of this seat's functions and the plain laws behind them: part O15.
-/
import Derived.Test.YtdoedfheagkloaaO14
set_option linter.unusedVariables false
set_option linter.unusedSimpArgs false
namespace Go.Proofs.Ytdoedfheagkloaa
open Go.Abs

def awA : Track := ⟨4, false, [⟨5, 0⟩, ⟨4, 0⟩]⟩
def awB : Track := ⟨4, false, [⟨1, 0⟩, ⟨2, 0⟩]⟩
def awT : Track := ⟨4, false, [⟨4, 0⟩, ⟨5, 0⟩]⟩
def awR : Track := ⟨4, false, [⟨2, 0⟩, ⟨1, 0⟩]⟩

theorem aw_g : greedy ⟨0, 0⟩ [awA, awB] = [awB, awT] := by decide +kernel
theorem aw_i : improve ⟨0, 0⟩ [awA, awB] 1 = [awR, awT] := by decide +kernel
theorem aw_b : bestS ⟨0, 0⟩ [awA, awB] = ([awB, awT], 0) := by decide +kernel
theorem aw_c1 : cost ⟨0, 0⟩ [awA, awB] = 8 := by decide +kernel
theorem aw_c2 : cost ⟨0, 0⟩ [awB, awT] = 3 := by decide +kernel
theorem aw_c3 : cost ⟨0, 0⟩ [awR, awT] = 5 := by decide +kernel

set_option maxRecDepth 20000 in
set_option maxHeartbeats 4000000 in
theorem awake_ok : PC Try.prog 15 [] (.p (.bool true)) := by
  have cs : ∀ t ∈ [awA, awB], t.cells.length ≤ 65536 := by decide
  have cs2 : ∀ t ∈ [awB, awT], t.cells.length ≤ 65536 := by decide
  have cs3 : ∀ t ∈ [awR, awT], t.cells.length ≤ 65536 := by decide
  have p1 := path_ok [⟨5, 0⟩, ⟨4, 0⟩]
  have p2 := path_ok [⟨1, 0⟩, ⟨2, 0⟩]
  have p3 := path_ok [⟨4, 0⟩, ⟨5, 0⟩]
  have p4 := path_ok [⟨2, 0⟩, ⟨1, 0⟩]
  have c1 := greedy_ok ⟨0, 0⟩ [awA, awB] cs (by decide)
  rw [aw_g] at c1
  have c2 := improve_ok ⟨0, 0⟩ [awA, awB] 1 cs (by decide)
  rw [aw_i] at c2
  have c3 := pbest_ok ⟨0, 0⟩ [awA, awB] cs (by decide)
  rw [aw_b] at c3
  have c4 := cost_ok ⟨0, 0⟩ [awA, awB] cs (by decide)
  rw [aw_c1] at c4
  have c5 := cost_ok ⟨0, 0⟩ [awB, awT] cs2 (by decide)
  rw [aw_c2] at c5
  have c6 := cost_ok ⟨0, 0⟩ [awR, awT] cs3 (by decide)
  rw [aw_c3] at c6
  have c7 := sameAll_ok [awB, awT] [awB, awT] cs2 (by decide)
  have c8 := sameAll_ok [awR, awT] [awR, awT] cs3 (by decide)
  rw [decide_eq_true rfl] at c7 c8
  simp only [awA, awB, awT, awR, encTracks, encCells, Track.row, Cell.row, List.map_cons, List.map_nil] at p1 p2 p3 p4 c1 c2 c3 c4 c5 c6 c7 c8
  have eq : ∀ a : D, a = a := fun _ => rfl
  refine pc_of_awp cx (fn := Try.f15) (c := _) Try.func15 rfl rfl (Nat.le_of_ble_eq_true rfl) ?_
  rw [Try.ntmps15]; (repeat (first | refine awp_seq ?_ | refine awp_block ?_ | refine awp_scope ?_ | refine awp_skip ?_ | refine awp_exit ?_ | refine awp_ret ?_ | refine sq_n ?_ | refine sq_r ?_ | refine sq_x ?_ | refine bq_n ?_ | refine bq_r ?_ | refine bq_x ?_ | refine bq_y rfl ?_ | refine pq_n ?_ | refine pq_r ?_ | refine pq_x ?_))
  refine awp_region cx [] fun K hK => ?_
  simp [push_cast]
  first | refine hK _ ?_ | refine ⟨(by clear hK; intros; first | omega | (simp_all; done) | (simp_all <;> omega)), hK _ ?_⟩ | refine ⟨(by clear hK; intros; first | omega | (simp_all; done) | (simp_all <;> omega)), (by clear hK; intros; first | omega | (simp_all; done) | (simp_all <;> omega)), hK _ ?_⟩ | refine ⟨(by clear hK; intros; first | omega | (simp_all; done) | (simp_all <;> omega)), (by clear hK; intros; first | omega | (simp_all; done) | (simp_all <;> omega)), (by clear hK; intros; first | omega | (simp_all; done) | (simp_all <;> omega)), hK _ ?_⟩
  clear hK K; (repeat (first | refine awp_seq ?_ | refine awp_block ?_ | refine awp_scope ?_ | refine awp_skip ?_ | refine awp_exit ?_ | refine awp_ret ?_ | refine sq_n ?_ | refine sq_r ?_ | refine sq_x ?_ | refine bq_n ?_ | refine bq_r ?_ | refine bq_x ?_ | refine bq_y rfl ?_ | refine pq_n ?_ | refine pq_r ?_ | refine pq_x ?_))
  refine awp_region cx [(2, .f (encCells awA.cells)), (3, .p (.agg awA.row)), (6, .f (encCells awB.cells)), (7, .p (.agg awB.row))] fun K hK => ?_
  simp [push_cast, p1, p2, awA, awB, awT, awR, encTracks, encCells, Track.row, Cell.row, List.map_cons, List.map_nil]
  first | refine hK _ ?_ | refine ⟨(by clear hK; intros; first | omega | (simp_all; done) | (simp_all <;> omega)), hK _ ?_⟩ | refine ⟨(by clear hK; intros; first | omega | (simp_all; done) | (simp_all <;> omega)), (by clear hK; intros; first | omega | (simp_all; done) | (simp_all <;> omega)), hK _ ?_⟩ | refine ⟨(by clear hK; intros; first | omega | (simp_all; done) | (simp_all <;> omega)), (by clear hK; intros; first | omega | (simp_all; done) | (simp_all <;> omega)), (by clear hK; intros; first | omega | (simp_all; done) | (simp_all <;> omega)), hK _ ?_⟩
  clear hK K; (repeat (first | refine awp_seq ?_ | refine awp_block ?_ | refine awp_scope ?_ | refine awp_skip ?_ | refine awp_exit ?_ | refine awp_ret ?_ | refine sq_n ?_ | refine sq_r ?_ | refine sq_x ?_ | refine bq_n ?_ | refine bq_r ?_ | refine bq_x ?_ | refine bq_y rfl ?_ | refine pq_n ?_ | refine pq_r ?_ | refine pq_x ?_))
  refine awp_region cx [(2, .f (encTracks [awA, awB]))] fun K hK => ?_
  simp [push_cast, awA, awB, awT, awR, encTracks, encCells, Track.row, Cell.row, List.map_cons, List.map_nil]
  first | refine hK _ ?_ | refine ⟨(by clear hK; intros; first | omega | (simp_all; done) | (simp_all <;> omega)), hK _ ?_⟩ | refine ⟨(by clear hK; intros; first | omega | (simp_all; done) | (simp_all <;> omega)), (by clear hK; intros; first | omega | (simp_all; done) | (simp_all <;> omega)), hK _ ?_⟩ | refine ⟨(by clear hK; intros; first | omega | (simp_all; done) | (simp_all <;> omega)), (by clear hK; intros; first | omega | (simp_all; done) | (simp_all <;> omega)), (by clear hK; intros; first | omega | (simp_all; done) | (simp_all <;> omega)), hK _ ?_⟩
  clear hK K; (repeat (first | refine awp_seq ?_ | refine awp_block ?_ | refine awp_scope ?_ | refine awp_skip ?_ | refine awp_exit ?_ | refine awp_ret ?_ | refine sq_n ?_ | refine sq_r ?_ | refine sq_x ?_ | refine bq_n ?_ | refine bq_r ?_ | refine bq_x ?_ | refine bq_y rfl ?_ | refine pq_n ?_ | refine pq_r ?_ | refine pq_x ?_))
  refine awp_region cx [(2, .p (encTracks [awB, awT]))] fun K hK => ?_
  simp [push_cast, c1, awA, awB, awT, awR, encTracks, encCells, Track.row, Cell.row, List.map_cons, List.map_nil]
  first | refine hK _ ?_ | refine ⟨(by clear hK; intros; first | omega | (simp_all; done) | (simp_all <;> omega)), hK _ ?_⟩ | refine ⟨(by clear hK; intros; first | omega | (simp_all; done) | (simp_all <;> omega)), (by clear hK; intros; first | omega | (simp_all; done) | (simp_all <;> omega)), hK _ ?_⟩ | refine ⟨(by clear hK; intros; first | omega | (simp_all; done) | (simp_all <;> omega)), (by clear hK; intros; first | omega | (simp_all; done) | (simp_all <;> omega)), (by clear hK; intros; first | omega | (simp_all; done) | (simp_all <;> omega)), hK _ ?_⟩
  clear hK K; (repeat (first | refine awp_seq ?_ | refine awp_block ?_ | refine awp_scope ?_ | refine awp_skip ?_ | refine awp_exit ?_ | refine awp_ret ?_ | refine sq_n ?_ | refine sq_r ?_ | refine sq_x ?_ | refine bq_n ?_ | refine bq_r ?_ | refine bq_x ?_ | refine bq_y rfl ?_ | refine pq_n ?_ | refine pq_r ?_ | refine pq_x ?_))
  refine awp_region cx [(2, .p (encTracks [awR, awT]))] fun K hK => ?_
  simp [push_cast, c2, awA, awB, awT, awR, encTracks, encCells, Track.row, Cell.row, List.map_cons, List.map_nil]
  first | refine hK _ ?_ | refine ⟨(by clear hK; intros; first | omega | (simp_all; done) | (simp_all <;> omega)), hK _ ?_⟩ | refine ⟨(by clear hK; intros; first | omega | (simp_all; done) | (simp_all <;> omega)), (by clear hK; intros; first | omega | (simp_all; done) | (simp_all <;> omega)), hK _ ?_⟩ | refine ⟨(by clear hK; intros; first | omega | (simp_all; done) | (simp_all <;> omega)), (by clear hK; intros; first | omega | (simp_all; done) | (simp_all <;> omega)), (by clear hK; intros; first | omega | (simp_all; done) | (simp_all <;> omega)), hK _ ?_⟩
  clear hK K; (repeat (first | refine awp_seq ?_ | refine awp_block ?_ | refine awp_scope ?_ | refine awp_skip ?_ | refine awp_exit ?_ | refine awp_ret ?_ | refine sq_n ?_ | refine sq_r ?_ | refine sq_x ?_ | refine bq_n ?_ | refine bq_r ?_ | refine bq_x ?_ | refine bq_y rfl ?_ | refine pq_n ?_ | refine pq_r ?_ | refine pq_x ?_))
  refine awp_region cx [(2, .f (encCells awT.cells)), (3, .p (.agg awT.row))] fun K hK => ?_
  simp [push_cast, p3, awA, awB, awT, awR, encTracks, encCells, Track.row, Cell.row, List.map_cons, List.map_nil]
  first | refine hK _ ?_ | refine ⟨(by clear hK; intros; first | omega | (simp_all; done) | (simp_all <;> omega)), hK _ ?_⟩ | refine ⟨(by clear hK; intros; first | omega | (simp_all; done) | (simp_all <;> omega)), (by clear hK; intros; first | omega | (simp_all; done) | (simp_all <;> omega)), hK _ ?_⟩ | refine ⟨(by clear hK; intros; first | omega | (simp_all; done) | (simp_all <;> omega)), (by clear hK; intros; first | omega | (simp_all; done) | (simp_all <;> omega)), (by clear hK; intros; first | omega | (simp_all; done) | (simp_all <;> omega)), hK _ ?_⟩
  clear hK K; (repeat (first | refine awp_seq ?_ | refine awp_block ?_ | refine awp_scope ?_ | refine awp_skip ?_ | refine awp_exit ?_ | refine awp_ret ?_ | refine sq_n ?_ | refine sq_r ?_ | refine sq_x ?_ | refine bq_n ?_ | refine bq_r ?_ | refine bq_x ?_ | refine bq_y rfl ?_ | refine pq_n ?_ | refine pq_r ?_ | refine pq_x ?_))
  refine awp_region cx [(2, .p (.tup [encTracks [awB, awT], .int .i64 0]))] fun K hK => ?_
  simp [push_cast, c3, awA, awB, awT, awR, encTracks, encCells, Track.row, Cell.row, List.map_cons, List.map_nil]
  first | refine hK _ ?_ | refine ⟨(by clear hK; intros; first | omega | (simp_all; done) | (simp_all <;> omega)), hK _ ?_⟩ | refine ⟨(by clear hK; intros; first | omega | (simp_all; done) | (simp_all <;> omega)), (by clear hK; intros; first | omega | (simp_all; done) | (simp_all <;> omega)), hK _ ?_⟩ | refine ⟨(by clear hK; intros; first | omega | (simp_all; done) | (simp_all <;> omega)), (by clear hK; intros; first | omega | (simp_all; done) | (simp_all <;> omega)), (by clear hK; intros; first | omega | (simp_all; done) | (simp_all <;> omega)), hK _ ?_⟩
  clear hK K; (repeat (first | refine awp_seq ?_ | refine awp_block ?_ | refine awp_scope ?_ | refine awp_skip ?_ | refine awp_exit ?_ | refine awp_ret ?_ | refine sq_n ?_ | refine sq_r ?_ | refine sq_x ?_ | refine bq_n ?_ | refine bq_r ?_ | refine bq_x ?_ | refine bq_y rfl ?_ | refine pq_n ?_ | refine pq_r ?_ | refine pq_x ?_))
  refine awp_region_draw cx mixed [(2, .p (.int .i64 8)), (7, .p (.int .i64 3)), (13, .p (.int .i64 5)), (20, .f (encTracks [awB, awT])), (21, .p (.bool true)), (31, .f (encTracks [awB, awT])), (32, .p (.bool true)), (38, .f (encCells awR.cells)), (39, .p (.agg awR.row)), (41, .f (encTracks [awR, awT])), (42, .p (.bool true))] fun K hK => ?_
  simp [push_cast, c4, c5, c6, c7, c8, p4, awA, awB, awT, awR, encTracks, encCells, Track.row, Cell.row, List.map_cons, List.map_nil]
  first | refine hK _ _ (by kernel_rfl) ?_ | refine ⟨(by clear hK; intros; first | omega | (simp_all; done) | (simp_all <;> omega)), hK _ _ (by kernel_rfl) ?_⟩ | refine ⟨(by clear hK; intros; first | omega | (simp_all; done) | (simp_all <;> omega)), (by clear hK; intros; first | omega | (simp_all; done) | (simp_all <;> omega)), hK _ _ (by kernel_rfl) ?_⟩ | refine ⟨(by clear hK; intros; first | omega | (simp_all; done) | (simp_all <;> omega)), (by clear hK; intros; first | omega | (simp_all; done) | (simp_all <;> omega)), (by clear hK; intros; first | omega | (simp_all; done) | (simp_all <;> omega)), hK _ _ (by kernel_rfl) ?_⟩
  clear hK K; (repeat (first | refine awp_seq ?_ | refine awp_block ?_ | refine awp_scope ?_ | refine awp_skip ?_ | refine awp_exit ?_ | refine awp_ret ?_ | refine sq_n ?_ | refine sq_r ?_ | refine sq_x ?_ | refine bq_n ?_ | refine bq_r ?_ | refine bq_x ?_ | refine bq_y rfl ?_ | refine pq_n ?_ | refine pq_r ?_ | refine pq_x ?_))
  simp [push_cast]
end Go.Proofs.Ytdoedfheagkloaa
