/-
  The walks of this seat's functions and the plain laws behind them: part L1.
-/
import Derived.Test.YtnnpmkeojfmclaaL0
set_option linter.unusedVariables false
set_option linter.unusedSimpArgs false
namespace Go.Proofs.Ytnnpmkeojfmclaa
open Go.Abs Go.ChangeShapes Go.WideShapes Go.ChangeAt Go.RowKit

def zeroSettings : Value := .agg #[.int .i64 0, .int .i64 0, .int .i64 0, .int .i64 0, .int .i64 0, .int .i64 0, .int .i64 0, .bool false, .int .i64 0, .int .i64 0, .int .i64 0, .int .i64 0, .int .i64 0, .int .i64 0, .int .i64 0, .int .i64 0, .int .i64 0, .int .i64 0, .int .i64 0, .int .i64 0]

theorem slows_ok (l : List Op) (s : Settings) : PC Try.prog 4 [encOps l, .agg s.row] (.p (.bool true)) := by
  have c1 := few_ok l
  have hl := few_len l
  have hc := few_cells l
  have c2 := slow_ok (few l) s hc (by omega)
  have c3 := rslow_ok (few l) s hc (by omega)
  have c4 := same_ok (slow (few l) s) (slow (few l) s) (by rw [slow_len]; omega) (slow_cells s hc)
  have c5 := awake_ok
  rw [decide_eq_true rfl] at c4
  generalize hm : few l = m at c1 c2 c3 c4
  generalize ho : slow m s = o at c2 c3 c4
  refine pc_of_awp cx (fn := Try.f4) (c := _) Try.func4 rfl rfl (Nat.le_of_ble_eq_true rfl) ?_
  rw [Try.ntmps4]; (repeat (first | refine awp_seq ?_ | refine awp_block ?_ | refine awp_scope ?_ | refine awp_skip ?_ | refine awp_exit ?_ | refine awp_ret ?_ | refine sq_n ?_ | refine sq_r ?_ | refine sq_x ?_ | refine bq_n ?_ | refine bq_r ?_ | refine bq_x ?_ | refine bq_y rfl ?_ | refine pq_n ?_ | refine pq_r ?_ | refine pq_x ?_))
  refine awp_region cx [] fun K hK => ?_
  simp [wpT, wpD, confs, conflB, ids, idsL, doOp, eff, effMove, effPick, pickA, effAlloc, effBox, effBuild, effBuildSlice, effLoad, effStore, effBin, effUn, effConvert, effField, aggList, effFieldAddr, effIndexAddr, effIndex, effExtract, effMakeFunc, effMakeSlice, sliceArgs, effSlice, effBuiltin, lenA, effCall, snap, snaps, resEff, Res.free, D.free, D.frees, D.freess, dstRows, srcRows, cellsA, takeRow, TI.isAgg, mkAgg, allD, fillA, putCells, chunk, rep, eqD, cav, zav, find, pushL, St.get, St.obj, St.put, St.app, St.eval, St.guard, strip, optOb, stripOk, sg_move, so_move, sg_assign, so_assign, sg_alloc, so_alloc, sg_box, so_box, sg_build, so_build, sg_buildSlice, so_buildSlice, sg_load, so_load, sg_store, so_store, sg_nilCheck, so_nilCheck, sg_binOp, so_binOp, sg_unOp, so_unOp, sg_convert, so_convert, sg_makeFunc, so_makeFunc, sg_makeSlice, so_makeSlice, sg_slice, so_slice, sg_fieldAddr, so_fieldAddr, sg_field, so_field, sg_indexAddr, so_indexAddr, sg_index, so_index, sg_extract, so_extract, sg_call, so_call, sg_lookup, so_lookup, sg_mapUpdate, so_mapUpdate, sg_makeInterface, so_makeInterface, sg_makeMap, so_makeMap, sg_pick, so_pick, isNil, notA, allD_map, allS, allS_map, mkAgg_map, upR_dr, rowsD_dr, dr_length, dr_nil, dr_cons, dr_append, dr_at, dr_take, dr_drop, dr_set, upR_app, upR_set, rowsD_app, rowsD, take_map_len, Op.operands, Call.operands, Abs.start, addParams, seqQ, blockQ, retQ, resAs, oneOf, resOk, tyTab, Settings.row]
  refine hK _ ?_; clear hK K; (repeat (first | refine awp_seq ?_ | refine awp_block ?_ | refine awp_scope ?_ | refine awp_skip ?_ | refine awp_exit ?_ | refine awp_ret ?_ | refine sq_n ?_ | refine sq_r ?_ | refine sq_x ?_ | refine bq_n ?_ | refine bq_r ?_ | refine bq_x ?_ | refine bq_y rfl ?_ | refine pq_n ?_ | refine pq_r ?_ | refine pq_x ?_))
  refine awp_region cx [(1, .p (encOps m))] fun K hK => ?_
  simp [wpT, wpD, confs, conflB, ids, idsL, doOp, eff, effMove, effPick, pickA, effAlloc, effBox, effBuild, effBuildSlice, effLoad, effStore, effBin, effUn, effConvert, effField, aggList, effFieldAddr, effIndexAddr, effIndex, effExtract, effMakeFunc, effMakeSlice, sliceArgs, effSlice, effBuiltin, lenA, effCall, snap, snaps, resEff, Res.free, D.free, D.frees, D.freess, dstRows, srcRows, cellsA, takeRow, TI.isAgg, mkAgg, allD, fillA, putCells, chunk, rep, eqD, cav, zav, find, pushL, St.get, St.obj, St.put, St.app, St.eval, St.guard, strip, optOb, stripOk, sg_move, so_move, sg_assign, so_assign, sg_alloc, so_alloc, sg_box, so_box, sg_build, so_build, sg_buildSlice, so_buildSlice, sg_load, so_load, sg_store, so_store, sg_nilCheck, so_nilCheck, sg_binOp, so_binOp, sg_unOp, so_unOp, sg_convert, so_convert, sg_makeFunc, so_makeFunc, sg_makeSlice, so_makeSlice, sg_slice, so_slice, sg_fieldAddr, so_fieldAddr, sg_field, so_field, sg_indexAddr, so_indexAddr, sg_index, so_index, sg_extract, so_extract, sg_call, so_call, sg_lookup, so_lookup, sg_mapUpdate, so_mapUpdate, sg_makeInterface, so_makeInterface, sg_makeMap, so_makeMap, sg_pick, so_pick, isNil, notA, allD_map, allS, allS_map, mkAgg_map, upR_dr, rowsD_dr, dr_length, dr_nil, dr_cons, dr_append, dr_at, dr_take, dr_drop, dr_set, upR_app, upR_set, rowsD_app, rowsD, take_map_len, Op.operands, Call.operands, Abs.start, addParams, seqQ, blockQ, retQ, resAs, oneOf, resOk, tyTab, c1]
  refine hK _ ?_; clear hK K; (repeat (first | refine awp_seq ?_ | refine awp_block ?_ | refine awp_scope ?_ | refine awp_skip ?_ | refine awp_exit ?_ | refine awp_ret ?_ | refine sq_n ?_ | refine sq_r ?_ | refine sq_x ?_ | refine bq_n ?_ | refine bq_r ?_ | refine bq_x ?_ | refine bq_y rfl ?_ | refine pq_n ?_ | refine pq_r ?_ | refine pq_x ?_))
  refine awp_region_draw cx mixed [(2, .p (encOps o)), (5, .p (encOps o)), (6, .p (.bool true)), (8, .p (.bool true))] fun K hK => ?_
  simp [wpT, wpD, confs, conflB, ids, idsL, doOp, eff, effMove, effPick, pickA, effAlloc, effBox, effBuild, effBuildSlice, effLoad, effStore, effBin, effUn, effConvert, effField, aggList, effFieldAddr, effIndexAddr, effIndex, effExtract, effMakeFunc, effMakeSlice, sliceArgs, effSlice, effBuiltin, lenA, effCall, snap, snaps, resEff, Res.free, D.free, D.frees, D.freess, dstRows, srcRows, cellsA, takeRow, TI.isAgg, mkAgg, allD, fillA, putCells, chunk, rep, eqD, cav, zav, find, pushL, St.get, St.obj, St.put, St.app, St.eval, St.guard, strip, optOb, stripOk, sg_move, so_move, sg_assign, so_assign, sg_alloc, so_alloc, sg_box, so_box, sg_build, so_build, sg_buildSlice, so_buildSlice, sg_load, so_load, sg_store, so_store, sg_nilCheck, so_nilCheck, sg_binOp, so_binOp, sg_unOp, so_unOp, sg_convert, so_convert, sg_makeFunc, so_makeFunc, sg_makeSlice, so_makeSlice, sg_slice, so_slice, sg_fieldAddr, so_fieldAddr, sg_field, so_field, sg_indexAddr, so_indexAddr, sg_index, so_index, sg_extract, so_extract, sg_call, so_call, sg_lookup, so_lookup, sg_mapUpdate, so_mapUpdate, sg_makeInterface, so_makeInterface, sg_makeMap, so_makeMap, sg_pick, so_pick, isNil, notA, allD_map, allS, allS_map, mkAgg_map, upR_dr, rowsD_dr, dr_length, dr_nil, dr_cons, dr_append, dr_at, dr_take, dr_drop, dr_set, upR_app, upR_set, rowsD_app, rowsD, take_map_len, Op.operands, Call.operands, Abs.start, addParams, seqQ, blockQ, retQ, resAs, oneOf, resOk, tyTab, c2, c3, c4, c5, Settings.row]
  refine hK _ _ (by kernel_rfl) ?_; clear hK K; (repeat (first | refine awp_seq ?_ | refine awp_block ?_ | refine awp_scope ?_ | refine awp_skip ?_ | refine awp_exit ?_ | refine awp_ret ?_ | refine sq_n ?_ | refine sq_r ?_ | refine sq_x ?_ | refine bq_n ?_ | refine bq_r ?_ | refine bq_x ?_ | refine bq_y rfl ?_ | refine pq_n ?_ | refine pq_r ?_ | refine pq_x ?_))
  simp [wpT, wpD, confs, conflB, ids, idsL, doOp, eff, effMove, effPick, pickA, effAlloc, effBox, effBuild, effBuildSlice, effLoad, effStore, effBin, effUn, effConvert, effField, aggList, effFieldAddr, effIndexAddr, effIndex, effExtract, effMakeFunc, effMakeSlice, sliceArgs, effSlice, effBuiltin, lenA, effCall, snap, snaps, resEff, Res.free, D.free, D.frees, D.freess, dstRows, srcRows, cellsA, takeRow, TI.isAgg, mkAgg, allD, fillA, putCells, chunk, rep, eqD, cav, zav, find, pushL, St.get, St.obj, St.put, St.app, St.eval, St.guard, strip, optOb, stripOk, sg_move, so_move, sg_assign, so_assign, sg_alloc, so_alloc, sg_box, so_box, sg_build, so_build, sg_buildSlice, so_buildSlice, sg_load, so_load, sg_store, so_store, sg_nilCheck, so_nilCheck, sg_binOp, so_binOp, sg_unOp, so_unOp, sg_convert, so_convert, sg_makeFunc, so_makeFunc, sg_makeSlice, so_makeSlice, sg_slice, so_slice, sg_fieldAddr, so_fieldAddr, sg_field, so_field, sg_indexAddr, so_indexAddr, sg_index, so_index, sg_extract, so_extract, sg_call, so_call, sg_lookup, so_lookup, sg_mapUpdate, so_mapUpdate, sg_makeInterface, so_makeInterface, sg_makeMap, so_makeMap, sg_pick, so_pick, isNil, notA, allD_map, allS, allS_map, mkAgg_map, upR_dr, rowsD_dr, dr_length, dr_nil, dr_cons, dr_append, dr_at, dr_take, dr_drop, dr_set, upR_app, upR_set, rowsD_app, rowsD, take_map_len, Op.operands, Call.operands, Abs.start, addParams, seqQ, blockQ, retQ, resAs, oneOf, resOk, tyTab]

theorem own : ownKnob Try.prog.godebug = none := by kernel_rfl
theorem laidOut : laidOutB Try.prog = true := by kernel_rfl

set_option maxRecDepth 100000 in
theorem coolSlows_lifted (os : Os) (started : os.Started) (H : Type) (enc : TypeId × Value → H) :
    ReturnsInHanded {} Try.checked os 4 .any (Rows.coolSlowsSpec.pre6 enc Try.prog Try.f4 Rows.coolSlowsRow.domain false) (Rows.coolSlowsSpec.post enc Try.prog Try.f4 false true false false) := by
  refine returnsInHanded_of_change (C := Try.checked) own started (by kernel_rfl) Try.func4
    (ChangeSpec.witness6 (enc := enc) (C := Try.checked) false ⟨#[], #[.slice none 0 0, zeroSettings], []⟩ 8 (by kernel_rfl) (by kernel_rfl) (by kernel_rfl) (by kernel_rfl)) ?_
  intro W base args ds gs before hval hW _ _
  exact law_contract rfl (fun ds h => by match ds, h with | [a, b], _ => rfl) laidOut (by simp only [Try.params4]; intro t ht; simp at ht; rcases ht with rfl | rfl <;> exact ⟨by kernel_rfl, of_decide_eq_true (by kernel_rfl)⟩) (by kernel_rfl) rfl Try.underlying4
    (fun xs hx => by
      simp only [Try.params4, hasVs] at hx
      obtain ⟨x, r, rfl, h1, y, r', rfl, h2, rfl⟩ := hx
      obtain ⟨l, rfl⟩ := arg_ops h1
      obtain ⟨s, rfl⟩ := arg_settings h2
      exact slows_ok l s) W base args ds gs before hval hW

theorem coolSlows_holds : Rows.CoolSlowsSaid :=
  OpenClaim.holds_of_wide 4 Try.f4 rfl rfl rfl rfl rfl rfl rfl ⟨rfl, rfl, rfl, rfl, rfl⟩ rfl rfl rfl rfl rfl (by kernel_rfl) Try.func4 (by kernel_rfl)
    (of_decide_eq_true (by kernel_rfl)) (by unfold Func.isWrapper; first | (rw [if_pos (by decide +kernel)]; kernel_rfl) | (rw [if_neg (by decide +kernel)]; exact ⟨rfl, rfl⟩))
    (fun os started H enc _ => coolSlows_lifted os started H enc)

end Go.Proofs.Ytnnpmkeojfmclaa
