/-
  Texts of this seat put together: Base, P1, P2, P3, P4.
-/
import Derived.Test.YtlfbjflfbjkbeaaGreatI3
import Derived.Test.YtlfbjflfbjkbeaaGreatRows
set_option linter.unusedVariables false
set_option linter.unusedSimpArgs false
set_option maxRecDepth 100000
namespace Go.Proofs.YtlfbjflfbjkbeaaGreat
open Go.Abs
def tyTab : List (Nat × TI) := [
  (2, ⟨.int .i64, 1, 8, [.d (.int .i64 0)], 0⟩),
  (3, ⟨.int .i64, 1, 8, [.d (.int .i64 0)], 0⟩),
  (4, ⟨.bool, 1, 1, [.d (.bool false)], 0⟩),
  (5, ⟨.int .u8, 1, 1, [.d (.int .u8 0)], 0⟩),
  (7, ⟨.struct [(0, 1, false), (1, 1, false), (2, 1, false), (3, 1, false)], 4, 24, [.d (.int .i64 0), .d (.int .i64 0), .d (.bool false), .d (.int .u8 0)], 0⟩),
  (9, ⟨.str, 1, 16, [.d (.str ⟨#[]⟩)], 0⟩),
  (12, ⟨.int .u64, 1, 8, [.d (.int .u64 0)], 0⟩),
  (13, ⟨.struct [(0, 1, false), (1, 1, false)], 2, 24, [.d (.str ⟨#[]⟩), .d (.int .u64 0)], 0⟩),
  (15, ⟨.one, 1, 8, [.any], 0⟩),
  (16, ⟨.one, 1, 8, [.any], 0⟩),
  (17, ⟨.one, 1, 8, [.any], 0⟩),
  (18, ⟨.struct [(0, 1, false)], 1, 8, [.any], 0⟩),
  (21, ⟨.int .i32, 1, 4, [.d (.int .i32 0)], 0⟩),
  (22, ⟨.arr 4 3, 4, 32, [.d (.int .i64 0), .d (.int .i64 0), .d (.int .i64 0), .d (.int .i64 0)], 1⟩),
  (23, ⟨.arr 2 3, 2, 16, [.d (.int .i64 0), .d (.int .i64 0)], 1⟩),
  (24, ⟨.struct [(0, 1, false), (1, 1, false), (2, 1, false), (3, 1, false)], 4, 32, [.d (.int .i64 0), .d (.int .i64 0), .d (.int .i64 0), .d (.int .i64 0)], 1⟩),
  (25, ⟨.struct [(0, 1, false), (1, 1, false), (2, 1, false), (3, 1, false)], 4, 32, [.d (.int .i64 0), .d (.int .i64 0), .d (.int .i64 0), .d (.int .i64 0)], 1⟩),
  (26, ⟨.arr 2 25, 8, 64, [.d (.int .i64 0), .d (.int .i64 0), .d (.int .i64 0), .d (.int .i64 0), .d (.int .i64 0), .d (.int .i64 0), .d (.int .i64 0), .d (.int .i64 0)], 1⟩),
  (27, ⟨.slice 48, 1, 24, [.nl], 0⟩),
  (28, ⟨.arr 2 4, 2, 2, [.d (.bool false), .d (.bool false)], 2⟩),
  (29, ⟨.struct [(0, 4, true), (4, 2, true), (6, 8, true), (14, 1, false), (15, 1, false), (16, 1, false), (17, 1, false), (18, 1, false), (19, 1, false), (20, 2, true)], 22, 176, [.d (.int .i64 0), .d (.int .i64 0), .d (.int .i64 0), .d (.int .i64 0), .d (.int .i64 0), .d (.int .i64 0), .d (.int .i64 0), .d (.int .i64 0), .d (.int .i64 0), .d (.int .i64 0), .d (.int .i64 0), .d (.int .i64 0), .d (.int .i64 0), .d (.int .i64 0), .d (.int .i64 0), .d (.int .i64 0), .d (.int .i64 0), .nl, .d (.int .i64 0), .d (.bool false), .d (.bool false), .d (.bool false)], 0⟩),
  (30, ⟨.struct [(0, 4, true), (4, 2, true), (6, 8, true), (14, 1, false), (15, 1, false), (16, 1, false), (17, 1, false), (18, 1, false), (19, 1, false), (20, 2, true)], 22, 176, [.d (.int .i64 0), .d (.int .i64 0), .d (.int .i64 0), .d (.int .i64 0), .d (.int .i64 0), .d (.int .i64 0), .d (.int .i64 0), .d (.int .i64 0), .d (.int .i64 0), .d (.int .i64 0), .d (.int .i64 0), .d (.int .i64 0), .d (.int .i64 0), .d (.int .i64 0), .d (.int .i64 0), .d (.int .i64 0), .d (.int .i64 0), .nl, .d (.int .i64 0), .d (.bool false), .d (.bool false), .d (.bool false)], 0⟩),
  (31, ⟨.struct [(0, 1, false), (1, 1, false), (2, 1, false), (3, 1, false), (4, 1, false), (5, 1, false), (6, 1, false)], 7, 56, [.d (.int .i64 0), .d (.int .i64 0), .d (.int .i64 0), .d (.int .i64 0), .d (.int .i64 0), .d (.int .i64 0), .d (.int .i64 0)], 1⟩),
  (32, ⟨.struct [(0, 1, false), (1, 1, false), (2, 1, false), (3, 1, false), (4, 1, false), (5, 1, false), (6, 1, false)], 7, 56, [.d (.int .i64 0), .d (.int .i64 0), .d (.int .i64 0), .d (.int .i64 0), .d (.int .i64 0), .d (.int .i64 0), .d (.int .i64 0)], 1⟩),
  (33, ⟨.arr 4 32, 28, 224, [.d (.int .i64 0), .d (.int .i64 0), .d (.int .i64 0), .d (.int .i64 0), .d (.int .i64 0), .d (.int .i64 0), .d (.int .i64 0), .d (.int .i64 0), .d (.int .i64 0), .d (.int .i64 0), .d (.int .i64 0), .d (.int .i64 0), .d (.int .i64 0), .d (.int .i64 0), .d (.int .i64 0), .d (.int .i64 0), .d (.int .i64 0), .d (.int .i64 0), .d (.int .i64 0), .d (.int .i64 0), .d (.int .i64 0), .d (.int .i64 0), .d (.int .i64 0), .d (.int .i64 0), .d (.int .i64 0), .d (.int .i64 0), .d (.int .i64 0), .d (.int .i64 0)], 1⟩),
  (34, ⟨.struct [(0, 28, true), (28, 1, false), (29, 1, false)], 30, 240, [.d (.int .i64 0), .d (.int .i64 0), .d (.int .i64 0), .d (.int .i64 0), .d (.int .i64 0), .d (.int .i64 0), .d (.int .i64 0), .d (.int .i64 0), .d (.int .i64 0), .d (.int .i64 0), .d (.int .i64 0), .d (.int .i64 0), .d (.int .i64 0), .d (.int .i64 0), .d (.int .i64 0), .d (.int .i64 0), .d (.int .i64 0), .d (.int .i64 0), .d (.int .i64 0), .d (.int .i64 0), .d (.int .i64 0), .d (.int .i64 0), .d (.int .i64 0), .d (.int .i64 0), .d (.int .i64 0), .d (.int .i64 0), .d (.int .i64 0), .d (.int .i64 0), .d (.bool false), .d (.int .i64 0)], 0⟩),
  (35, ⟨.struct [(0, 28, true), (28, 1, false), (29, 1, false)], 30, 240, [.d (.int .i64 0), .d (.int .i64 0), .d (.int .i64 0), .d (.int .i64 0), .d (.int .i64 0), .d (.int .i64 0), .d (.int .i64 0), .d (.int .i64 0), .d (.int .i64 0), .d (.int .i64 0), .d (.int .i64 0), .d (.int .i64 0), .d (.int .i64 0), .d (.int .i64 0), .d (.int .i64 0), .d (.int .i64 0), .d (.int .i64 0), .d (.int .i64 0), .d (.int .i64 0), .d (.int .i64 0), .d (.int .i64 0), .d (.int .i64 0), .d (.int .i64 0), .d (.int .i64 0), .d (.int .i64 0), .d (.int .i64 0), .d (.int .i64 0), .d (.int .i64 0), .d (.bool false), .d (.int .i64 0)], 0⟩),
  (36, ⟨.struct [(0, 1, false), (1, 1, false), (2, 1, false), (3, 1, false), (4, 1, false), (5, 1, false), (6, 1, false), (7, 1, false), (8, 1, false), (9, 1, false), (10, 1, false), (11, 1, false), (12, 1, false), (13, 1, false), (14, 1, false), (15, 1, false), (16, 1, false), (17, 1, false), (18, 1, false), (19, 1, false)], 20, 160, [.d (.int .i64 0), .d (.int .i64 0), .d (.int .i64 0), .d (.int .i64 0), .d (.int .i64 0), .d (.int .i64 0), .d (.int .i64 0), .d (.bool false), .d (.int .i64 0), .d (.int .i64 0), .d (.int .i64 0), .d (.int .i64 0), .d (.int .i64 0), .d (.int .i64 0), .d (.int .i64 0), .d (.int .i64 0), .d (.int .i64 0), .d (.int .i64 0), .d (.int .i64 0), .d (.int .i64 0)], 0⟩),
  (37, ⟨.struct [(0, 1, false), (1, 1, false), (2, 1, false), (3, 1, false), (4, 1, false), (5, 1, false), (6, 1, false), (7, 1, false), (8, 1, false), (9, 1, false), (10, 1, false), (11, 1, false), (12, 1, false), (13, 1, false), (14, 1, false), (15, 1, false), (16, 1, false), (17, 1, false), (18, 1, false), (19, 1, false)], 20, 160, [.d (.int .i64 0), .d (.int .i64 0), .d (.int .i64 0), .d (.int .i64 0), .d (.int .i64 0), .d (.int .i64 0), .d (.int .i64 0), .d (.bool false), .d (.int .i64 0), .d (.int .i64 0), .d (.int .i64 0), .d (.int .i64 0), .d (.int .i64 0), .d (.int .i64 0), .d (.int .i64 0), .d (.int .i64 0), .d (.int .i64 0), .d (.int .i64 0), .d (.int .i64 0), .d (.int .i64 0)], 0⟩),
  (46, ⟨.slice 51, 1, 24, [.nl], 0⟩),
  (47, ⟨.struct [(0, 1, false)], 1, 24, [.nl], 0⟩),
  (48, ⟨.struct [(0, 1, false)], 1, 24, [.nl], 0⟩),
  (49, ⟨.slice 70, 1, 24, [.nl], 0⟩),
  (50, ⟨.struct [(0, 1, false), (1, 1, false)], 2, 32, [.d (.int .i64 0), .nl], 0⟩),
  (51, ⟨.struct [(0, 1, false), (1, 1, false)], 2, 32, [.d (.int .i64 0), .nl], 0⟩),
  (55, ⟨.one, 1, 8, [.any], 0⟩),
  (56, ⟨.struct [(0, 1, false), (1, 1, false)], 2, 16, [.d (.int .i64 0), .d (.int .i64 0)], 1⟩),
  (57, ⟨.struct [(0, 1, false), (1, 1, false)], 2, 16, [.d (.int .i64 0), .d (.int .i64 0)], 1⟩),
  (58, ⟨.struct [(0, 22, true), (22, 2, true), (24, 1, false)], 25, 200, [.d (.int .i64 0), .d (.int .i64 0), .d (.int .i64 0), .d (.int .i64 0), .d (.int .i64 0), .d (.int .i64 0), .d (.int .i64 0), .d (.int .i64 0), .d (.int .i64 0), .d (.int .i64 0), .d (.int .i64 0), .d (.int .i64 0), .d (.int .i64 0), .d (.int .i64 0), .d (.int .i64 0), .d (.int .i64 0), .d (.int .i64 0), .nl, .d (.int .i64 0), .d (.bool false), .d (.bool false), .d (.bool false), .d (.int .i64 0), .d (.int .i64 0), .d (.int .i64 0)], 0⟩),
  (59, ⟨.struct [(0, 22, true), (22, 2, true), (24, 1, false)], 25, 200, [.d (.int .i64 0), .d (.int .i64 0), .d (.int .i64 0), .d (.int .i64 0), .d (.int .i64 0), .d (.int .i64 0), .d (.int .i64 0), .d (.int .i64 0), .d (.int .i64 0), .d (.int .i64 0), .d (.int .i64 0), .d (.int .i64 0), .d (.int .i64 0), .d (.int .i64 0), .d (.int .i64 0), .d (.int .i64 0), .d (.int .i64 0), .nl, .d (.int .i64 0), .d (.bool false), .d (.bool false), .d (.bool false), .d (.int .i64 0), .d (.int .i64 0), .d (.int .i64 0)], 0⟩),
  (69, ⟨.struct [(0, 1, false), (1, 1, false)], 2, 16, [.d (.int .i64 0), .d (.int .i64 0)], 1⟩),
  (70, ⟨.struct [(0, 1, false), (1, 1, false)], 2, 16, [.d (.int .i64 0), .d (.int .i64 0)], 1⟩),
  (77, ⟨.struct [(0, 1, false), (1, 1, false), (2, 1, false)], 3, 24, [.d (.int .i64 0), .d (.int .i64 0), .d (.int .i64 0)], 1⟩),
  (78, ⟨.struct [(0, 1, false), (1, 1, false), (2, 1, false)], 3, 24, [.d (.int .i64 0), .d (.int .i64 0), .d (.int .i64 0)], 1⟩),
  (79, ⟨.int .i64, 1, 8, [.d (.int .i64 0)], 0⟩),
  (96, ⟨.slice 57, 1, 24, [.nl], 0⟩),
  (103, ⟨.one, 1, 8, [.any], 0⟩),
  (104, ⟨.one, 1, 8, [.any], 0⟩),
  (115, ⟨.int .u64, 1, 8, [.d (.int .u64 0)], 0⟩),
  (116, ⟨.slice 3, 1, 24, [.nl], 0⟩),
  (117, ⟨.arr 2 48, 2, 48, [.nl, .nl], 0⟩),
  (123, ⟨.int .u64, 1, 8, [.d (.int .u64 0)], 0⟩),
  (128, ⟨.int .i64, 1, 8, [.d (.int .i64 0)], 0⟩),
  (135, ⟨.int .u32, 1, 4, [.d (.int .u32 0)], 0⟩),
  (138, ⟨.one, 1, 8, [.any], 0⟩),
  (139, ⟨.struct [(0, 1, false), (1, 1, false)], 2, 32, [.nl, .d (.int .i64 0)], 0⟩),
  (140, ⟨.struct [(0, 1, false), (1, 1, false)], 2, 32, [.nl, .d (.int .i64 0)], 0⟩),
  (144, ⟨.int .u64, 1, 8, [.d (.int .u64 0)], 0⟩),
  (148, ⟨.one, 1, 8, [.any], 0⟩),
  (155, ⟨.one, 1, 8, [.any], 0⟩),
  (162, ⟨.struct [(0, 1, false), (1, 1, false), (2, 1, false), (3, 1, false)], 4, 40, [.any, .any, .any, .d (.str ⟨#[]⟩)], 0⟩),
  (169, ⟨.one, 1, 8, [.any], 0⟩),
  (170, ⟨.one, 1, 8, [.any], 0⟩),
  (173, ⟨.struct [(0, 1, false), (1, 1, false), (2, 1, false), (3, 1, false), (4, 1, false), (5, 1, false), (6, 1, false), (7, 1, false), (8, 1, false), (9, 1, false), (10, 1, false)], 11, 48, [.d (.int .u64 0), .d (.int .u64 0), .d (.int .u32 0), .d (.int .u8 0), .d (.int .u8 0), .d (.int .u8 0), .d (.int .u8 0), .any, .any, .d (.int .i32 0), .d (.int .i32 0)], 0⟩),
  (175, ⟨.one, 1, 8, [.any], 0⟩)]

attribute [push_cast] wpT wpD confs conflB ids idsL doOp eff fixU frzE eff0 effMove effPick pickA effAlloc effBox effBuild effBuildSlice effLoad effStore effBin effUn effConvert effField aggList effFieldAddr effIndexAddr effIndex effExtract effMakeFunc effMakeSlice sliceArgs effSlice effSliceArr chunkD effBuiltin lenA effCall effCallP calleeA effX effNilCheck rn rnL rnR dn dnL dnR rnsOk hpOk nodupB swp gone back pinT frT XC.ti touched keyed two odd even cond_true cond_false sf_move ss_move sf_assign ss_assign sf_pick ss_pick sf_alloc ss_alloc sf_box ss_box sf_build ss_build sf_buildSlice ss_buildSlice sf_load ss_load sf_store ss_store sf_nilCheck ss_nilCheck sf_binOp ss_binOp sf_unOp ss_unOp sf_convert ss_convert sf_makeFunc ss_makeFunc sf_makeSlice ss_makeSlice sf_slice ss_slice sf_fieldAddr ss_fieldAddr sf_field ss_field sf_indexAddr ss_indexAddr sf_index ss_index sf_extract ss_extract sf_lookup ss_lookup sf_mapUpdate ss_mapUpdate sf_makeInterface ss_makeInterface sf_makeMap ss_makeMap sf_len sb_move sb_assign sb_pick sb_alloc sb_box sb_build sb_buildSlice sb_load sb_store sb_nilCheck sb_binOp sb_unOp sb_convert sb_makeFunc sb_makeSlice sb_slice sb_fieldAddr sb_field sb_indexAddr sb_index sb_extract sb_lookup sb_mapUpdate sb_makeInterface sb_makeMap sb_call sf_append sf_delete effMakeMap effLookup mapRows effMapUpdate effDelete keyFits isInt zeroA sf_min sf_max sf_fun ss_call orcIds startX addAVs pinTm obs pinsOk rnL_map dnL_map rnR_dr dnR_dr dnR_app rnR_app wrap_0 wrap_1 wrap_2 wrap_n1 snap snaps resEff Res.free D.free D.frees D.freess snapF snapsF dstRows srcRows cellsA takeRow TI.isAgg mkAgg allD fillA putCells chunk rep eqD cav zav find pushL St.get St.obj St.put St.app St.eval St.guard strip optOb stripOk sg_move so_move sg_assign so_assign sg_alloc so_alloc sg_box so_box sg_build so_build sg_buildSlice so_buildSlice sg_load so_load sg_store so_store sg_nilCheck so_nilCheck sg_binOp so_binOp sg_unOp so_unOp sg_convert so_convert sg_makeFunc so_makeFunc sg_makeSlice so_makeSlice sg_slice so_slice sg_fieldAddr so_fieldAddr sg_field so_field sg_indexAddr so_indexAddr sg_index so_index sg_extract so_extract sg_call so_call sg_lookup so_lookup sg_mapUpdate so_mapUpdate sg_makeInterface so_makeInterface sg_makeMap so_makeMap sg_pick so_pick isNil notA allD_map allS allS_map mkAgg_map upR_dr rowsD_dr dr_length dr_nil dr_cons dr_append dr_at dr_take dr_drop dr_set upR_app upR_set rowsD_app rowsD take_map_len Op.operands Call.operands Abs.start addParams nbf seqQ blockQ retQ resAs oneOf resOk tyTab

theorem cx : Ctx Tryz.prog (find tyTab) := ctx_of_table tyTab (by kernel_rfl)
theorem mixed : Tryz.prog.follows .mixedOrders = true := by kernel_rfl

structure Cell where
  x : Int
  y : Int
  deriving DecidableEq

abbrev Cell.row (c : Cell) : List D := [.int .i64 c.x, .int .i64 c.y]
abbrev encCells (l : List Cell) : D := .sl (l.map Cell.row)

structure Track where
  role : Int
  closed : Bool
  cells : List Cell
  deriving DecidableEq

abbrev Track.row (t : Track) : List D := [.int .i64 t.role, .bool t.closed, encCells t.cells]
abbrev encTracks (l : List Track) : D := .sl (l.map Track.row)
structure Run where
  a : Int
  b : Int
  deriving DecidableEq
abbrev Run.row (r : Run) : List D := [.int .i64 r.a, .int .i64 r.b]
abbrev encRuns (l : List Run) : D := .sl (l.map Run.row)
structure Row where
  y : Int
  runs : List Run
  deriving DecidableEq
abbrev Row.row (r : Row) : List D := [.int .i64 r.y, encRuns r.runs]
abbrev encRows (l : List Row) : D := .sl (l.map Row.row)
abbrev regRow (l : List Row) : List D := [encRows l]

def onG (c : Cell) : Bool := decide (-4096 ≤ c.x) && decide (c.x < 4096) && decide (-4096 ≤ c.y) && decide (c.y < 4096)
theorem onG_bd {c : Cell} (h : onG c = true) : -4096 ≤ c.x ∧ c.x < 4096 ∧ -4096 ≤ c.y ∧ c.y < 4096 := by
  simp [onG] at h; omega

theorem all_range_succ {f : Nat → Bool} {k : Nat} : (List.range (k + 1)).all f = ((List.range k).all f && f k) := by
  simp [List.range_succ]

theorem all_range_false {f : Nat → Bool} {k n : Nat} (hk : k < n) (h : f k = false) : (List.range n).all f = false := by
  rw [Bool.eq_false_iff]
  intro ha
  have := List.all_eq_true.1 ha k (by simpa using hk)
  rw [h] at this
  cases this
theorem all_range_at {f : Nat → Bool} {k n : Nat} (h : (List.range n).all f = true) (hk : k < n) : f k = true :=
  List.all_eq_true.1 h k (by simpa using hk)

theorem getq {α : Type} {l : List α} {k : Nat} (h : k < l.length) : ∃ x, l[k]? = some x := ⟨l[k], List.getElem?_eq_getElem h⟩

theorem drop_get {α : Type} {l : List α} {k : Nat} {x : α} (h : l[k]? = some x) : l.drop k = x :: l.drop (k + 1) := by
  have hlt := (List.getElem?_eq_some_iff.1 h).1
  rw [List.drop_eq_getElem_cons hlt]
  have := List.getElem?_eq_getElem hlt
  rw [h] at this
  cases this; rfl
theorem take_get {α : Type} {l : List α} {k : Nat} {x : α} (h : l[k]? = some x) : l.take (k + 1) = l.take k ++ [x] := by
  rw [List.take_add_one, h]; rfl
end Go.Proofs.YtlfbjflfbjkbeaaGreat

namespace Go.Proofs.YtlfbjflfbjkbeaaGreat
open Go.Abs

structure Ax where
  num : Int
  den : Int
  speed : Int
  accel : Int
  jerk : Int
  lo : Int
  hi : Int
abbrev Ax.row (a : Ax) : List D := [.int .i64 a.num, .int .i64 a.den, .int .i64 a.speed, .int .i64 a.accel, .int .i64 a.jerk, .int .i64 a.lo, .int .i64 a.hi]
structure Mach where
  a : Ax
  b : Ax
  c : Ax
  d : Ax
  xy : Bool
  ticks : Int
abbrev Mach.axes (m : Mach) : List D := [.int .i64 m.a.num, .int .i64 m.a.den, .int .i64 m.a.speed, .int .i64 m.a.accel, .int .i64 m.a.jerk, .int .i64 m.a.lo, .int .i64 m.a.hi, .int .i64 m.b.num, .int .i64 m.b.den, .int .i64 m.b.speed, .int .i64 m.b.accel, .int .i64 m.b.jerk, .int .i64 m.b.lo, .int .i64 m.b.hi, .int .i64 m.c.num, .int .i64 m.c.den, .int .i64 m.c.speed, .int .i64 m.c.accel, .int .i64 m.c.jerk, .int .i64 m.c.lo, .int .i64 m.c.hi, .int .i64 m.d.num, .int .i64 m.d.den, .int .i64 m.d.speed, .int .i64 m.d.accel, .int .i64 m.d.jerk, .int .i64 m.d.lo, .int .i64 m.d.hi]
abbrev Mach.row (m : Mach) : List D := [.int .i64 m.a.num, .int .i64 m.a.den, .int .i64 m.a.speed, .int .i64 m.a.accel, .int .i64 m.a.jerk, .int .i64 m.a.lo, .int .i64 m.a.hi, .int .i64 m.b.num, .int .i64 m.b.den, .int .i64 m.b.speed, .int .i64 m.b.accel, .int .i64 m.b.jerk, .int .i64 m.b.lo, .int .i64 m.b.hi, .int .i64 m.c.num, .int .i64 m.c.den, .int .i64 m.c.speed, .int .i64 m.c.accel, .int .i64 m.c.jerk, .int .i64 m.c.lo, .int .i64 m.c.hi, .int .i64 m.d.num, .int .i64 m.d.den, .int .i64 m.d.speed, .int .i64 m.d.accel, .int .i64 m.d.jerk, .int .i64 m.d.lo, .int .i64 m.d.hi, .bool m.xy, .int .i64 m.ticks]
def Mach.ax (m : Mach) : Nat → Ax
  | 0 => m.a
  | 1 => m.b
  | 2 => m.c
  | _ => m.d
def fromB (n k : Int) : Bool := decide (1 ≤ n) && decide (n ≤ k)
def withB (n k : Int) : Bool := decide (-k ≤ n) && decide (n ≤ k)
def axB (a : Ax) : Bool := fromB a.num 65536 && fromB a.den a.num && fromB a.speed 1048576 && fromB a.accel 16777216 && fromB a.jerk 1048576 && !decide (a.hi < a.lo) && withB a.lo 1048576 && withB a.hi 1048576
def machB (m : Mach) : Bool := axB m.a && axB m.b && axB m.c && axB m.d && fromB m.ticks 1048576
theorem machB_iff {m : Mach} : machB m = true ↔ (∀ j < 4, axB (m.ax j) = true) ∧ fromB m.ticks 1048576 = true := by
  constructor
  · intro h
    simp only [machB, Bool.and_eq_true] at h
    refine ⟨fun j hj => ?_, h.2⟩
    rcases (show j = 0 ∨ j = 1 ∨ j = 2 ∨ j = 3 by omega) with rfl | rfl | rfl | rfl <;> simp [Mach.ax, h]
  · rintro ⟨h, h2⟩
    have h0 := h 0 (by omega)
    have h1 := h 1 (by omega)
    have h3 := h 2 (by omega)
    have h4 := h 3 (by omega)
    simp only [Mach.ax] at h0 h1 h3 h4
    simp [machB, h0, h1, h3, h4, h2]
theorem from_ok (n k : Int) : PC Tryz.prog 56 [.int .i64 n, .int .i64 k] (.p (.bool (fromB n k))) := by
  refine pc_of_awp cx (fn := Tryz.f56) (c := _) Tryz.func56 rfl rfl (Nat.le_of_ble_eq_true rfl) ?_
  rw [Tryz.ntmps56]; refine Nav.imp ?_
  refine awp_region cx [] fun K hK => ?_
  simp [push_cast]
  repeat (refine And.intro (by clear hK; intros; first | omega | (simp_all; done) | (simp_all <;> omega)) ?_)
  refine hK _ ?_; clear hK K; refine Nav.imp ?_
  refine awp_region cx [] fun K hK => ?_
  simp [push_cast]
  repeat (refine And.intro (by clear hK; intros; first | omega | (simp_all; done) | (simp_all <;> omega)) ?_)
  refine hK _ ?_; clear hK K; refine Nav.imp ?_
  simp [push_cast, fromB]
theorem kwithin_ok (n k : Int) (hk : 0 ≤ k ∧ k ≤ 9223372036854775807) : PC Tryz.prog 57 [.int .i64 n, .int .i64 k] (.p (.bool (withB n k))) := by
  have e1 := wrap_i64 (n := -k) (by omega) (by omega)
  refine pc_of_awp cx (fn := Tryz.f57) (c := _) Tryz.func57 rfl rfl (Nat.le_of_ble_eq_true rfl) ?_
  rw [Tryz.ntmps57]; refine Nav.imp ?_
  refine awp_region cx [] fun K hK => ?_
  simp [push_cast]
  repeat (refine And.intro (by clear hK; intros; first | omega | (simp_all; done) | (simp_all <;> omega)) ?_)
  refine hK _ ?_; clear hK K; refine Nav.imp ?_
  refine awp_region cx [] fun K hK => ?_
  simp [push_cast, e1]
  repeat (refine And.intro (by clear hK; intros; first | omega | (simp_all; done) | (simp_all <;> omega)) ?_)
  refine hK _ ?_; clear hK K; refine Nav.imp ?_
  simp [push_cast, withB]
theorem kvalid_ok (m : Mach) : PC Tryz.prog 38 [.agg m.row] (.p (.bool (machB m))) := by
  have hm := @machB_iff m
  obtain ⟨⟨a0, a1, a2, a3, a4, a5, a6⟩, ⟨b0, b1, b2, b3, b4, b5, b6⟩, ⟨d0, d1, d2, d3, d4, d5, d6⟩, ⟨e0, e1, e2, e3, e4, e5, e6⟩, xy, tk⟩ := m
  generalize hmm : machB _ = mb at *
  simp only [Mach.row, Mach.axes] at *
  refine pc_of_awp cx (fn := Tryz.f38) (c := _) Tryz.func38 rfl rfl (Nat.le_of_ble_eq_true rfl) ?_
  rw [Tryz.ntmps38]; refine Nav.imp ?_
  refine awp_region cx [] fun K hK => ?_
  simp [push_cast]
  repeat (refine And.intro (by clear hK; intros; first | omega | (simp_all; done) | (simp_all <;> omega)) ?_)
  refine hK _ ?_; clear hK K; refine Nav.imp ?_
  refine awp_region cx [] fun K hK => ?_
  simp [push_cast]
  repeat (refine And.intro (by clear hK; intros; first | omega | (simp_all; done) | (simp_all <;> omega)) ?_)
  refine hK _ ?_; clear hK K; refine Nav.imp ?_
  refine awp_loop (β := Nat) (fun i => ⟨63, [(1, .ptr 0 0 0), (6, .d (.agg (Mach.axes ⟨⟨a0, a1, a2, a3, a4, a5, a6⟩, ⟨b0, b1, b2, b3, b4, b5, b6⟩, ⟨d0, d1, d2, d3, d4, d5, d6⟩, ⟨e0, e1, e2, e3, e4, e5, e6⟩, xy, tk⟩))), (7, .d (.int .i64 i))], [(0, some ⟨35, 30, [(Mach.row ⟨⟨a0, a1, a2, a3, a4, a5, a6⟩, ⟨b0, b1, b2, b3, b4, b5, b6⟩, ⟨d0, d1, d2, d3, d4, d5, d6⟩, ⟨e0, e1, e2, e3, e4, e5, e6⟩, xy, tk⟩).map .d]⟩)], 1⟩) (fun i => i ≤ 4 ∧ ∀ j < i, axB (Mach.ax ⟨⟨a0, a1, a2, a3, a4, a5, a6⟩, ⟨b0, b1, b2, b3, b4, b5, b6⟩, ⟨d0, d1, d2, d3, d4, d5, d6⟩, ⟨e0, e1, e2, e3, e4, e5, e6⟩, xy, tk⟩ j) = true) (fun i => 4 - i) 0 ?_ ⟨Nat.zero_le _, by simp⟩ ?_
  · refine weak_of [(0, some 0)] rfl (by simp [upT, up, upL, push_cast]) (by simp [upH, upR, upL, up, push_cast]) (by simp [namesOk, push_cast]) (by simp [olds])
  · rintro i ⟨hi, hall⟩
    simp only [Mach.axes, Mach.row]
    rcases (show i = 0 ∨ i = 1 ∨ i = 2 ∨ i = 3 ∨ i = 4 by omega) with rfl | rfl | rfl | rfl | rfl
    · have c1 := from_ok a0 65536
      have c2 := from_ok a1 a0
      have c3 := from_ok a2 1048576
      have c4 := from_ok a3 16777216
      have c5 := from_ok a4 1048576
      have c6 := kwithin_ok a5 1048576 (by omega)
      have c7 := kwithin_ok a6 1048576 (by omega)
      have hax : axB ⟨a0, a1, a2, a3, a4, a5, a6⟩ = (fromB a0 65536 && fromB a1 a0 && fromB a2 1048576 && fromB a3 16777216 && fromB a4 1048576 && !decide (a6 < a5) && withB a5 1048576 && withB a6 1048576) := rfl
      generalize fromB a0 65536 = q0 at *
      generalize fromB a1 a0 = q1 at *
      generalize fromB a2 1048576 = q2 at *
      generalize fromB a3 16777216 = q3 at *
      generalize fromB a4 1048576 = q4 at *
      generalize withB a5 1048576 = q6 at *
      generalize withB a6 1048576 = q7 at *
      refine Nav.imp ?_
      refine awp_region cx [] fun K hK => ?_
      simp [push_cast]
      repeat (refine And.intro (by clear hK; intros; first | omega | (simp_all; done) | (simp_all <;> omega)) ?_)
      refine hK _ ?_; clear hK K; refine Nav.imp ?_
      refine awp_cond (b := true) (by simp [push_cast]) (fun hb => ?_) (fun hb => ?_) <;> (refine Nav.imp ?_)
      · have w3 : IntKind.i64.wrap 3 = 3 := by decide
        have w4 : IntKind.i64.wrap 4 = 4 := by decide
        refine awp_region cx [] fun K hK => ?_
        simp [push_cast]
        repeat (refine And.intro (by clear hK; intros; first | omega | (simp_all; done) | (simp_all <;> omega)) ?_)
        refine hK _ ?_; clear hK K; refine Nav.imp ?_
        refine awp_region cx [(2, .p (.bool q0)), (9, .p (.bool q1)), (15, .p (.bool q2)), (21, .p (.bool q3)), (27, .p (.bool q4)), (40, .p (.bool q6)), (46, .p (.bool q7))] fun K hK => ?_
        simp [push_cast, c1, c2, c3, c4, c5, c6, c7]
        repeat (refine And.intro (by clear hK; intros; first | omega | (simp_all; done) | (simp_all <;> omega)) ?_)
        refine hK _ ?_; clear hK K; refine Nav.imp ?_
        refine awp_cond (b := !axB ⟨a0, a1, a2, a3, a4, a5, a6⟩) (by simp [push_cast, hax]) (fun hb => ?_) (fun hb => ?_) <;> (refine Nav.imp ?_)
        · refine awp_region cx [] fun K hK => ?_
          simp [push_cast]
          repeat (refine And.intro (by clear hK; intros; first | omega | (simp_all; done) | (simp_all <;> omega)) ?_)
          refine hK _ ?_; clear hK K; refine Nav.imp ?_
          have hf : mb = false := by
            cases mb
            · rfl
            · have := (hm.1 rfl).1 0 (by omega)
              simp only [Mach.ax] at this
              rw [this] at hb; cases hb
          rw [hf]
          simp [push_cast]
        · refine awp_region cx [] fun K hK => ?_
          simp [push_cast, w3, w4]
          repeat (refine And.intro (by clear hK; intros; first | omega | (simp_all; done) | (simp_all <;> omega)) ?_)
          refine hK _ ?_; clear hK K; refine Nav.imp ?_
          refine ⟨1, ⟨by omega, fun j hj => ?_⟩, by omega, ?_⟩
          · by_cases e : j < 0
            · exact hall j e
            · have : j = 0 := by omega
              subst this
              simpa [Mach.ax] using hb
          · refine weak_of [(0, some 0)] rfl (by simp [upT, up, upL, push_cast]) (by simp [upH, upR, upL, up, push_cast]) (by simp [namesOk, push_cast]) (by simp [olds])
      · simp at hb
    · have c1 := from_ok b0 65536
      have c2 := from_ok b1 b0
      have c3 := from_ok b2 1048576
      have c4 := from_ok b3 16777216
      have c5 := from_ok b4 1048576
      have c6 := kwithin_ok b5 1048576 (by omega)
      have c7 := kwithin_ok b6 1048576 (by omega)
      have hax : axB ⟨b0, b1, b2, b3, b4, b5, b6⟩ = (fromB b0 65536 && fromB b1 b0 && fromB b2 1048576 && fromB b3 16777216 && fromB b4 1048576 && !decide (b6 < b5) && withB b5 1048576 && withB b6 1048576) := rfl
      generalize fromB b0 65536 = q0 at *
      generalize fromB b1 b0 = q1 at *
      generalize fromB b2 1048576 = q2 at *
      generalize fromB b3 16777216 = q3 at *
      generalize fromB b4 1048576 = q4 at *
      generalize withB b5 1048576 = q6 at *
      generalize withB b6 1048576 = q7 at *
      refine Nav.imp ?_
      refine awp_region cx [] fun K hK => ?_
      simp [push_cast]
      repeat (refine And.intro (by clear hK; intros; first | omega | (simp_all; done) | (simp_all <;> omega)) ?_)
      refine hK _ ?_; clear hK K; refine Nav.imp ?_
      refine awp_cond (b := true) (by simp [push_cast]) (fun hb => ?_) (fun hb => ?_) <;> (refine Nav.imp ?_)
      · have w3 : IntKind.i64.wrap 3 = 3 := by decide
        have w4 : IntKind.i64.wrap 4 = 4 := by decide
        refine awp_region cx [] fun K hK => ?_
        simp [push_cast]
        repeat (refine And.intro (by clear hK; intros; first | omega | (simp_all; done) | (simp_all <;> omega)) ?_)
        refine hK _ ?_; clear hK K; refine Nav.imp ?_
        refine awp_region cx [(2, .p (.bool q0)), (9, .p (.bool q1)), (15, .p (.bool q2)), (21, .p (.bool q3)), (27, .p (.bool q4)), (40, .p (.bool q6)), (46, .p (.bool q7))] fun K hK => ?_
        simp [push_cast, c1, c2, c3, c4, c5, c6, c7]
        repeat (refine And.intro (by clear hK; intros; first | omega | (simp_all; done) | (simp_all <;> omega)) ?_)
        refine hK _ ?_; clear hK K; refine Nav.imp ?_
        refine awp_cond (b := !axB ⟨b0, b1, b2, b3, b4, b5, b6⟩) (by simp [push_cast, hax]) (fun hb => ?_) (fun hb => ?_) <;> (refine Nav.imp ?_)
        · refine awp_region cx [] fun K hK => ?_
          simp [push_cast]
          repeat (refine And.intro (by clear hK; intros; first | omega | (simp_all; done) | (simp_all <;> omega)) ?_)
          refine hK _ ?_; clear hK K; refine Nav.imp ?_
          have hf : mb = false := by
            cases mb
            · rfl
            · have := (hm.1 rfl).1 1 (by omega)
              simp only [Mach.ax] at this
              rw [this] at hb; cases hb
          rw [hf]
          simp [push_cast]
        · refine awp_region cx [] fun K hK => ?_
          simp [push_cast, w3, w4]
          repeat (refine And.intro (by clear hK; intros; first | omega | (simp_all; done) | (simp_all <;> omega)) ?_)
          refine hK _ ?_; clear hK K; refine Nav.imp ?_
          refine ⟨2, ⟨by omega, fun j hj => ?_⟩, by omega, ?_⟩
          · by_cases e : j < 1
            · exact hall j e
            · have : j = 1 := by omega
              subst this
              simpa [Mach.ax] using hb
          · refine weak_of [(0, some 0)] rfl (by simp [upT, up, upL, push_cast]) (by simp [upH, upR, upL, up, push_cast]) (by simp [namesOk, push_cast]) (by simp [olds])
      · simp at hb
    · have c1 := from_ok d0 65536
      have c2 := from_ok d1 d0
      have c3 := from_ok d2 1048576
      have c4 := from_ok d3 16777216
      have c5 := from_ok d4 1048576
      have c6 := kwithin_ok d5 1048576 (by omega)
      have c7 := kwithin_ok d6 1048576 (by omega)
      have hax : axB ⟨d0, d1, d2, d3, d4, d5, d6⟩ = (fromB d0 65536 && fromB d1 d0 && fromB d2 1048576 && fromB d3 16777216 && fromB d4 1048576 && !decide (d6 < d5) && withB d5 1048576 && withB d6 1048576) := rfl
      generalize fromB d0 65536 = q0 at *
      generalize fromB d1 d0 = q1 at *
      generalize fromB d2 1048576 = q2 at *
      generalize fromB d3 16777216 = q3 at *
      generalize fromB d4 1048576 = q4 at *
      generalize withB d5 1048576 = q6 at *
      generalize withB d6 1048576 = q7 at *
      refine Nav.imp ?_
      refine awp_region cx [] fun K hK => ?_
      simp [push_cast]
      repeat (refine And.intro (by clear hK; intros; first | omega | (simp_all; done) | (simp_all <;> omega)) ?_)
      refine hK _ ?_; clear hK K; refine Nav.imp ?_
      refine awp_cond (b := true) (by simp [push_cast]) (fun hb => ?_) (fun hb => ?_) <;> (refine Nav.imp ?_)
      · have w3 : IntKind.i64.wrap 3 = 3 := by decide
        have w4 : IntKind.i64.wrap 4 = 4 := by decide
        refine awp_region cx [] fun K hK => ?_
        simp [push_cast]
        repeat (refine And.intro (by clear hK; intros; first | omega | (simp_all; done) | (simp_all <;> omega)) ?_)
        refine hK _ ?_; clear hK K; refine Nav.imp ?_
        refine awp_region cx [(2, .p (.bool q0)), (9, .p (.bool q1)), (15, .p (.bool q2)), (21, .p (.bool q3)), (27, .p (.bool q4)), (40, .p (.bool q6)), (46, .p (.bool q7))] fun K hK => ?_
        simp [push_cast, c1, c2, c3, c4, c5, c6, c7]
        repeat (refine And.intro (by clear hK; intros; first | omega | (simp_all; done) | (simp_all <;> omega)) ?_)
        refine hK _ ?_; clear hK K; refine Nav.imp ?_
        refine awp_cond (b := !axB ⟨d0, d1, d2, d3, d4, d5, d6⟩) (by simp [push_cast, hax]) (fun hb => ?_) (fun hb => ?_) <;> (refine Nav.imp ?_)
        · refine awp_region cx [] fun K hK => ?_
          simp [push_cast]
          repeat (refine And.intro (by clear hK; intros; first | omega | (simp_all; done) | (simp_all <;> omega)) ?_)
          refine hK _ ?_; clear hK K; refine Nav.imp ?_
          have hf : mb = false := by
            cases mb
            · rfl
            · have := (hm.1 rfl).1 2 (by omega)
              simp only [Mach.ax] at this
              rw [this] at hb; cases hb
          rw [hf]
          simp [push_cast]
        · refine awp_region cx [] fun K hK => ?_
          simp [push_cast, w3, w4]
          repeat (refine And.intro (by clear hK; intros; first | omega | (simp_all; done) | (simp_all <;> omega)) ?_)
          refine hK _ ?_; clear hK K; refine Nav.imp ?_
          refine ⟨3, ⟨by omega, fun j hj => ?_⟩, by omega, ?_⟩
          · by_cases e : j < 2
            · exact hall j e
            · have : j = 2 := by omega
              subst this
              simpa [Mach.ax] using hb
          · refine weak_of [(0, some 0)] rfl (by simp [upT, up, upL, push_cast]) (by simp [upH, upR, upL, up, push_cast]) (by simp [namesOk, push_cast]) (by simp [olds])
      · simp at hb
    · have c1 := from_ok e0 65536
      have c2 := from_ok e1 e0
      have c3 := from_ok e2 1048576
      have c4 := from_ok e3 16777216
      have c5 := from_ok e4 1048576
      have c6 := kwithin_ok e5 1048576 (by omega)
      have c7 := kwithin_ok e6 1048576 (by omega)
      have hax : axB ⟨e0, e1, e2, e3, e4, e5, e6⟩ = (fromB e0 65536 && fromB e1 e0 && fromB e2 1048576 && fromB e3 16777216 && fromB e4 1048576 && !decide (e6 < e5) && withB e5 1048576 && withB e6 1048576) := rfl
      generalize fromB e0 65536 = q0 at *
      generalize fromB e1 e0 = q1 at *
      generalize fromB e2 1048576 = q2 at *
      generalize fromB e3 16777216 = q3 at *
      generalize fromB e4 1048576 = q4 at *
      generalize withB e5 1048576 = q6 at *
      generalize withB e6 1048576 = q7 at *
      refine Nav.imp ?_
      refine awp_region cx [] fun K hK => ?_
      simp [push_cast]
      repeat (refine And.intro (by clear hK; intros; first | omega | (simp_all; done) | (simp_all <;> omega)) ?_)
      refine hK _ ?_; clear hK K; refine Nav.imp ?_
      refine awp_cond (b := true) (by simp [push_cast]) (fun hb => ?_) (fun hb => ?_) <;> (refine Nav.imp ?_)
      · have w3 : IntKind.i64.wrap 3 = 3 := by decide
        have w4 : IntKind.i64.wrap 4 = 4 := by decide
        refine awp_region cx [] fun K hK => ?_
        simp [push_cast]
        repeat (refine And.intro (by clear hK; intros; first | omega | (simp_all; done) | (simp_all <;> omega)) ?_)
        refine hK _ ?_; clear hK K; refine Nav.imp ?_
        refine awp_region cx [(2, .p (.bool q0)), (9, .p (.bool q1)), (15, .p (.bool q2)), (21, .p (.bool q3)), (27, .p (.bool q4)), (40, .p (.bool q6)), (46, .p (.bool q7))] fun K hK => ?_
        simp [push_cast, c1, c2, c3, c4, c5, c6, c7]
        repeat (refine And.intro (by clear hK; intros; first | omega | (simp_all; done) | (simp_all <;> omega)) ?_)
        refine hK _ ?_; clear hK K; refine Nav.imp ?_
        refine awp_cond (b := !axB ⟨e0, e1, e2, e3, e4, e5, e6⟩) (by simp [push_cast, hax]) (fun hb => ?_) (fun hb => ?_) <;> (refine Nav.imp ?_)
        · refine awp_region cx [] fun K hK => ?_
          simp [push_cast]
          repeat (refine And.intro (by clear hK; intros; first | omega | (simp_all; done) | (simp_all <;> omega)) ?_)
          refine hK _ ?_; clear hK K; refine Nav.imp ?_
          have hf : mb = false := by
            cases mb
            · rfl
            · have := (hm.1 rfl).1 3 (by omega)
              simp only [Mach.ax] at this
              rw [this] at hb; cases hb
          rw [hf]
          simp [push_cast]
        · refine awp_region cx [] fun K hK => ?_
          simp [push_cast, w3, w4]
          repeat (refine And.intro (by clear hK; intros; first | omega | (simp_all; done) | (simp_all <;> omega)) ?_)
          refine hK _ ?_; clear hK K; refine Nav.imp ?_
          refine ⟨4, ⟨by omega, fun j hj => ?_⟩, by omega, ?_⟩
          · by_cases e : j < 3
            · exact hall j e
            · have : j = 3 := by omega
              subst this
              simpa [Mach.ax] using hb
          · refine weak_of [(0, some 0)] rfl (by simp [upT, up, upL, push_cast]) (by simp [upH, upR, upL, up, push_cast]) (by simp [namesOk, push_cast]) (by simp [olds])
      · simp at hb
    · refine Nav.imp ?_
      refine awp_region cx [] fun K hK => ?_
      simp [push_cast]
      repeat (refine And.intro (by clear hK; intros; first | omega | (simp_all; done) | (simp_all <;> omega)) ?_)
      refine hK _ ?_; clear hK K; refine Nav.imp ?_
      refine awp_cond (b := false) (by simp [push_cast]) (fun hb => ?_) (fun hb => ?_) <;> (refine Nav.imp ?_)
      · simp at hb
      · have c1 := from_ok tk 1048576
        have e : mb = fromB tk 1048576 := by
          cases h : fromB tk 1048576
          · cases mb
            · rfl
            · exact absurd (hm.1 rfl).2 (by simp [h])
          · exact hm.2 ⟨hall, h⟩
        rw [e]
        refine awp_region cx [(2, .p (.bool (fromB tk 1048576)))] fun K hK => ?_
        simp [push_cast, c1]
        repeat (refine And.intro (by clear hK; intros; first | omega | (simp_all; done) | (simp_all <;> omega)) ?_)
        refine hK _ ?_; clear hK K; refine Nav.imp ?_
        simp [push_cast]
end Go.Proofs.YtlfbjflfbjkbeaaGreat

namespace Go.Proofs.YtlfbjflfbjkbeaaGreat
open Go.Abs

theorem floor_facts (a b : Int) (hb : 0 < b) : (0 ≤ a → a.tdiv b = a / b) ∧ (a < 0 → a.tmod b = 0 → a.tdiv b = a / b) ∧ (a < 0 → a.tmod b ≠ 0 → a.tdiv b - 1 = a / b) := by
  refine ⟨fun h => Int.tdiv_eq_ediv_of_nonneg h, ?_, ?_⟩
  all_goals
    intro ha hm
    obtain ⟨n, rfl⟩ : ∃ n : Int, a = -n := ⟨-a, by omega⟩
    rw [Int.neg_tmod, Int.tmod_eq_emod_of_nonneg (by omega)] at hm
    rw [Int.neg_tdiv, Int.tdiv_eq_ediv_of_nonneg (by omega)]
    have h1 := Int.mul_ediv_add_emod n b
    have h2 := Int.emod_nonneg n (show b ≠ 0 by omega)
    have h3 := Int.emod_lt_of_pos n hb
  · have := (Int.ediv_emod_unique (a := -n) (b := b) (r := 0) (q := -(n / b)) hb).2 ⟨by rw [Int.mul_neg]; omega, by omega, by omega⟩
    exact this.1.symm
  · have := (Int.ediv_emod_unique (a := -n) (b := b) (r := b - n % b) (q := -(n / b) - 1) hb).2 ⟨by rw [Int.mul_sub, Int.mul_neg, Int.mul_one]; omega, by omega, by omega⟩
    exact this.1.symm
theorem div_range {a b : Int} (hb : 0 < b) (h1 : -9223372036854775808 ≤ a) (h2 : a ≤ 9223372036854775807) : -9223372036854775808 ≤ a / b ∧ a / b ≤ 9223372036854775807 := by
  have h3 := Int.mul_ediv_add_emod a b
  have h4 := Int.emod_nonneg a (show b ≠ 0 by omega)
  have h5 := Int.emod_lt_of_pos a hb
  constructor
  · exact (Int.le_ediv_iff_mul_le hb).2 (by
      have : (-9223372036854775808 : Int) * b ≤ -9223372036854775808 * 1 := Int.mul_le_mul_of_nonpos_left (by omega) (by omega)
      omega)
  · by_cases q : 0 ≤ a
    · have := Int.ediv_le_self b q; omega
    · have : a / b < 0 := Int.ediv_neg_of_neg_of_pos (by omega) hb
      omega
def flD (a b : Int) : D := .tup [.int .i64 (a / b), .int .i64 0]
theorem nfloor_ok (a b : Int) (hb : 0 < b) (h1 : -9223372036854775808 ≤ a ∧ a ≤ 9223372036854775807) (h2 : b ≤ 9223372036854775807) : PC Tryz.prog 41 [.int .i64 a, .int .i64 b] (.p (flD a b)) := by
  obtain ⟨f1, f2, f3⟩ := floor_facts a b hb
  obtain ⟨r1, r2⟩ := div_range hb h1.1 h1.2
  have n1 : (b == 0) = false := by simp; omega
  have n2 : (b == -1) = false := by simp; omega
  have n3 : decide (b < 0) = false := by simp; omega
  have n4 : ¬ b = 0 := by omega
  have n5 : ¬ b < 0 := by omega
  have fz : a < 0 → a / b < 0 := fun h => Int.ediv_neg_of_neg_of_pos h hb
  unfold flD
  generalize hq : a.tdiv b = t at *
  generalize hm : a.tmod b = u at *
  have hu : -9223372036854775808 ≤ u ∧ u ≤ 9223372036854775807 := by
    rw [← hm]
    have k1 := Int.tmod_lt_of_pos a hb
    have k2 := Int.lt_tmod_of_pos a hb
    omega
  generalize a / b = z at *
  have w2 := wrap_i64 (n := u) (by omega) (by omega)
  have ht : t = z ∨ (t = z + 1 ∧ z < 0) := by
    by_cases q : 0 ≤ a
    · exact .inl (f1 q)
    · by_cases q2 : u = 0
      · exact .inl (f2 (by omega) q2)
      · have := f3 (by omega) q2
        exact .inr ⟨by omega, fz (by omega)⟩
  have e4 := wrap_i64 (n := t) (by omega) (by omega)
  refine pc_of_awp cx (fn := Tryz.f41) (c := _) Tryz.func41 rfl rfl (Nat.le_of_ble_eq_true rfl) ?_
  rw [Tryz.ntmps41]; refine Nav.imp ?_
  refine awp_region cx [] fun K hK => ?_
  simp [push_cast]
  repeat (refine And.intro (by clear hK; intros; first | omega | (simp_all; done) | (simp_all <;> omega)) ?_)
  refine hK _ ?_; clear hK K; refine Nav.imp ?_
  refine awp_region cx [] fun K hK => ?_
  simp [push_cast]
  repeat (refine And.intro (by clear hK; intros; first | omega | (simp_all; done) | (simp_all <;> omega)) ?_)
  refine hK _ ?_; clear hK K; refine Nav.imp ?_
  refine awp_cond (b := false) (by simp [push_cast, n1]) (fun hb => ?_) (fun hb => ?_) <;> (refine Nav.imp ?_)
  · simp at hb
  · refine awp_region cx [] fun K hK => ?_
    simp [push_cast]
    repeat (refine And.intro (by clear hK; intros; first | omega | (simp_all; done) | (simp_all <;> omega)) ?_)
    refine hK _ ?_; clear hK K; refine Nav.imp ?_
    refine awp_cond (b := false) (by simp [push_cast, n2]) (fun hb => ?_) (fun hb => ?_) <;> (refine Nav.imp ?_)
    · simp at hb
    · refine awp_region cx [] fun K hK => ?_
      simp [push_cast, n4, hq, e4]
      repeat (refine And.intro (by clear hK; intros; first | omega | (simp_all; done) | (simp_all <;> omega)) ?_)
      refine hK _ ?_; clear hK K; refine Nav.imp ?_
      refine awp_region cx [] fun K hK => ?_
      simp [push_cast, n4, hm, w2, n3]
      repeat (refine And.intro (by clear hK; intros; first | omega | (simp_all; done) | (simp_all <;> omega)) ?_)
      refine hK _ ?_; clear hK K; refine Nav.imp ?_
      by_cases q : a < 0 ∧ u ≠ 0
      · have e := f3 q.1 q.2
        have w3 : IntKind.i64.wrap (t - 1) = z := by rw [wrap_i64 (by omega) (by omega)]; exact e
        have q1 := q.1
        have q2 : (u == 0) = false := by simp; exact q.2
        refine awp_cond (b := true) (by simp [push_cast, q1, q2, q.2]) (fun hb => ?_) (fun hb => ?_) <;> (refine Nav.imp ?_)
        · refine awp_region cx [] fun K hK => ?_
          simp [push_cast, w3]
          repeat (refine And.intro (by clear hK; intros; first | omega | (simp_all; done) | (simp_all <;> omega)) ?_)
          refine hK _ ?_; clear hK K; refine Nav.imp ?_
          refine awp_region cx [] fun K hK => ?_
          simp [push_cast]
          repeat (refine And.intro (by clear hK; intros; first | omega | (simp_all; done) | (simp_all <;> omega)) ?_)
          refine hK _ ?_; clear hK K; refine Nav.imp ?_
          simp [push_cast]
        · simp at hb
      · have e : t = z := by
          by_cases q0 : 0 ≤ a
          · exact f1 q0
          · exact f2 (by omega) (by
              apply Classical.byContradiction
              intro hn; exact q ⟨by omega, hn⟩)
        subst e
        have hx : (u != 0 && decide (a < 0)) = false := by simp; omega
        refine awp_cond (b := false) (by simp [push_cast, hx]) (fun hb => ?_) (fun hb => ?_) <;> (refine Nav.imp ?_)
        · simp at hb
        · refine awp_region cx [] fun K hK => ?_
          simp [push_cast]
          repeat (refine And.intro (by clear hK; intros; first | omega | (simp_all; done) | (simp_all <;> omega)) ?_)
          refine hK _ ?_; clear hK K; refine Nav.imp ?_
          simp [push_cast]
theorem rfloor_ok (a b : Int) (hb : 0 < b) (h1 : -9223372036854775808 ≤ a ∧ a ≤ 9223372036854775807) (h2 : b ≤ 9223372036854775807) : PC Tryz.prog 55 [.int .i64 a, .int .i64 b] (.p (flD a b)) := by
  obtain ⟨f1, f2, f3⟩ := floor_facts a b hb
  obtain ⟨r1, r2⟩ := div_range hb h1.1 h1.2
  have n1 : (b == 0) = false := by simp; omega
  have n2 : (b == -1) = false := by simp; omega
  have n3 : decide (b < 0) = false := by simp; omega
  have n4 : ¬ b = 0 := by omega
  have n5 : ¬ b < 0 := by omega
  have fz : a < 0 → a / b < 0 := fun h => Int.ediv_neg_of_neg_of_pos h hb
  unfold flD
  generalize hq : a.tdiv b = t at *
  generalize hm : a.tmod b = u at *
  have hu : -9223372036854775808 ≤ u ∧ u ≤ 9223372036854775807 := by
    rw [← hm]
    have k1 := Int.tmod_lt_of_pos a hb
    have k2 := Int.lt_tmod_of_pos a hb
    omega
  generalize a / b = z at *
  have w2 := wrap_i64 (n := u) (by omega) (by omega)
  have ht : t = z ∨ (t = z + 1 ∧ z < 0) := by
    by_cases q : 0 ≤ a
    · exact .inl (f1 q)
    · by_cases q2 : u = 0
      · exact .inl (f2 (by omega) q2)
      · have := f3 (by omega) q2
        exact .inr ⟨by omega, fz (by omega)⟩
  have e4 := wrap_i64 (n := t) (by omega) (by omega)
  refine pc_of_awp cx (fn := Tryz.f55) (c := _) Tryz.func55 rfl rfl (Nat.le_of_ble_eq_true rfl) ?_
  rw [Tryz.ntmps55]; refine Nav.imp ?_
  refine awp_region cx [] fun K hK => ?_
  simp [push_cast]
  repeat (refine And.intro (by clear hK; intros; first | omega | (simp_all; done) | (simp_all <;> omega)) ?_)
  refine hK _ ?_; clear hK K; refine Nav.imp ?_
  refine awp_region cx [] fun K hK => ?_
  simp [push_cast]
  repeat (refine And.intro (by clear hK; intros; first | omega | (simp_all; done) | (simp_all <;> omega)) ?_)
  refine hK _ ?_; clear hK K; refine Nav.imp ?_
  refine awp_cond (b := false) (by simp [push_cast, n1]) (fun hb => ?_) (fun hb => ?_) <;> (refine Nav.imp ?_)
  · simp at hb
  · refine awp_region cx [] fun K hK => ?_
    simp [push_cast]
    repeat (refine And.intro (by clear hK; intros; first | omega | (simp_all; done) | (simp_all <;> omega)) ?_)
    refine hK _ ?_; clear hK K; refine Nav.imp ?_
    refine awp_cond (b := false) (by simp [push_cast, n2]) (fun hb => ?_) (fun hb => ?_) <;> (refine Nav.imp ?_)
    · simp at hb
    · refine awp_region cx [] fun K hK => ?_
      simp [push_cast, n4, hq, e4]
      repeat (refine And.intro (by clear hK; intros; first | omega | (simp_all; done) | (simp_all <;> omega)) ?_)
      refine hK _ ?_; clear hK K; refine Nav.imp ?_
      refine awp_region cx [] fun K hK => ?_
      simp [push_cast, n4, hm, w2, n3]
      repeat (refine And.intro (by clear hK; intros; first | omega | (simp_all; done) | (simp_all <;> omega)) ?_)
      refine hK _ ?_; clear hK K; refine Nav.imp ?_
      by_cases q : a < 0 ∧ u ≠ 0
      · have e := f3 q.1 q.2
        have w3 : IntKind.i64.wrap (t - 1) = z := by rw [wrap_i64 (by omega) (by omega)]; exact e
        have q1 := q.1
        have q2 : (u == 0) = false := by simp; exact q.2
        refine awp_cond (b := true) (by simp [push_cast, q1, q2, q.2]) (fun hb => ?_) (fun hb => ?_) <;> (refine Nav.imp ?_)
        · refine awp_region cx [] fun K hK => ?_
          simp [push_cast, w3]
          repeat (refine And.intro (by clear hK; intros; first | omega | (simp_all; done) | (simp_all <;> omega)) ?_)
          refine hK _ ?_; clear hK K; refine Nav.imp ?_
          refine awp_region cx [] fun K hK => ?_
          simp [push_cast]
          repeat (refine And.intro (by clear hK; intros; first | omega | (simp_all; done) | (simp_all <;> omega)) ?_)
          refine hK _ ?_; clear hK K; refine Nav.imp ?_
          simp [push_cast]
        · simp at hb
      · have e : t = z := by
          by_cases q0 : 0 ≤ a
          · exact f1 q0
          · exact f2 (by omega) (by
              apply Classical.byContradiction
              intro hn; exact q ⟨by omega, hn⟩)
        subst e
        have hx : (u != 0 && decide (a < 0)) = false := by simp; omega
        refine awp_cond (b := false) (by simp [push_cast, hx]) (fun hb => ?_) (fun hb => ?_) <;> (refine Nav.imp ?_)
        · simp at hb
        · refine awp_region cx [] fun K hK => ?_
          simp [push_cast]
          repeat (refine And.intro (by clear hK; intros; first | omega | (simp_all; done) | (simp_all <;> omega)) ?_)
          refine hK _ ?_; clear hK K; refine Nav.imp ?_
          simp [push_cast]

theorem wrap_u64 {n : Int} (h1 : 0 ≤ n) (h2 : n ≤ 18446744073709551615) : IntKind.u64.wrap n = n := by
  simp [IntKind.wrap, IntKind.bits, IntKind.signed]
  omega
def roundZ (a b : Int) : Int := if b - a % b ≤ a % b then a / b + 1 else a / b
theorem round_range {a b : Int} (hb : 0 < b) (hb2 : b ≤ 4294967296) (h1 : -4611686018427387904 ≤ a ∧ a ≤ 4611686018427387904) : (-4611686018427387904 ≤ a / b ∧ a / b ≤ 4611686018427387904) ∧ -4611686018427387905 ≤ roundZ a b ∧ roundZ a b ≤ 4611686018427387905 := by
  have h3 := Int.mul_ediv_add_emod a b
  have h4 := Int.emod_nonneg a (show b ≠ 0 by omega)
  have h5 := Int.emod_lt_of_pos a hb
  have k1 : -4611686018427387904 ≤ a / b := (Int.le_ediv_iff_mul_le hb).2 (by
      have : (-4611686018427387904 : Int) * b ≤ -4611686018427387904 * 1 := Int.mul_le_mul_of_nonpos_left (by omega) (by omega)
      omega)
  have k2 : a / b ≤ 4611686018427387904 := by
    by_cases q : 0 ≤ a
    · have := Int.ediv_le_self b q; omega
    · have : a / b < 0 := Int.ediv_neg_of_neg_of_pos (by omega) hb
      omega
  refine ⟨⟨k1, k2⟩, ?_⟩
  unfold roundZ
  split <;> omega
def rdD (a b : Int) : D := .tup [.int .i64 (roundZ a b), .int .i64 0]
theorem nround_ok (a b : Int) (hb : 0 < b) (hb2 : b ≤ 4294967296) (h1 : -4611686018427387904 ≤ a ∧ a ≤ 4611686018427387904) : PC Tryz.prog 71 [.int .i64 a, .int .i64 b] (.p (rdD a b)) := by
  have c1 := nfloor_ok a b hb (by omega) (by omega)
  have h3 := Int.mul_ediv_add_emod a b
  have h4 := Int.emod_nonneg a (show b ≠ 0 by omega)
  have h5 := Int.emod_lt_of_pos a hb
  obtain ⟨⟨r1, r2⟩, _, _⟩ := round_range hb hb2 h1
  have hz : roundZ a b = if b - a % b ≤ a % b then a / b + 1 else a / b := rfl
  unfold flD at c1
  unfold rdD
  generalize a / b = z at *
  generalize a % b = r at *
  have e1 := wrap_i64 (n := z * b) (by rw [Int.mul_comm]; omega) (by rw [Int.mul_comm]; omega)
  have e2 : IntKind.i64.wrap (a - z * b) = r := by rw [Int.mul_comm, wrap_i64 (by omega) (by omega)]; omega
  have e3 := wrap_i64 (n := b - r) (by omega) (by omega)
  have n1 : decide (0 < b) = true := by simp; omega
  have n2 : decide (b < 0) = false := by simp; omega
  refine pc_of_awp cx (fn := Tryz.f71) (c := _) Tryz.func71 rfl rfl (Nat.le_of_ble_eq_true rfl) ?_
  rw [Tryz.ntmps71]; refine Nav.imp ?_
  refine awp_region cx [] fun K hK => ?_
  simp [push_cast]
  repeat (refine And.intro (by clear hK; intros; first | omega | (simp_all; done) | (simp_all <;> omega)) ?_)
  refine hK _ ?_; clear hK K; refine Nav.imp ?_
  refine awp_region cx [(2, .p (.tup [.int .i64 z, .int .i64 0]))] fun K hK => ?_
  simp [push_cast, c1]
  repeat (refine And.intro (by clear hK; intros; first | omega | (simp_all; done) | (simp_all <;> omega)) ?_)
  refine hK _ ?_; clear hK K; refine Nav.imp ?_
  refine awp_region cx [] fun K hK => ?_
  simp [push_cast]
  repeat (refine And.intro (by clear hK; intros; first | omega | (simp_all; done) | (simp_all <;> omega)) ?_)
  refine hK _ ?_; clear hK K; refine Nav.imp ?_
  refine awp_cond (b := false) (by simp [push_cast]) (fun hb => ?_) (fun hb => ?_) <;> (refine Nav.imp ?_)
  · simp at hb
  · refine awp_region cx [] fun K hK => ?_
    simp [push_cast, e1, e2]
    repeat (refine And.intro (by clear hK; intros; first | omega | (simp_all; done) | (simp_all <;> omega)) ?_)
    refine hK _ ?_; clear hK K; refine Nav.imp ?_
    refine awp_region cx [] fun K hK => ?_
    simp [push_cast, e3, n1, n2]
    repeat (refine And.intro (by clear hK; intros; first | omega | (simp_all; done) | (simp_all <;> omega)) ?_)
    refine hK _ ?_; clear hK K; refine Nav.imp ?_
    by_cases q : b - r ≤ r
    · have e4 := wrap_i64 (n := z + 1) (by omega) (by omega)
      rw [if_pos q] at hz
      refine awp_cond (b := true) (by simp [push_cast, q, n1, n2]) (fun hb => ?_) (fun hb => ?_) <;> (refine Nav.imp ?_)
      · refine awp_region cx [] fun K hK => ?_
        simp [push_cast, e4]
        repeat (refine And.intro (by clear hK; intros; first | omega | (simp_all; done) | (simp_all <;> omega)) ?_)
        refine hK _ ?_; clear hK K; refine Nav.imp ?_
        refine awp_region cx [] fun K hK => ?_
        simp [push_cast]
        repeat (refine And.intro (by clear hK; intros; first | omega | (simp_all; done) | (simp_all <;> omega)) ?_)
        refine hK _ ?_; clear hK K; refine Nav.imp ?_
        simp [push_cast, hz]
      · simp at hb
    · rw [if_neg q] at hz
      refine awp_cond (b := false) (by simp [push_cast, q, n1, n2]) (fun hb => ?_) (fun hb => ?_) <;> (refine Nav.imp ?_)
      · simp at hb
      · refine awp_region cx [] fun K hK => ?_
        simp [push_cast]
        repeat (refine And.intro (by clear hK; intros; first | omega | (simp_all; done) | (simp_all <;> omega)) ?_)
        refine hK _ ?_; clear hK K; refine Nav.imp ?_
        simp [push_cast, hz]
end Go.Proofs.YtlfbjflfbjkbeaaGreat

namespace Go.Proofs.YtlfbjflfbjkbeaaGreat
open Go.Abs

def unitZ (m : Mach) (k : Nat) (n : Int) : Int := roundZ (n * (m.ax k).den) (m.ax k).num
def unitB (m : Mach) (n : Int) : Bool := machB m && withB n 70368744177664
def unitD (m : Mach) (k : Nat) (n : Int) : D := if unitB m n then .tup [.int .i64 (unitZ m k n), .int .i64 0] else .tup [.int .i64 0, .int .i64 1]
theorem unit_facts {m : Mach} {k : Nat} {n : Int} (h : machB m = true) (hk : k < 4) (hn : withB n 70368744177664 = true) : (0 < (m.ax k).num ∧ (m.ax k).num ≤ 65536) ∧ (-4611686018427387904 ≤ n * (m.ax k).den ∧ n * (m.ax k).den ≤ 4611686018427387904) := by
  have h1 := (machB_iff.1 h).1 k hk
  generalize m.ax k = a at *
  simp [axB, fromB, withB] at h1 hn
  obtain ⟨⟨⟨⟨⟨⟨⟨⟨a1, a2⟩, b1, b2⟩, _⟩, _⟩, _⟩, _⟩, _⟩, _⟩ := h1
  refine ⟨by omega, ?_, ?_⟩
  · have k1 : -70368744177664 * a.den ≤ n * a.den := Int.mul_le_mul_of_nonneg_right hn.1 (by omega)
    omega
  · have k1 : n * a.den ≤ 70368744177664 * a.den := Int.mul_le_mul_of_nonneg_right hn.2 (by omega)
    omega
theorem units_ok0 (m : Mach) (n : Int) : PC Tryz.prog 60 [.agg m.row, .int .i64 0, .int .i64 n] (.p (unitD m 0 n)) := by
  have c1 := kvalid_ok m
  have c2 := kwithin_ok n 70368744177664 (by omega)
  unfold unitD unitB unitZ
  cases hm : machB m with
  | false =>
    rw [hm] at c1
    refine pc_of_awp cx (fn := Tryz.f60) (c := _) Tryz.func60 rfl rfl (Nat.le_of_ble_eq_true rfl) ?_
    rw [Tryz.ntmps60]; refine Nav.imp ?_
    refine awp_region cx [] fun K hK => ?_
    simp [push_cast]
    repeat (refine And.intro (by clear hK; intros; first | omega | (simp_all; done) | (simp_all <;> omega)) ?_)
    refine hK _ ?_; clear hK K; refine Nav.imp ?_
    refine awp_region cx [(1, .p (.bool false)), (13, .skip)] fun K hK => ?_
    simp [push_cast, c1]
    repeat (refine And.intro (by clear hK; intros; first | omega | (simp_all; done) | (simp_all <;> omega)) ?_)
    refine hK _ ?_; clear hK K; refine Nav.imp ?_
    refine awp_cond (b := true) (by simp [push_cast]) (fun hb => ?_) (fun hb => ?_) <;> (refine Nav.imp ?_)
    · refine awp_region cx [] fun K hK => ?_
      simp [push_cast]
      repeat (refine And.intro (by clear hK; intros; first | omega | (simp_all; done) | (simp_all <;> omega)) ?_)
      refine hK _ ?_; clear hK K; refine Nav.imp ?_
      simp [push_cast]
    · simp at hb
  | true =>
    rw [hm] at c1
    cases hn : withB n 70368744177664 with
    | false =>
      rw [hn] at c2
      refine pc_of_awp cx (fn := Tryz.f60) (c := _) Tryz.func60 rfl rfl (Nat.le_of_ble_eq_true rfl) ?_
      rw [Tryz.ntmps60]; refine Nav.imp ?_
      refine awp_region cx [] fun K hK => ?_
      simp [push_cast]
      repeat (refine And.intro (by clear hK; intros; first | omega | (simp_all; done) | (simp_all <;> omega)) ?_)
      refine hK _ ?_; clear hK K; refine Nav.imp ?_
      refine awp_region cx [(1, .p (.bool true)), (13, .p (.bool false))] fun K hK => ?_
      simp [push_cast, c1, c2]
      repeat (refine And.intro (by clear hK; intros; first | omega | (simp_all; done) | (simp_all <;> omega)) ?_)
      refine hK _ ?_; clear hK K; refine Nav.imp ?_
      refine awp_cond (b := true) (by simp [push_cast]) (fun hb => ?_) (fun hb => ?_) <;> (refine Nav.imp ?_)
      · refine awp_region cx [] fun K hK => ?_
        simp [push_cast]
        repeat (refine And.intro (by clear hK; intros; first | omega | (simp_all; done) | (simp_all <;> omega)) ?_)
        refine hK _ ?_; clear hK K; refine Nav.imp ?_
        simp [push_cast]
      · simp at hb
    | true =>
      rw [hn] at c2
      obtain ⟨⟨f1, f2⟩, f3, f4⟩ := unit_facts hm (show 0 < 4 by omega) hn
      have c3 := nround_ok _ _ f1 (by omega) ⟨f3, f4⟩
      unfold rdD at c3
      have e1 := wrap_i64 (n := n * (m.ax 0).den) (by omega) (by omega)
      generalize hz : roundZ (n * (m.ax 0).den) (m.ax 0).num = z at *
      clear hz
      simp only [Mach.ax] at c3 e1 f1 f2 f3 f4
      refine pc_of_awp cx (fn := Tryz.f60) (c := _) Tryz.func60 rfl rfl (Nat.le_of_ble_eq_true rfl) ?_
      rw [Tryz.ntmps60]; refine Nav.imp ?_
      refine awp_region cx [] fun K hK => ?_
      simp [push_cast]
      repeat (refine And.intro (by clear hK; intros; first | omega | (simp_all; done) | (simp_all <;> omega)) ?_)
      refine hK _ ?_; clear hK K; refine Nav.imp ?_
      refine awp_region cx [(1, .p (.bool true)), (13, .p (.bool true))] fun K hK => ?_
      simp [push_cast, c1, c2]
      repeat (refine And.intro (by clear hK; intros; first | omega | (simp_all; done) | (simp_all <;> omega)) ?_)
      refine hK _ ?_; clear hK K; refine Nav.imp ?_
      refine awp_cond (b := false) (by simp [push_cast]) (fun hb => ?_) (fun hb => ?_) <;> (refine Nav.imp ?_)
      · simp at hb
      · refine awp_region_draw cx mixed [(12, .p (.tup [.int .i64 z, .int .i64 0]))] fun K hK => ?_
        simp [push_cast, c3, e1]
        repeat (refine And.intro (by clear hK; intros; first | omega | (simp_all; done) | (simp_all <;> omega)) ?_)
        refine hK _ _ (by kernel_rfl) ?_; clear hK K; refine Nav.imp ?_
        simp [push_cast]
theorem units_ok1 (m : Mach) (n : Int) : PC Tryz.prog 60 [.agg m.row, .int .i64 1, .int .i64 n] (.p (unitD m 1 n)) := by
  have c1 := kvalid_ok m
  have c2 := kwithin_ok n 70368744177664 (by omega)
  unfold unitD unitB unitZ
  cases hm : machB m with
  | false =>
    rw [hm] at c1
    refine pc_of_awp cx (fn := Tryz.f60) (c := _) Tryz.func60 rfl rfl (Nat.le_of_ble_eq_true rfl) ?_
    rw [Tryz.ntmps60]; refine Nav.imp ?_
    refine awp_region cx [] fun K hK => ?_
    simp [push_cast]
    repeat (refine And.intro (by clear hK; intros; first | omega | (simp_all; done) | (simp_all <;> omega)) ?_)
    refine hK _ ?_; clear hK K; refine Nav.imp ?_
    refine awp_region cx [(1, .p (.bool false)), (13, .skip)] fun K hK => ?_
    simp [push_cast, c1]
    repeat (refine And.intro (by clear hK; intros; first | omega | (simp_all; done) | (simp_all <;> omega)) ?_)
    refine hK _ ?_; clear hK K; refine Nav.imp ?_
    refine awp_cond (b := true) (by simp [push_cast]) (fun hb => ?_) (fun hb => ?_) <;> (refine Nav.imp ?_)
    · refine awp_region cx [] fun K hK => ?_
      simp [push_cast]
      repeat (refine And.intro (by clear hK; intros; first | omega | (simp_all; done) | (simp_all <;> omega)) ?_)
      refine hK _ ?_; clear hK K; refine Nav.imp ?_
      simp [push_cast]
    · simp at hb
  | true =>
    rw [hm] at c1
    cases hn : withB n 70368744177664 with
    | false =>
      rw [hn] at c2
      refine pc_of_awp cx (fn := Tryz.f60) (c := _) Tryz.func60 rfl rfl (Nat.le_of_ble_eq_true rfl) ?_
      rw [Tryz.ntmps60]; refine Nav.imp ?_
      refine awp_region cx [] fun K hK => ?_
      simp [push_cast]
      repeat (refine And.intro (by clear hK; intros; first | omega | (simp_all; done) | (simp_all <;> omega)) ?_)
      refine hK _ ?_; clear hK K; refine Nav.imp ?_
      refine awp_region cx [(1, .p (.bool true)), (13, .p (.bool false))] fun K hK => ?_
      simp [push_cast, c1, c2]
      repeat (refine And.intro (by clear hK; intros; first | omega | (simp_all; done) | (simp_all <;> omega)) ?_)
      refine hK _ ?_; clear hK K; refine Nav.imp ?_
      refine awp_cond (b := true) (by simp [push_cast]) (fun hb => ?_) (fun hb => ?_) <;> (refine Nav.imp ?_)
      · refine awp_region cx [] fun K hK => ?_
        simp [push_cast]
        repeat (refine And.intro (by clear hK; intros; first | omega | (simp_all; done) | (simp_all <;> omega)) ?_)
        refine hK _ ?_; clear hK K; refine Nav.imp ?_
        simp [push_cast]
      · simp at hb
    | true =>
      rw [hn] at c2
      obtain ⟨⟨f1, f2⟩, f3, f4⟩ := unit_facts hm (show 1 < 4 by omega) hn
      have c3 := nround_ok _ _ f1 (by omega) ⟨f3, f4⟩
      unfold rdD at c3
      have e1 := wrap_i64 (n := n * (m.ax 1).den) (by omega) (by omega)
      generalize hz : roundZ (n * (m.ax 1).den) (m.ax 1).num = z at *
      clear hz
      simp only [Mach.ax] at c3 e1 f1 f2 f3 f4
      refine pc_of_awp cx (fn := Tryz.f60) (c := _) Tryz.func60 rfl rfl (Nat.le_of_ble_eq_true rfl) ?_
      rw [Tryz.ntmps60]; refine Nav.imp ?_
      refine awp_region cx [] fun K hK => ?_
      simp [push_cast]
      repeat (refine And.intro (by clear hK; intros; first | omega | (simp_all; done) | (simp_all <;> omega)) ?_)
      refine hK _ ?_; clear hK K; refine Nav.imp ?_
      refine awp_region cx [(1, .p (.bool true)), (13, .p (.bool true))] fun K hK => ?_
      simp [push_cast, c1, c2]
      repeat (refine And.intro (by clear hK; intros; first | omega | (simp_all; done) | (simp_all <;> omega)) ?_)
      refine hK _ ?_; clear hK K; refine Nav.imp ?_
      refine awp_cond (b := false) (by simp [push_cast]) (fun hb => ?_) (fun hb => ?_) <;> (refine Nav.imp ?_)
      · simp at hb
      · refine awp_region_draw cx mixed [(12, .p (.tup [.int .i64 z, .int .i64 0]))] fun K hK => ?_
        simp [push_cast, c3, e1]
        repeat (refine And.intro (by clear hK; intros; first | omega | (simp_all; done) | (simp_all <;> omega)) ?_)
        refine hK _ _ (by kernel_rfl) ?_; clear hK K; refine Nav.imp ?_
        simp [push_cast]
theorem units_ok2 (m : Mach) (n : Int) : PC Tryz.prog 60 [.agg m.row, .int .i64 2, .int .i64 n] (.p (unitD m 2 n)) := by
  have c1 := kvalid_ok m
  have c2 := kwithin_ok n 70368744177664 (by omega)
  unfold unitD unitB unitZ
  cases hm : machB m with
  | false =>
    rw [hm] at c1
    refine pc_of_awp cx (fn := Tryz.f60) (c := _) Tryz.func60 rfl rfl (Nat.le_of_ble_eq_true rfl) ?_
    rw [Tryz.ntmps60]; refine Nav.imp ?_
    refine awp_region cx [] fun K hK => ?_
    simp [push_cast]
    repeat (refine And.intro (by clear hK; intros; first | omega | (simp_all; done) | (simp_all <;> omega)) ?_)
    refine hK _ ?_; clear hK K; refine Nav.imp ?_
    refine awp_region cx [(1, .p (.bool false)), (13, .skip)] fun K hK => ?_
    simp [push_cast, c1]
    repeat (refine And.intro (by clear hK; intros; first | omega | (simp_all; done) | (simp_all <;> omega)) ?_)
    refine hK _ ?_; clear hK K; refine Nav.imp ?_
    refine awp_cond (b := true) (by simp [push_cast]) (fun hb => ?_) (fun hb => ?_) <;> (refine Nav.imp ?_)
    · refine awp_region cx [] fun K hK => ?_
      simp [push_cast]
      repeat (refine And.intro (by clear hK; intros; first | omega | (simp_all; done) | (simp_all <;> omega)) ?_)
      refine hK _ ?_; clear hK K; refine Nav.imp ?_
      simp [push_cast]
    · simp at hb
  | true =>
    rw [hm] at c1
    cases hn : withB n 70368744177664 with
    | false =>
      rw [hn] at c2
      refine pc_of_awp cx (fn := Tryz.f60) (c := _) Tryz.func60 rfl rfl (Nat.le_of_ble_eq_true rfl) ?_
      rw [Tryz.ntmps60]; refine Nav.imp ?_
      refine awp_region cx [] fun K hK => ?_
      simp [push_cast]
      repeat (refine And.intro (by clear hK; intros; first | omega | (simp_all; done) | (simp_all <;> omega)) ?_)
      refine hK _ ?_; clear hK K; refine Nav.imp ?_
      refine awp_region cx [(1, .p (.bool true)), (13, .p (.bool false))] fun K hK => ?_
      simp [push_cast, c1, c2]
      repeat (refine And.intro (by clear hK; intros; first | omega | (simp_all; done) | (simp_all <;> omega)) ?_)
      refine hK _ ?_; clear hK K; refine Nav.imp ?_
      refine awp_cond (b := true) (by simp [push_cast]) (fun hb => ?_) (fun hb => ?_) <;> (refine Nav.imp ?_)
      · refine awp_region cx [] fun K hK => ?_
        simp [push_cast]
        repeat (refine And.intro (by clear hK; intros; first | omega | (simp_all; done) | (simp_all <;> omega)) ?_)
        refine hK _ ?_; clear hK K; refine Nav.imp ?_
        simp [push_cast]
      · simp at hb
    | true =>
      rw [hn] at c2
      obtain ⟨⟨f1, f2⟩, f3, f4⟩ := unit_facts hm (show 2 < 4 by omega) hn
      have c3 := nround_ok _ _ f1 (by omega) ⟨f3, f4⟩
      unfold rdD at c3
      have e1 := wrap_i64 (n := n * (m.ax 2).den) (by omega) (by omega)
      generalize hz : roundZ (n * (m.ax 2).den) (m.ax 2).num = z at *
      clear hz
      simp only [Mach.ax] at c3 e1 f1 f2 f3 f4
      refine pc_of_awp cx (fn := Tryz.f60) (c := _) Tryz.func60 rfl rfl (Nat.le_of_ble_eq_true rfl) ?_
      rw [Tryz.ntmps60]; refine Nav.imp ?_
      refine awp_region cx [] fun K hK => ?_
      simp [push_cast]
      repeat (refine And.intro (by clear hK; intros; first | omega | (simp_all; done) | (simp_all <;> omega)) ?_)
      refine hK _ ?_; clear hK K; refine Nav.imp ?_
      refine awp_region cx [(1, .p (.bool true)), (13, .p (.bool true))] fun K hK => ?_
      simp [push_cast, c1, c2]
      repeat (refine And.intro (by clear hK; intros; first | omega | (simp_all; done) | (simp_all <;> omega)) ?_)
      refine hK _ ?_; clear hK K; refine Nav.imp ?_
      refine awp_cond (b := false) (by simp [push_cast]) (fun hb => ?_) (fun hb => ?_) <;> (refine Nav.imp ?_)
      · simp at hb
      · refine awp_region_draw cx mixed [(12, .p (.tup [.int .i64 z, .int .i64 0]))] fun K hK => ?_
        simp [push_cast, c3, e1]
        repeat (refine And.intro (by clear hK; intros; first | omega | (simp_all; done) | (simp_all <;> omega)) ?_)
        refine hK _ _ (by kernel_rfl) ?_; clear hK K; refine Nav.imp ?_
        simp [push_cast]
theorem units_ok3 (m : Mach) (n : Int) : PC Tryz.prog 60 [.agg m.row, .int .i64 3, .int .i64 n] (.p (unitD m 3 n)) := by
  have c1 := kvalid_ok m
  have c2 := kwithin_ok n 70368744177664 (by omega)
  unfold unitD unitB unitZ
  cases hm : machB m with
  | false =>
    rw [hm] at c1
    refine pc_of_awp cx (fn := Tryz.f60) (c := _) Tryz.func60 rfl rfl (Nat.le_of_ble_eq_true rfl) ?_
    rw [Tryz.ntmps60]; refine Nav.imp ?_
    refine awp_region cx [] fun K hK => ?_
    simp [push_cast]
    repeat (refine And.intro (by clear hK; intros; first | omega | (simp_all; done) | (simp_all <;> omega)) ?_)
    refine hK _ ?_; clear hK K; refine Nav.imp ?_
    refine awp_region cx [(1, .p (.bool false)), (13, .skip)] fun K hK => ?_
    simp [push_cast, c1]
    repeat (refine And.intro (by clear hK; intros; first | omega | (simp_all; done) | (simp_all <;> omega)) ?_)
    refine hK _ ?_; clear hK K; refine Nav.imp ?_
    refine awp_cond (b := true) (by simp [push_cast]) (fun hb => ?_) (fun hb => ?_) <;> (refine Nav.imp ?_)
    · refine awp_region cx [] fun K hK => ?_
      simp [push_cast]
      repeat (refine And.intro (by clear hK; intros; first | omega | (simp_all; done) | (simp_all <;> omega)) ?_)
      refine hK _ ?_; clear hK K; refine Nav.imp ?_
      simp [push_cast]
    · simp at hb
  | true =>
    rw [hm] at c1
    cases hn : withB n 70368744177664 with
    | false =>
      rw [hn] at c2
      refine pc_of_awp cx (fn := Tryz.f60) (c := _) Tryz.func60 rfl rfl (Nat.le_of_ble_eq_true rfl) ?_
      rw [Tryz.ntmps60]; refine Nav.imp ?_
      refine awp_region cx [] fun K hK => ?_
      simp [push_cast]
      repeat (refine And.intro (by clear hK; intros; first | omega | (simp_all; done) | (simp_all <;> omega)) ?_)
      refine hK _ ?_; clear hK K; refine Nav.imp ?_
      refine awp_region cx [(1, .p (.bool true)), (13, .p (.bool false))] fun K hK => ?_
      simp [push_cast, c1, c2]
      repeat (refine And.intro (by clear hK; intros; first | omega | (simp_all; done) | (simp_all <;> omega)) ?_)
      refine hK _ ?_; clear hK K; refine Nav.imp ?_
      refine awp_cond (b := true) (by simp [push_cast]) (fun hb => ?_) (fun hb => ?_) <;> (refine Nav.imp ?_)
      · refine awp_region cx [] fun K hK => ?_
        simp [push_cast]
        repeat (refine And.intro (by clear hK; intros; first | omega | (simp_all; done) | (simp_all <;> omega)) ?_)
        refine hK _ ?_; clear hK K; refine Nav.imp ?_
        simp [push_cast]
      · simp at hb
    | true =>
      rw [hn] at c2
      obtain ⟨⟨f1, f2⟩, f3, f4⟩ := unit_facts hm (show 3 < 4 by omega) hn
      have c3 := nround_ok _ _ f1 (by omega) ⟨f3, f4⟩
      unfold rdD at c3
      have e1 := wrap_i64 (n := n * (m.ax 3).den) (by omega) (by omega)
      generalize hz : roundZ (n * (m.ax 3).den) (m.ax 3).num = z at *
      clear hz
      simp only [Mach.ax] at c3 e1 f1 f2 f3 f4
      refine pc_of_awp cx (fn := Tryz.f60) (c := _) Tryz.func60 rfl rfl (Nat.le_of_ble_eq_true rfl) ?_
      rw [Tryz.ntmps60]; refine Nav.imp ?_
      refine awp_region cx [] fun K hK => ?_
      simp [push_cast]
      repeat (refine And.intro (by clear hK; intros; first | omega | (simp_all; done) | (simp_all <;> omega)) ?_)
      refine hK _ ?_; clear hK K; refine Nav.imp ?_
      refine awp_region cx [(1, .p (.bool true)), (13, .p (.bool true))] fun K hK => ?_
      simp [push_cast, c1, c2]
      repeat (refine And.intro (by clear hK; intros; first | omega | (simp_all; done) | (simp_all <;> omega)) ?_)
      refine hK _ ?_; clear hK K; refine Nav.imp ?_
      refine awp_cond (b := false) (by simp [push_cast]) (fun hb => ?_) (fun hb => ?_) <;> (refine Nav.imp ?_)
      · simp at hb
      · refine awp_region_draw cx mixed [(12, .p (.tup [.int .i64 z, .int .i64 0]))] fun K hK => ?_
        simp [push_cast, c3, e1]
        repeat (refine And.intro (by clear hK; intros; first | omega | (simp_all; done) | (simp_all <;> omega)) ?_)
        refine hK _ _ (by kernel_rfl) ?_; clear hK K; refine Nav.imp ?_
        simp [push_cast]
structure Pos where
  p : Int
  q : Int
  r : Int
  s : Int
abbrev Pos.row (x : Pos) : List D := [.int .i64 x.p, .int .i64 x.q, .int .i64 x.r, .int .i64 x.s]
def Pos.at (x : Pos) : Nat → Int
  | 0 => x.p
  | 1 => x.q
  | 2 => x.r
  | _ => x.s
def posB (x : Pos) : Bool := withB x.p 281474976710656 && withB x.q 281474976710656 && withB x.r 281474976710656 && withB x.s 281474976710656
theorem posB_iff {x : Pos} : posB x = true ↔ ∀ j < 4, withB (x.at j) 281474976710656 = true := by
  constructor
  · intro h j hj
    simp only [posB, Bool.and_eq_true] at h
    rcases (show j = 0 ∨ j = 1 ∨ j = 2 ∨ j = 3 by omega) with rfl | rfl | rfl | rfl <;> simp [Pos.at, h]
  · intro h
    have h0 := h 0 (by omega)
    have h1 := h 1 (by omega)
    have h3 := h 2 (by omega)
    have h4 := h 3 (by omega)
    simp only [Pos.at] at h0 h1 h3 h4
    simp [posB, h0, h1, h3, h4]
def corePos (m : Mach) (x : Pos) : Pos := if m.xy then ⟨(x.p + x.q) / 2, (x.p - x.q) / 2, x.r, x.s⟩ else x
def uniB (m : Mach) (x : Pos) : Bool := unitB m x.p && unitB m x.q && unitB m x.r && unitB m x.s
def vecD (m : Mach) (x : Pos) : D := .tup [.agg [.int .i64 (unitZ m 0 x.p), .int .i64 (unitZ m 1 x.q), .int .i64 (unitZ m 2 x.r)], .int .i64 (unitZ m 3 x.s), .int .i64 0]
def vecN : D := .tup [.agg [.int .i64 0, .int .i64 0, .int .i64 0], .int .i64 0, .int .i64 1]
def positionD (m : Mach) (x : Pos) : D := if posB x then (if uniB m (corePos m x) then vecD m (corePos m x) else vecN) else vecN
end Go.Proofs.YtlfbjflfbjkbeaaGreat

namespace Go.Proofs.YtlfbjflfbjkbeaaGreat
open Go.Abs

theorem uniB_at {m : Mach} {y : Pos} : uniB m y = true ↔ ∀ j < 4, unitB m (y.at j) = true := by
  constructor
  · intro h j hj
    simp only [uniB, Bool.and_eq_true] at h
    rcases (show j = 0 ∨ j = 1 ∨ j = 2 ∨ j = 3 by omega) with rfl | rfl | rfl | rfl <;> simp [Pos.at, h]
  · intro h
    have h0 := h 0 (by omega)
    have h1 := h 1 (by omega)
    have h3 := h 2 (by omega)
    have h4 := h 3 (by omega)
    simp only [Pos.at] at h0 h1 h3 h4
    simp [uniB, h0, h1, h3, h4]
theorem unit_get {m : Mach} {n : Int} {k : Nat} : (unitB m n = true → unitD m k n = .tup [.int .i64 (unitZ m k n), .int .i64 0]) ∧ (unitB m n = false → unitD m k n = .tup [.int .i64 0, .int .i64 1]) := by
  constructor <;> intro h <;> simp [unitD, h]
set_option maxHeartbeats 4000000 in
theorem position_ok (m : Mach) (x : Pos) : PC Tryz.prog 40 [.agg m.row, .agg x.row] (.p (positionD m x)) := by
  have f1 : posB x = false → positionD m x = vecN := fun h => by simp [positionD, h]
  have f2 : posB x = true → uniB m (corePos m x) = false → positionD m x = vecN := fun h h2 => by simp [positionD, h, h2]
  have f3 : posB x = true → uniB m (corePos m x) = true → positionD m x = vecD m (corePos m x) := fun h h2 => by simp [positionD, h, h2]
  have hp := @posB_iff x
  generalize positionD m x = res at *
  generalize posB x = pb at *
  refine pc_of_awp cx (fn := Tryz.f40) (c := _) Tryz.func40 rfl rfl (Nat.le_of_ble_eq_true rfl) ?_
  rw [Tryz.ntmps40]; refine Nav.imp ?_
  refine awp_region cx [] fun K hK => ?_
  simp [push_cast]
  repeat (refine And.intro (by clear hK; intros; first | omega | (simp_all; done) | (simp_all <;> omega)) ?_)
  refine hK _ ?_; clear hK K; refine Nav.imp ?_
  refine awp_region cx [] fun K hK => ?_
  simp [push_cast]
  repeat (refine And.intro (by clear hK; intros; first | omega | (simp_all; done) | (simp_all <;> omega)) ?_)
  refine hK _ ?_; clear hK K; refine Nav.imp ?_
  refine awp_loop (β := Nat) (fun i => ⟨81, [(2, .ptr 0 0 0), (3, .ptr 1 0 0), (4, .ptr 2 0 0), (18, .d (.agg x.row)), (19, .d (.int .i64 i))], [(0, some ⟨35, 30, [m.row.map .d]⟩), (1, some ⟨22, 4, [x.row.map .d]⟩), (2, some ⟨78, 3, [[.d (.int .i64 0), .d (.int .i64 0), .d (.int .i64 0)]]⟩)], 3⟩) (fun i => i ≤ 4 ∧ ∀ j < i, withB (x.at j) 281474976710656 = true) (fun i => 4 - i) 0 ?_ ⟨Nat.zero_le _, by simp⟩ ?_
  · refine weak_of [(0, some 0), (1, some 1), (2, some 2)] rfl (by simp [upT, up, upL, push_cast]) (by simp [upH, upR, upL, up, push_cast]) (by simp [namesOk, push_cast]) (by simp [olds])
  · rintro i ⟨hi, hall⟩
    rcases (show i = 0 ∨ i = 1 ∨ i = 2 ∨ i = 3 ∨ i = 4 by omega) with rfl | rfl | rfl | rfl | rfl
    · refine Nav.imp ?_
      refine awp_region cx [] fun K hK => ?_
      simp [push_cast]
      repeat (refine And.intro (by clear hK; intros; first | omega | (simp_all; done) | (simp_all <;> omega)) ?_)
      refine hK _ ?_; clear hK K; refine Nav.imp ?_
      refine awp_cond (b := true) (by simp [push_cast]) (fun hb => ?_) (fun hb => ?_) <;> (refine Nav.imp ?_)
      · refine awp_region cx [] fun K hK => ?_
        simp [push_cast]
        repeat (refine And.intro (by clear hK; intros; first | omega | (simp_all; done) | (simp_all <;> omega)) ?_)
        refine hK _ ?_; clear hK K; refine Nav.imp ?_
        have c1 := kwithin_ok x.p 281474976710656 (by omega)
        cases hw : withB x.p 281474976710656 with
        | false =>
          have hf : pb = false := by
            cases pb
            · rfl
            · have := hp.1 rfl 0 (by omega)
              simp only [Pos.at] at this
              rw [this] at hw; cases hw
          rw [hw] at c1
          rw [f1 hf]
          refine awp_region cx [(1, .p (.bool false))] fun K hK => ?_
          simp [push_cast, c1]
          repeat (refine And.intro (by clear hK; intros; first | omega | (simp_all; done) | (simp_all <;> omega)) ?_)
          refine hK _ ?_; clear hK K; refine Nav.imp ?_
          refine awp_cond (b := true) (by simp [push_cast]) (fun hb => ?_) (fun hb => ?_) <;> (refine Nav.imp ?_)
          · refine awp_region cx [] fun K hK => ?_
            simp [push_cast]
            repeat (refine And.intro (by clear hK; intros; first | omega | (simp_all; done) | (simp_all <;> omega)) ?_)
            refine hK _ ?_; clear hK K; refine Nav.imp ?_
            simp [push_cast, vecN]
          · simp at hb
        | true =>
          rw [hw] at c1
          refine awp_region cx [(1, .p (.bool true))] fun K hK => ?_
          simp [push_cast, c1]
          repeat (refine And.intro (by clear hK; intros; first | omega | (simp_all; done) | (simp_all <;> omega)) ?_)
          refine hK _ ?_; clear hK K; refine Nav.imp ?_
          refine awp_cond (b := false) (by simp [push_cast]) (fun hb => ?_) (fun hb => ?_) <;> (refine Nav.imp ?_)
          · simp at hb
          · have w3 : IntKind.i64.wrap 3 = 3 := by decide
            have w4 : IntKind.i64.wrap 4 = 4 := by decide
            refine awp_region cx [] fun K hK => ?_
            simp [push_cast, w3, w4]
            repeat (refine And.intro (by clear hK; intros; first | omega | (simp_all; done) | (simp_all <;> omega)) ?_)
            refine hK _ ?_; clear hK K; refine Nav.imp ?_
            refine ⟨1, ⟨by omega, fun j hj => ?_⟩, by omega, ?_⟩
            · by_cases e : j < 0
              · exact hall j e
              · have : j = 0 := by omega
                subst this
                simpa [Pos.at] using hw
            · refine weak_of [(0, some 0), (1, some 1), (2, some 2)] rfl (by simp [upT, up, upL, push_cast]) (by simp [upH, upR, upL, up, push_cast]) (by simp [namesOk, push_cast]) (by simp [olds])
      · simp at hb
    · refine Nav.imp ?_
      refine awp_region cx [] fun K hK => ?_
      simp [push_cast]
      repeat (refine And.intro (by clear hK; intros; first | omega | (simp_all; done) | (simp_all <;> omega)) ?_)
      refine hK _ ?_; clear hK K; refine Nav.imp ?_
      refine awp_cond (b := true) (by simp [push_cast]) (fun hb => ?_) (fun hb => ?_) <;> (refine Nav.imp ?_)
      · refine awp_region cx [] fun K hK => ?_
        simp [push_cast]
        repeat (refine And.intro (by clear hK; intros; first | omega | (simp_all; done) | (simp_all <;> omega)) ?_)
        refine hK _ ?_; clear hK K; refine Nav.imp ?_
        have c1 := kwithin_ok x.q 281474976710656 (by omega)
        cases hw : withB x.q 281474976710656 with
        | false =>
          have hf : pb = false := by
            cases pb
            · rfl
            · have := hp.1 rfl 1 (by omega)
              simp only [Pos.at] at this
              rw [this] at hw; cases hw
          rw [hw] at c1
          rw [f1 hf]
          refine awp_region cx [(1, .p (.bool false))] fun K hK => ?_
          simp [push_cast, c1]
          repeat (refine And.intro (by clear hK; intros; first | omega | (simp_all; done) | (simp_all <;> omega)) ?_)
          refine hK _ ?_; clear hK K; refine Nav.imp ?_
          refine awp_cond (b := true) (by simp [push_cast]) (fun hb => ?_) (fun hb => ?_) <;> (refine Nav.imp ?_)
          · refine awp_region cx [] fun K hK => ?_
            simp [push_cast]
            repeat (refine And.intro (by clear hK; intros; first | omega | (simp_all; done) | (simp_all <;> omega)) ?_)
            refine hK _ ?_; clear hK K; refine Nav.imp ?_
            simp [push_cast, vecN]
          · simp at hb
        | true =>
          rw [hw] at c1
          refine awp_region cx [(1, .p (.bool true))] fun K hK => ?_
          simp [push_cast, c1]
          repeat (refine And.intro (by clear hK; intros; first | omega | (simp_all; done) | (simp_all <;> omega)) ?_)
          refine hK _ ?_; clear hK K; refine Nav.imp ?_
          refine awp_cond (b := false) (by simp [push_cast]) (fun hb => ?_) (fun hb => ?_) <;> (refine Nav.imp ?_)
          · simp at hb
          · have w3 : IntKind.i64.wrap 3 = 3 := by decide
            have w4 : IntKind.i64.wrap 4 = 4 := by decide
            refine awp_region cx [] fun K hK => ?_
            simp [push_cast, w3, w4]
            repeat (refine And.intro (by clear hK; intros; first | omega | (simp_all; done) | (simp_all <;> omega)) ?_)
            refine hK _ ?_; clear hK K; refine Nav.imp ?_
            refine ⟨2, ⟨by omega, fun j hj => ?_⟩, by omega, ?_⟩
            · by_cases e : j < 1
              · exact hall j e
              · have : j = 1 := by omega
                subst this
                simpa [Pos.at] using hw
            · refine weak_of [(0, some 0), (1, some 1), (2, some 2)] rfl (by simp [upT, up, upL, push_cast]) (by simp [upH, upR, upL, up, push_cast]) (by simp [namesOk, push_cast]) (by simp [olds])
      · simp at hb
    · refine Nav.imp ?_
      refine awp_region cx [] fun K hK => ?_
      simp [push_cast]
      repeat (refine And.intro (by clear hK; intros; first | omega | (simp_all; done) | (simp_all <;> omega)) ?_)
      refine hK _ ?_; clear hK K; refine Nav.imp ?_
      refine awp_cond (b := true) (by simp [push_cast]) (fun hb => ?_) (fun hb => ?_) <;> (refine Nav.imp ?_)
      · refine awp_region cx [] fun K hK => ?_
        simp [push_cast]
        repeat (refine And.intro (by clear hK; intros; first | omega | (simp_all; done) | (simp_all <;> omega)) ?_)
        refine hK _ ?_; clear hK K; refine Nav.imp ?_
        have c1 := kwithin_ok x.r 281474976710656 (by omega)
        cases hw : withB x.r 281474976710656 with
        | false =>
          have hf : pb = false := by
            cases pb
            · rfl
            · have := hp.1 rfl 2 (by omega)
              simp only [Pos.at] at this
              rw [this] at hw; cases hw
          rw [hw] at c1
          rw [f1 hf]
          refine awp_region cx [(1, .p (.bool false))] fun K hK => ?_
          simp [push_cast, c1]
          repeat (refine And.intro (by clear hK; intros; first | omega | (simp_all; done) | (simp_all <;> omega)) ?_)
          refine hK _ ?_; clear hK K; refine Nav.imp ?_
          refine awp_cond (b := true) (by simp [push_cast]) (fun hb => ?_) (fun hb => ?_) <;> (refine Nav.imp ?_)
          · refine awp_region cx [] fun K hK => ?_
            simp [push_cast]
            repeat (refine And.intro (by clear hK; intros; first | omega | (simp_all; done) | (simp_all <;> omega)) ?_)
            refine hK _ ?_; clear hK K; refine Nav.imp ?_
            simp [push_cast, vecN]
          · simp at hb
        | true =>
          rw [hw] at c1
          refine awp_region cx [(1, .p (.bool true))] fun K hK => ?_
          simp [push_cast, c1]
          repeat (refine And.intro (by clear hK; intros; first | omega | (simp_all; done) | (simp_all <;> omega)) ?_)
          refine hK _ ?_; clear hK K; refine Nav.imp ?_
          refine awp_cond (b := false) (by simp [push_cast]) (fun hb => ?_) (fun hb => ?_) <;> (refine Nav.imp ?_)
          · simp at hb
          · have w3 : IntKind.i64.wrap 3 = 3 := by decide
            have w4 : IntKind.i64.wrap 4 = 4 := by decide
            refine awp_region cx [] fun K hK => ?_
            simp [push_cast, w3, w4]
            repeat (refine And.intro (by clear hK; intros; first | omega | (simp_all; done) | (simp_all <;> omega)) ?_)
            refine hK _ ?_; clear hK K; refine Nav.imp ?_
            refine ⟨3, ⟨by omega, fun j hj => ?_⟩, by omega, ?_⟩
            · by_cases e : j < 2
              · exact hall j e
              · have : j = 2 := by omega
                subst this
                simpa [Pos.at] using hw
            · refine weak_of [(0, some 0), (1, some 1), (2, some 2)] rfl (by simp [upT, up, upL, push_cast]) (by simp [upH, upR, upL, up, push_cast]) (by simp [namesOk, push_cast]) (by simp [olds])
      · simp at hb
    · refine Nav.imp ?_
      refine awp_region cx [] fun K hK => ?_
      simp [push_cast]
      repeat (refine And.intro (by clear hK; intros; first | omega | (simp_all; done) | (simp_all <;> omega)) ?_)
      refine hK _ ?_; clear hK K; refine Nav.imp ?_
      refine awp_cond (b := true) (by simp [push_cast]) (fun hb => ?_) (fun hb => ?_) <;> (refine Nav.imp ?_)
      · refine awp_region cx [] fun K hK => ?_
        simp [push_cast]
        repeat (refine And.intro (by clear hK; intros; first | omega | (simp_all; done) | (simp_all <;> omega)) ?_)
        refine hK _ ?_; clear hK K; refine Nav.imp ?_
        have c1 := kwithin_ok x.s 281474976710656 (by omega)
        cases hw : withB x.s 281474976710656 with
        | false =>
          have hf : pb = false := by
            cases pb
            · rfl
            · have := hp.1 rfl 3 (by omega)
              simp only [Pos.at] at this
              rw [this] at hw; cases hw
          rw [hw] at c1
          rw [f1 hf]
          refine awp_region cx [(1, .p (.bool false))] fun K hK => ?_
          simp [push_cast, c1]
          repeat (refine And.intro (by clear hK; intros; first | omega | (simp_all; done) | (simp_all <;> omega)) ?_)
          refine hK _ ?_; clear hK K; refine Nav.imp ?_
          refine awp_cond (b := true) (by simp [push_cast]) (fun hb => ?_) (fun hb => ?_) <;> (refine Nav.imp ?_)
          · refine awp_region cx [] fun K hK => ?_
            simp [push_cast]
            repeat (refine And.intro (by clear hK; intros; first | omega | (simp_all; done) | (simp_all <;> omega)) ?_)
            refine hK _ ?_; clear hK K; refine Nav.imp ?_
            simp [push_cast, vecN]
          · simp at hb
        | true =>
          rw [hw] at c1
          refine awp_region cx [(1, .p (.bool true))] fun K hK => ?_
          simp [push_cast, c1]
          repeat (refine And.intro (by clear hK; intros; first | omega | (simp_all; done) | (simp_all <;> omega)) ?_)
          refine hK _ ?_; clear hK K; refine Nav.imp ?_
          refine awp_cond (b := false) (by simp [push_cast]) (fun hb => ?_) (fun hb => ?_) <;> (refine Nav.imp ?_)
          · simp at hb
          · have w3 : IntKind.i64.wrap 3 = 3 := by decide
            have w4 : IntKind.i64.wrap 4 = 4 := by decide
            refine awp_region cx [] fun K hK => ?_
            simp [push_cast, w3, w4]
            repeat (refine And.intro (by clear hK; intros; first | omega | (simp_all; done) | (simp_all <;> omega)) ?_)
            refine hK _ ?_; clear hK K; refine Nav.imp ?_
            refine ⟨4, ⟨by omega, fun j hj => ?_⟩, by omega, ?_⟩
            · by_cases e : j < 3
              · exact hall j e
              · have : j = 3 := by omega
                subst this
                simpa [Pos.at] using hw
            · refine weak_of [(0, some 0), (1, some 1), (2, some 2)] rfl (by simp [upT, up, upL, push_cast]) (by simp [upH, upR, upL, up, push_cast]) (by simp [namesOk, push_cast]) (by simp [olds])
      · simp at hb
    · have hpb := hp.2 hall
      refine Nav.imp ?_
      refine awp_region cx [] fun K hK => ?_
      simp [push_cast]
      repeat (refine And.intro (by clear hK; intros; first | omega | (simp_all; done) | (simp_all <;> omega)) ?_)
      refine hK _ ?_; clear hK K; refine Nav.imp ?_
      refine awp_cond (b := false) (by simp [push_cast]) (fun hb => ?_) (fun hb => ?_) <;> (refine Nav.imp ?_)
      · simp at hb
      · refine awp_region cx [] fun K hK => ?_
        simp [push_cast]
        repeat (refine And.intro (by clear hK; intros; first | omega | (simp_all; done) | (simp_all <;> omega)) ?_)
        refine hK _ ?_; clear hK K; refine Nav.imp ?_
        cases hxy : m.xy with
        | false =>
          replace f2 := f2 hpb
          replace f3 := f3 hpb
          have hcore : corePos m x = x := by simp [corePos, hxy]
          rw [hcore] at f2 f3
          have hu := @uniB_at m x
          generalize uniB m x = ub at *
          obtain ⟨y0, y1, y2, y3⟩ := x
          refine awp_cond (b := false) (by simp [push_cast, hxy]) (fun hb => ?_) (fun hb => ?_) <;> (refine Nav.imp ?_)
          · simp at hb
          · refine awp_region cx [] fun K hK => ?_
            simp [push_cast]
            repeat (refine And.intro (by clear hK; intros; first | omega | (simp_all; done) | (simp_all <;> omega)) ?_)
            refine hK _ ?_; clear hK K; refine Nav.imp ?_
            refine awp_region cx [] fun K hK => ?_
            simp [push_cast]
            repeat (refine And.intro (by clear hK; intros; first | omega | (simp_all; done) | (simp_all <;> omega)) ?_)
            refine hK _ ?_; clear hK K; refine Nav.imp ?_
            refine awp_loop (β := Nat) (fun i => ⟨81, [(2, .ptr 0 0 0), (4, .ptr 2 0 0), (13, .ptr 3 0 0), (52, .d (.agg [.int .i64 y0, .int .i64 y1, .int .i64 y2, .int .i64 y3])), (53, .d (.int .i64 i))], [(0, some ⟨35, 30, [m.row.map .d]⟩), (2, some ⟨78, 3, [[.d (.int .i64 0), .d (.int .i64 0), .d (.int .i64 0)]]⟩), (3, some ⟨22, 4, [[.d (.int .i64 (if 0 < i then unitZ m 0 y0 else y0)), .d (.int .i64 (if 1 < i then unitZ m 1 y1 else y1)), .d (.int .i64 (if 2 < i then unitZ m 2 y2 else y2)), .d (.int .i64 (if 3 < i then unitZ m 3 y3 else y3))]]⟩)], 4⟩) (fun i => i ≤ 4 ∧ ∀ j < i, unitB m (Pos.at ⟨y0, y1, y2, y3⟩ j) = true) (fun i => 4 - i) 0 ?_ ⟨Nat.zero_le _, by simp⟩ ?_
            · refine weak_of [(0, some 0), (2, some 2), (3, some 7)] rfl (by simp [upT, up, upL, push_cast, hxy]) (by simp [upH, upR, upL, up, push_cast, hxy]) (by simp [namesOk, push_cast]) (by simp [olds])
            · rintro i ⟨hi, hall⟩
              rcases (show i = 0 ∨ i = 1 ∨ i = 2 ∨ i = 3 ∨ i = 4 by omega) with rfl | rfl | rfl | rfl | rfl
              · simp (config := { decide := true }) only [if_true, if_false]
                refine Nav.imp ?_
                refine awp_region cx [] fun K hK => ?_
                simp [push_cast]
                repeat (refine And.intro (by clear hK; intros; first | omega | (simp_all; done) | (simp_all <;> omega)) ?_)
                refine hK _ ?_; clear hK K; refine Nav.imp ?_
                refine awp_cond (b := true) (by simp [push_cast]) (fun hb => ?_) (fun hb => ?_) <;> (refine Nav.imp ?_)
                · refine awp_region cx [] fun K hK => ?_
                  simp [push_cast]
                  repeat (refine And.intro (by clear hK; intros; first | omega | (simp_all; done) | (simp_all <;> omega)) ?_)
                  refine hK _ ?_; clear hK K; refine Nav.imp ?_
                  have c1 := units_ok0 m y0
                  cases hw : unitB m y0 with
                  | false =>
                    have hf : ub = false := by
                      cases ub
                      · rfl
                      · have := hu.1 rfl 0 (by omega)
                        simp only [Pos.at] at this
                        rw [this] at hw; cases hw
                    rw [unit_get.2 hw] at c1
                    rw [f2 hf]
                    refine awp_region cx [(3, .p (.tup [.int .i64 0, .int .i64 1]))] fun K hK => ?_
                    simp [push_cast, c1]
                    repeat (refine And.intro (by clear hK; intros; first | omega | (simp_all; done) | (simp_all <;> omega)) ?_)
                    refine hK _ ?_; clear hK K; refine Nav.imp ?_
                    refine awp_region cx [] fun K hK => ?_
                    simp [push_cast]
                    repeat (refine And.intro (by clear hK; intros; first | omega | (simp_all; done) | (simp_all <;> omega)) ?_)
                    refine hK _ ?_; clear hK K; refine Nav.imp ?_
                    refine awp_cond (b := true) (by simp [push_cast]) (fun hb => ?_) (fun hb => ?_) <;> (refine Nav.imp ?_)
                    · refine awp_region cx [] fun K hK => ?_
                      simp [push_cast]
                      repeat (refine And.intro (by clear hK; intros; first | omega | (simp_all; done) | (simp_all <;> omega)) ?_)
                      refine hK _ ?_; clear hK K; refine Nav.imp ?_
                      simp [push_cast, vecN]
                    · simp at hb
                  | true =>
                    rw [unit_get.1 hw] at c1
                    have w3 : IntKind.i64.wrap 3 = 3 := by decide
                    have w4 : IntKind.i64.wrap 4 = 4 := by decide
                    generalize hz : unitZ m 0 y0 = z at *
                    refine awp_region cx [(3, .p (.tup [.int .i64 z, .int .i64 0]))] fun K hK => ?_
                    simp [push_cast, c1]
                    repeat (refine And.intro (by clear hK; intros; first | omega | (simp_all; done) | (simp_all <;> omega)) ?_)
                    refine hK _ ?_; clear hK K; refine Nav.imp ?_
                    refine awp_region cx [] fun K hK => ?_
                    simp [push_cast]
                    repeat (refine And.intro (by clear hK; intros; first | omega | (simp_all; done) | (simp_all <;> omega)) ?_)
                    refine hK _ ?_; clear hK K; refine Nav.imp ?_
                    refine awp_cond (b := false) (by simp [push_cast]) (fun hb => ?_) (fun hb => ?_) <;> (refine Nav.imp ?_)
                    · simp at hb
                    · refine awp_region cx [] fun K hK => ?_
                      simp [push_cast]
                      repeat (refine And.intro (by clear hK; intros; first | omega | (simp_all; done) | (simp_all <;> omega)) ?_)
                      refine hK _ ?_; clear hK K; refine Nav.imp ?_
                      refine awp_region cx [] fun K hK => ?_
                      simp [push_cast, w3, w4]
                      repeat (refine And.intro (by clear hK; intros; first | omega | (simp_all; done) | (simp_all <;> omega)) ?_)
                      refine hK _ ?_; clear hK K; refine Nav.imp ?_
                      refine ⟨1, ⟨by omega, fun j hj => ?_⟩, by omega, ?_⟩
                      · by_cases e : j < 0
                        · exact hall j e
                        · have : j = 0 := by omega
                          subst this
                          simpa [Pos.at] using hw
                      · subst hz
                        refine weak_of [(0, some 0), (2, some 2), (3, some 3)] rfl (by simp [upT, up, upL, push_cast]) (by simp [upH, upR, upL, up, push_cast]) (by simp [namesOk, push_cast]) (by simp [olds])
                · simp at hb
              · simp (config := { decide := true }) only [if_true, if_false]
                refine Nav.imp ?_
                refine awp_region cx [] fun K hK => ?_
                simp [push_cast]
                repeat (refine And.intro (by clear hK; intros; first | omega | (simp_all; done) | (simp_all <;> omega)) ?_)
                refine hK _ ?_; clear hK K; refine Nav.imp ?_
                refine awp_cond (b := true) (by simp [push_cast]) (fun hb => ?_) (fun hb => ?_) <;> (refine Nav.imp ?_)
                · refine awp_region cx [] fun K hK => ?_
                  simp [push_cast]
                  repeat (refine And.intro (by clear hK; intros; first | omega | (simp_all; done) | (simp_all <;> omega)) ?_)
                  refine hK _ ?_; clear hK K; refine Nav.imp ?_
                  have c1 := units_ok1 m y1
                  cases hw : unitB m y1 with
                  | false =>
                    have hf : ub = false := by
                      cases ub
                      · rfl
                      · have := hu.1 rfl 1 (by omega)
                        simp only [Pos.at] at this
                        rw [this] at hw; cases hw
                    rw [unit_get.2 hw] at c1
                    rw [f2 hf]
                    refine awp_region cx [(3, .p (.tup [.int .i64 0, .int .i64 1]))] fun K hK => ?_
                    simp [push_cast, c1]
                    repeat (refine And.intro (by clear hK; intros; first | omega | (simp_all; done) | (simp_all <;> omega)) ?_)
                    refine hK _ ?_; clear hK K; refine Nav.imp ?_
                    refine awp_region cx [] fun K hK => ?_
                    simp [push_cast]
                    repeat (refine And.intro (by clear hK; intros; first | omega | (simp_all; done) | (simp_all <;> omega)) ?_)
                    refine hK _ ?_; clear hK K; refine Nav.imp ?_
                    refine awp_cond (b := true) (by simp [push_cast]) (fun hb => ?_) (fun hb => ?_) <;> (refine Nav.imp ?_)
                    · refine awp_region cx [] fun K hK => ?_
                      simp [push_cast]
                      repeat (refine And.intro (by clear hK; intros; first | omega | (simp_all; done) | (simp_all <;> omega)) ?_)
                      refine hK _ ?_; clear hK K; refine Nav.imp ?_
                      simp [push_cast, vecN]
                    · simp at hb
                  | true =>
                    rw [unit_get.1 hw] at c1
                    have w3 : IntKind.i64.wrap 3 = 3 := by decide
                    have w4 : IntKind.i64.wrap 4 = 4 := by decide
                    generalize hz : unitZ m 1 y1 = z at *
                    refine awp_region cx [(3, .p (.tup [.int .i64 z, .int .i64 0]))] fun K hK => ?_
                    simp [push_cast, c1]
                    repeat (refine And.intro (by clear hK; intros; first | omega | (simp_all; done) | (simp_all <;> omega)) ?_)
                    refine hK _ ?_; clear hK K; refine Nav.imp ?_
                    refine awp_region cx [] fun K hK => ?_
                    simp [push_cast]
                    repeat (refine And.intro (by clear hK; intros; first | omega | (simp_all; done) | (simp_all <;> omega)) ?_)
                    refine hK _ ?_; clear hK K; refine Nav.imp ?_
                    refine awp_cond (b := false) (by simp [push_cast]) (fun hb => ?_) (fun hb => ?_) <;> (refine Nav.imp ?_)
                    · simp at hb
                    · refine awp_region cx [] fun K hK => ?_
                      simp [push_cast]
                      repeat (refine And.intro (by clear hK; intros; first | omega | (simp_all; done) | (simp_all <;> omega)) ?_)
                      refine hK _ ?_; clear hK K; refine Nav.imp ?_
                      refine awp_region cx [] fun K hK => ?_
                      simp [push_cast, w3, w4]
                      repeat (refine And.intro (by clear hK; intros; first | omega | (simp_all; done) | (simp_all <;> omega)) ?_)
                      refine hK _ ?_; clear hK K; refine Nav.imp ?_
                      refine ⟨2, ⟨by omega, fun j hj => ?_⟩, by omega, ?_⟩
                      · by_cases e : j < 1
                        · exact hall j e
                        · have : j = 1 := by omega
                          subst this
                          simpa [Pos.at] using hw
                      · subst hz
                        refine weak_of [(0, some 0), (2, some 2), (3, some 3)] rfl (by simp [upT, up, upL, push_cast]) (by simp [upH, upR, upL, up, push_cast]) (by simp [namesOk, push_cast]) (by simp [olds])
                · simp at hb
              · simp (config := { decide := true }) only [if_true, if_false]
                refine Nav.imp ?_
                refine awp_region cx [] fun K hK => ?_
                simp [push_cast]
                repeat (refine And.intro (by clear hK; intros; first | omega | (simp_all; done) | (simp_all <;> omega)) ?_)
                refine hK _ ?_; clear hK K; refine Nav.imp ?_
                refine awp_cond (b := true) (by simp [push_cast]) (fun hb => ?_) (fun hb => ?_) <;> (refine Nav.imp ?_)
                · refine awp_region cx [] fun K hK => ?_
                  simp [push_cast]
                  repeat (refine And.intro (by clear hK; intros; first | omega | (simp_all; done) | (simp_all <;> omega)) ?_)
                  refine hK _ ?_; clear hK K; refine Nav.imp ?_
                  have c1 := units_ok2 m y2
                  cases hw : unitB m y2 with
                  | false =>
                    have hf : ub = false := by
                      cases ub
                      · rfl
                      · have := hu.1 rfl 2 (by omega)
                        simp only [Pos.at] at this
                        rw [this] at hw; cases hw
                    rw [unit_get.2 hw] at c1
                    rw [f2 hf]
                    refine awp_region cx [(3, .p (.tup [.int .i64 0, .int .i64 1]))] fun K hK => ?_
                    simp [push_cast, c1]
                    repeat (refine And.intro (by clear hK; intros; first | omega | (simp_all; done) | (simp_all <;> omega)) ?_)
                    refine hK _ ?_; clear hK K; refine Nav.imp ?_
                    refine awp_region cx [] fun K hK => ?_
                    simp [push_cast]
                    repeat (refine And.intro (by clear hK; intros; first | omega | (simp_all; done) | (simp_all <;> omega)) ?_)
                    refine hK _ ?_; clear hK K; refine Nav.imp ?_
                    refine awp_cond (b := true) (by simp [push_cast]) (fun hb => ?_) (fun hb => ?_) <;> (refine Nav.imp ?_)
                    · refine awp_region cx [] fun K hK => ?_
                      simp [push_cast]
                      repeat (refine And.intro (by clear hK; intros; first | omega | (simp_all; done) | (simp_all <;> omega)) ?_)
                      refine hK _ ?_; clear hK K; refine Nav.imp ?_
                      simp [push_cast, vecN]
                    · simp at hb
                  | true =>
                    rw [unit_get.1 hw] at c1
                    have w3 : IntKind.i64.wrap 3 = 3 := by decide
                    have w4 : IntKind.i64.wrap 4 = 4 := by decide
                    generalize hz : unitZ m 2 y2 = z at *
                    refine awp_region cx [(3, .p (.tup [.int .i64 z, .int .i64 0]))] fun K hK => ?_
                    simp [push_cast, c1]
                    repeat (refine And.intro (by clear hK; intros; first | omega | (simp_all; done) | (simp_all <;> omega)) ?_)
                    refine hK _ ?_; clear hK K; refine Nav.imp ?_
                    refine awp_region cx [] fun K hK => ?_
                    simp [push_cast]
                    repeat (refine And.intro (by clear hK; intros; first | omega | (simp_all; done) | (simp_all <;> omega)) ?_)
                    refine hK _ ?_; clear hK K; refine Nav.imp ?_
                    refine awp_cond (b := false) (by simp [push_cast]) (fun hb => ?_) (fun hb => ?_) <;> (refine Nav.imp ?_)
                    · simp at hb
                    · refine awp_region cx [] fun K hK => ?_
                      simp [push_cast]
                      repeat (refine And.intro (by clear hK; intros; first | omega | (simp_all; done) | (simp_all <;> omega)) ?_)
                      refine hK _ ?_; clear hK K; refine Nav.imp ?_
                      refine awp_region cx [] fun K hK => ?_
                      simp [push_cast, w3, w4]
                      repeat (refine And.intro (by clear hK; intros; first | omega | (simp_all; done) | (simp_all <;> omega)) ?_)
                      refine hK _ ?_; clear hK K; refine Nav.imp ?_
                      refine ⟨3, ⟨by omega, fun j hj => ?_⟩, by omega, ?_⟩
                      · by_cases e : j < 2
                        · exact hall j e
                        · have : j = 2 := by omega
                          subst this
                          simpa [Pos.at] using hw
                      · subst hz
                        refine weak_of [(0, some 0), (2, some 2), (3, some 3)] rfl (by simp [upT, up, upL, push_cast]) (by simp [upH, upR, upL, up, push_cast]) (by simp [namesOk, push_cast]) (by simp [olds])
                · simp at hb
              · simp (config := { decide := true }) only [if_true, if_false]
                refine Nav.imp ?_
                refine awp_region cx [] fun K hK => ?_
                simp [push_cast]
                repeat (refine And.intro (by clear hK; intros; first | omega | (simp_all; done) | (simp_all <;> omega)) ?_)
                refine hK _ ?_; clear hK K; refine Nav.imp ?_
                refine awp_cond (b := true) (by simp [push_cast]) (fun hb => ?_) (fun hb => ?_) <;> (refine Nav.imp ?_)
                · refine awp_region cx [] fun K hK => ?_
                  simp [push_cast]
                  repeat (refine And.intro (by clear hK; intros; first | omega | (simp_all; done) | (simp_all <;> omega)) ?_)
                  refine hK _ ?_; clear hK K; refine Nav.imp ?_
                  have c1 := units_ok3 m y3
                  cases hw : unitB m y3 with
                  | false =>
                    have hf : ub = false := by
                      cases ub
                      · rfl
                      · have := hu.1 rfl 3 (by omega)
                        simp only [Pos.at] at this
                        rw [this] at hw; cases hw
                    rw [unit_get.2 hw] at c1
                    rw [f2 hf]
                    refine awp_region cx [(3, .p (.tup [.int .i64 0, .int .i64 1]))] fun K hK => ?_
                    simp [push_cast, c1]
                    repeat (refine And.intro (by clear hK; intros; first | omega | (simp_all; done) | (simp_all <;> omega)) ?_)
                    refine hK _ ?_; clear hK K; refine Nav.imp ?_
                    refine awp_region cx [] fun K hK => ?_
                    simp [push_cast]
                    repeat (refine And.intro (by clear hK; intros; first | omega | (simp_all; done) | (simp_all <;> omega)) ?_)
                    refine hK _ ?_; clear hK K; refine Nav.imp ?_
                    refine awp_cond (b := true) (by simp [push_cast]) (fun hb => ?_) (fun hb => ?_) <;> (refine Nav.imp ?_)
                    · refine awp_region cx [] fun K hK => ?_
                      simp [push_cast]
                      repeat (refine And.intro (by clear hK; intros; first | omega | (simp_all; done) | (simp_all <;> omega)) ?_)
                      refine hK _ ?_; clear hK K; refine Nav.imp ?_
                      simp [push_cast, vecN]
                    · simp at hb
                  | true =>
                    rw [unit_get.1 hw] at c1
                    have w3 : IntKind.i64.wrap 3 = 3 := by decide
                    have w4 : IntKind.i64.wrap 4 = 4 := by decide
                    generalize hz : unitZ m 3 y3 = z at *
                    refine awp_region cx [(3, .p (.tup [.int .i64 z, .int .i64 0]))] fun K hK => ?_
                    simp [push_cast, c1]
                    repeat (refine And.intro (by clear hK; intros; first | omega | (simp_all; done) | (simp_all <;> omega)) ?_)
                    refine hK _ ?_; clear hK K; refine Nav.imp ?_
                    refine awp_region cx [] fun K hK => ?_
                    simp [push_cast]
                    repeat (refine And.intro (by clear hK; intros; first | omega | (simp_all; done) | (simp_all <;> omega)) ?_)
                    refine hK _ ?_; clear hK K; refine Nav.imp ?_
                    refine awp_cond (b := false) (by simp [push_cast]) (fun hb => ?_) (fun hb => ?_) <;> (refine Nav.imp ?_)
                    · simp at hb
                    · refine awp_region cx [] fun K hK => ?_
                      simp [push_cast]
                      repeat (refine And.intro (by clear hK; intros; first | omega | (simp_all; done) | (simp_all <;> omega)) ?_)
                      refine hK _ ?_; clear hK K; refine Nav.imp ?_
                      refine awp_region cx [] fun K hK => ?_
                      simp [push_cast, w3, w4]
                      repeat (refine And.intro (by clear hK; intros; first | omega | (simp_all; done) | (simp_all <;> omega)) ?_)
                      refine hK _ ?_; clear hK K; refine Nav.imp ?_
                      refine ⟨4, ⟨by omega, fun j hj => ?_⟩, by omega, ?_⟩
                      · by_cases e : j < 3
                        · exact hall j e
                        · have : j = 3 := by omega
                          subst this
                          simpa [Pos.at] using hw
                      · subst hz
                        refine weak_of [(0, some 0), (2, some 2), (3, some 3)] rfl (by simp [upT, up, upL, push_cast]) (by simp [upH, upR, upL, up, push_cast]) (by simp [namesOk, push_cast]) (by simp [olds])
                · simp at hb
              · simp (config := { decide := true }) only [if_true, if_false]
                refine Nav.imp ?_
                refine awp_region cx [] fun K hK => ?_
                simp [push_cast]
                repeat (refine And.intro (by clear hK; intros; first | omega | (simp_all; done) | (simp_all <;> omega)) ?_)
                refine hK _ ?_; clear hK K; refine Nav.imp ?_
                refine awp_cond (b := false) (by simp [push_cast]) (fun hb => ?_) (fun hb => ?_) <;> (refine Nav.imp ?_)
                · simp at hb
                · rw [f3 (hu.2 hall)]
                  unfold vecD
                  refine awp_region_draw cx mixed [] fun K hK => ?_
                  simp [push_cast]
                  repeat (refine And.intro (by clear hK; intros; first | omega | (simp_all; done) | (simp_all <;> omega)) ?_)
                  refine hK _ _ (by kernel_rfl) ?_; clear hK K; refine Nav.imp ?_
                  simp [push_cast]
        | true =>
          replace f2 := f2 hpb
          replace f3 := f3 hpb
          have h0 := hall 0 (by omega)
          have h1 := hall 1 (by omega)
          obtain ⟨x0, x1, y2, y3⟩ := x
          simp only [Pos.at] at h0 h1
          simp [withB] at h0 h1
          have hcore : corePos m ⟨x0, x1, y2, y3⟩ = ⟨(x0 + x1) / 2, (x0 - x1) / 2, y2, y3⟩ := by simp [corePos, hxy]
          rw [hcore] at f2 f3
          have c1 := nfloor_ok (x0 + x1) 2 (by omega) (by omega) (by omega)
          have c2 := nfloor_ok (x0 - x1) 2 (by omega) (by omega) (by omega)
          unfold flD at c1 c2
          have e1 := wrap_i64 (n := x0 + x1) (by omega) (by omega)
          have e2 := wrap_i64 (n := x0 - x1) (by omega) (by omega)
          generalize (x0 + x1) / 2 = y0 at *
          generalize (x0 - x1) / 2 = y1 at *
          have hu := @uniB_at m ⟨y0, y1, y2, y3⟩
          generalize uniB m ⟨y0, y1, y2, y3⟩ = ub at *
          clear hp hcore
          refine awp_cond (b := true) (by simp [push_cast, hxy]) (fun hb => ?_) (fun hb => ?_) <;> (refine Nav.imp ?_)
          · refine awp_region cx [(5, .p (.tup [.int .i64 y0, .int .i64 0]))] fun K hK => ?_
            simp [push_cast, c1, e1]
            repeat (refine And.intro (by clear hK; intros; first | omega | (simp_all; done) | (simp_all <;> omega)) ?_)
            refine hK _ ?_; clear hK K; refine Nav.imp ?_
            refine awp_region cx [(5, .p (.tup [.int .i64 y1, .int .i64 0]))] fun K hK => ?_
            simp [push_cast, c2, e2]
            repeat (refine And.intro (by clear hK; intros; first | omega | (simp_all; done) | (simp_all <;> omega)) ?_)
            refine hK _ ?_; clear hK K; refine Nav.imp ?_
            refine awp_region cx [] fun K hK => ?_
            simp [push_cast]
            repeat (refine And.intro (by clear hK; intros; first | omega | (simp_all; done) | (simp_all <;> omega)) ?_)
            refine hK _ ?_; clear hK K; refine Nav.imp ?_
            refine awp_region cx [] fun K hK => ?_
            simp [push_cast]
            repeat (refine And.intro (by clear hK; intros; first | omega | (simp_all; done) | (simp_all <;> omega)) ?_)
            refine hK _ ?_; clear hK K; refine Nav.imp ?_
            refine awp_region cx [] fun K hK => ?_
            simp [push_cast]
            repeat (refine And.intro (by clear hK; intros; first | omega | (simp_all; done) | (simp_all <;> omega)) ?_)
            refine hK _ ?_; clear hK K; refine Nav.imp ?_
            refine awp_loop (β := Nat) (fun i => ⟨81, [(2, .ptr 0 0 0), (4, .ptr 2 0 0), (13, .ptr 3 0 0), (52, .d (.agg [.int .i64 y0, .int .i64 y1, .int .i64 y2, .int .i64 y3])), (53, .d (.int .i64 i))], [(0, some ⟨35, 30, [m.row.map .d]⟩), (2, some ⟨78, 3, [[.d (.int .i64 0), .d (.int .i64 0), .d (.int .i64 0)]]⟩), (3, some ⟨22, 4, [[.d (.int .i64 (if 0 < i then unitZ m 0 y0 else y0)), .d (.int .i64 (if 1 < i then unitZ m 1 y1 else y1)), .d (.int .i64 (if 2 < i then unitZ m 2 y2 else y2)), .d (.int .i64 (if 3 < i then unitZ m 3 y3 else y3))]]⟩)], 4⟩) (fun i => i ≤ 4 ∧ ∀ j < i, unitB m (Pos.at ⟨y0, y1, y2, y3⟩ j) = true) (fun i => 4 - i) 0 ?_ ⟨Nat.zero_le _, by simp⟩ ?_
            · refine weak_of [(0, some 0), (2, some 2), (3, some 35)] rfl (by simp [upT, up, upL, push_cast, hxy]) (by simp [upH, upR, upL, up, push_cast, hxy]) (by simp [namesOk, push_cast]) (by simp [olds])
            · rintro i ⟨hi, hall⟩
              rcases (show i = 0 ∨ i = 1 ∨ i = 2 ∨ i = 3 ∨ i = 4 by omega) with rfl | rfl | rfl | rfl | rfl
              · simp (config := { decide := true }) only [if_true, if_false]
                refine Nav.imp ?_
                refine awp_region cx [] fun K hK => ?_
                simp [push_cast]
                repeat (refine And.intro (by clear hK; intros; first | omega | (simp_all; done) | (simp_all <;> omega)) ?_)
                refine hK _ ?_; clear hK K; refine Nav.imp ?_
                refine awp_cond (b := true) (by simp [push_cast]) (fun hb => ?_) (fun hb => ?_) <;> (refine Nav.imp ?_)
                · refine awp_region cx [] fun K hK => ?_
                  simp [push_cast]
                  repeat (refine And.intro (by clear hK; intros; first | omega | (simp_all; done) | (simp_all <;> omega)) ?_)
                  refine hK _ ?_; clear hK K; refine Nav.imp ?_
                  have c1 := units_ok0 m y0
                  cases hw : unitB m y0 with
                  | false =>
                    have hf : ub = false := by
                      cases ub
                      · rfl
                      · have := hu.1 rfl 0 (by omega)
                        simp only [Pos.at] at this
                        rw [this] at hw; cases hw
                    rw [unit_get.2 hw] at c1
                    rw [f2 hf]
                    refine awp_region cx [(3, .p (.tup [.int .i64 0, .int .i64 1]))] fun K hK => ?_
                    simp [push_cast, c1]
                    repeat (refine And.intro (by clear hK; intros; first | omega | (simp_all; done) | (simp_all <;> omega)) ?_)
                    refine hK _ ?_; clear hK K; refine Nav.imp ?_
                    refine awp_region cx [] fun K hK => ?_
                    simp [push_cast]
                    repeat (refine And.intro (by clear hK; intros; first | omega | (simp_all; done) | (simp_all <;> omega)) ?_)
                    refine hK _ ?_; clear hK K; refine Nav.imp ?_
                    refine awp_cond (b := true) (by simp [push_cast]) (fun hb => ?_) (fun hb => ?_) <;> (refine Nav.imp ?_)
                    · refine awp_region cx [] fun K hK => ?_
                      simp [push_cast]
                      repeat (refine And.intro (by clear hK; intros; first | omega | (simp_all; done) | (simp_all <;> omega)) ?_)
                      refine hK _ ?_; clear hK K; refine Nav.imp ?_
                      simp [push_cast, vecN]
                    · simp at hb
                  | true =>
                    rw [unit_get.1 hw] at c1
                    have w3 : IntKind.i64.wrap 3 = 3 := by decide
                    have w4 : IntKind.i64.wrap 4 = 4 := by decide
                    generalize hz : unitZ m 0 y0 = z at *
                    refine awp_region cx [(3, .p (.tup [.int .i64 z, .int .i64 0]))] fun K hK => ?_
                    simp [push_cast, c1]
                    repeat (refine And.intro (by clear hK; intros; first | omega | (simp_all; done) | (simp_all <;> omega)) ?_)
                    refine hK _ ?_; clear hK K; refine Nav.imp ?_
                    refine awp_region cx [] fun K hK => ?_
                    simp [push_cast]
                    repeat (refine And.intro (by clear hK; intros; first | omega | (simp_all; done) | (simp_all <;> omega)) ?_)
                    refine hK _ ?_; clear hK K; refine Nav.imp ?_
                    refine awp_cond (b := false) (by simp [push_cast]) (fun hb => ?_) (fun hb => ?_) <;> (refine Nav.imp ?_)
                    · simp at hb
                    · refine awp_region cx [] fun K hK => ?_
                      simp [push_cast]
                      repeat (refine And.intro (by clear hK; intros; first | omega | (simp_all; done) | (simp_all <;> omega)) ?_)
                      refine hK _ ?_; clear hK K; refine Nav.imp ?_
                      refine awp_region cx [] fun K hK => ?_
                      simp [push_cast, w3, w4]
                      repeat (refine And.intro (by clear hK; intros; first | omega | (simp_all; done) | (simp_all <;> omega)) ?_)
                      refine hK _ ?_; clear hK K; refine Nav.imp ?_
                      refine ⟨1, ⟨by omega, fun j hj => ?_⟩, by omega, ?_⟩
                      · by_cases e : j < 0
                        · exact hall j e
                        · have : j = 0 := by omega
                          subst this
                          simpa [Pos.at] using hw
                      · subst hz
                        refine weak_of [(0, some 0), (2, some 2), (3, some 3)] rfl (by simp [upT, up, upL, push_cast]) (by simp [upH, upR, upL, up, push_cast]) (by simp [namesOk, push_cast]) (by simp [olds])
                · simp at hb
              · simp (config := { decide := true }) only [if_true, if_false]
                refine Nav.imp ?_
                refine awp_region cx [] fun K hK => ?_
                simp [push_cast]
                repeat (refine And.intro (by clear hK; intros; first | omega | (simp_all; done) | (simp_all <;> omega)) ?_)
                refine hK _ ?_; clear hK K; refine Nav.imp ?_
                refine awp_cond (b := true) (by simp [push_cast]) (fun hb => ?_) (fun hb => ?_) <;> (refine Nav.imp ?_)
                · refine awp_region cx [] fun K hK => ?_
                  simp [push_cast]
                  repeat (refine And.intro (by clear hK; intros; first | omega | (simp_all; done) | (simp_all <;> omega)) ?_)
                  refine hK _ ?_; clear hK K; refine Nav.imp ?_
                  have c1 := units_ok1 m y1
                  cases hw : unitB m y1 with
                  | false =>
                    have hf : ub = false := by
                      cases ub
                      · rfl
                      · have := hu.1 rfl 1 (by omega)
                        simp only [Pos.at] at this
                        rw [this] at hw; cases hw
                    rw [unit_get.2 hw] at c1
                    rw [f2 hf]
                    refine awp_region cx [(3, .p (.tup [.int .i64 0, .int .i64 1]))] fun K hK => ?_
                    simp [push_cast, c1]
                    repeat (refine And.intro (by clear hK; intros; first | omega | (simp_all; done) | (simp_all <;> omega)) ?_)
                    refine hK _ ?_; clear hK K; refine Nav.imp ?_
                    refine awp_region cx [] fun K hK => ?_
                    simp [push_cast]
                    repeat (refine And.intro (by clear hK; intros; first | omega | (simp_all; done) | (simp_all <;> omega)) ?_)
                    refine hK _ ?_; clear hK K; refine Nav.imp ?_
                    refine awp_cond (b := true) (by simp [push_cast]) (fun hb => ?_) (fun hb => ?_) <;> (refine Nav.imp ?_)
                    · refine awp_region cx [] fun K hK => ?_
                      simp [push_cast]
                      repeat (refine And.intro (by clear hK; intros; first | omega | (simp_all; done) | (simp_all <;> omega)) ?_)
                      refine hK _ ?_; clear hK K; refine Nav.imp ?_
                      simp [push_cast, vecN]
                    · simp at hb
                  | true =>
                    rw [unit_get.1 hw] at c1
                    have w3 : IntKind.i64.wrap 3 = 3 := by decide
                    have w4 : IntKind.i64.wrap 4 = 4 := by decide
                    generalize hz : unitZ m 1 y1 = z at *
                    refine awp_region cx [(3, .p (.tup [.int .i64 z, .int .i64 0]))] fun K hK => ?_
                    simp [push_cast, c1]
                    repeat (refine And.intro (by clear hK; intros; first | omega | (simp_all; done) | (simp_all <;> omega)) ?_)
                    refine hK _ ?_; clear hK K; refine Nav.imp ?_
                    refine awp_region cx [] fun K hK => ?_
                    simp [push_cast]
                    repeat (refine And.intro (by clear hK; intros; first | omega | (simp_all; done) | (simp_all <;> omega)) ?_)
                    refine hK _ ?_; clear hK K; refine Nav.imp ?_
                    refine awp_cond (b := false) (by simp [push_cast]) (fun hb => ?_) (fun hb => ?_) <;> (refine Nav.imp ?_)
                    · simp at hb
                    · refine awp_region cx [] fun K hK => ?_
                      simp [push_cast]
                      repeat (refine And.intro (by clear hK; intros; first | omega | (simp_all; done) | (simp_all <;> omega)) ?_)
                      refine hK _ ?_; clear hK K; refine Nav.imp ?_
                      refine awp_region cx [] fun K hK => ?_
                      simp [push_cast, w3, w4]
                      repeat (refine And.intro (by clear hK; intros; first | omega | (simp_all; done) | (simp_all <;> omega)) ?_)
                      refine hK _ ?_; clear hK K; refine Nav.imp ?_
                      refine ⟨2, ⟨by omega, fun j hj => ?_⟩, by omega, ?_⟩
                      · by_cases e : j < 1
                        · exact hall j e
                        · have : j = 1 := by omega
                          subst this
                          simpa [Pos.at] using hw
                      · subst hz
                        refine weak_of [(0, some 0), (2, some 2), (3, some 3)] rfl (by simp [upT, up, upL, push_cast]) (by simp [upH, upR, upL, up, push_cast]) (by simp [namesOk, push_cast]) (by simp [olds])
                · simp at hb
              · simp (config := { decide := true }) only [if_true, if_false]
                refine Nav.imp ?_
                refine awp_region cx [] fun K hK => ?_
                simp [push_cast]
                repeat (refine And.intro (by clear hK; intros; first | omega | (simp_all; done) | (simp_all <;> omega)) ?_)
                refine hK _ ?_; clear hK K; refine Nav.imp ?_
                refine awp_cond (b := true) (by simp [push_cast]) (fun hb => ?_) (fun hb => ?_) <;> (refine Nav.imp ?_)
                · refine awp_region cx [] fun K hK => ?_
                  simp [push_cast]
                  repeat (refine And.intro (by clear hK; intros; first | omega | (simp_all; done) | (simp_all <;> omega)) ?_)
                  refine hK _ ?_; clear hK K; refine Nav.imp ?_
                  have c1 := units_ok2 m y2
                  cases hw : unitB m y2 with
                  | false =>
                    have hf : ub = false := by
                      cases ub
                      · rfl
                      · have := hu.1 rfl 2 (by omega)
                        simp only [Pos.at] at this
                        rw [this] at hw; cases hw
                    rw [unit_get.2 hw] at c1
                    rw [f2 hf]
                    refine awp_region cx [(3, .p (.tup [.int .i64 0, .int .i64 1]))] fun K hK => ?_
                    simp [push_cast, c1]
                    repeat (refine And.intro (by clear hK; intros; first | omega | (simp_all; done) | (simp_all <;> omega)) ?_)
                    refine hK _ ?_; clear hK K; refine Nav.imp ?_
                    refine awp_region cx [] fun K hK => ?_
                    simp [push_cast]
                    repeat (refine And.intro (by clear hK; intros; first | omega | (simp_all; done) | (simp_all <;> omega)) ?_)
                    refine hK _ ?_; clear hK K; refine Nav.imp ?_
                    refine awp_cond (b := true) (by simp [push_cast]) (fun hb => ?_) (fun hb => ?_) <;> (refine Nav.imp ?_)
                    · refine awp_region cx [] fun K hK => ?_
                      simp [push_cast]
                      repeat (refine And.intro (by clear hK; intros; first | omega | (simp_all; done) | (simp_all <;> omega)) ?_)
                      refine hK _ ?_; clear hK K; refine Nav.imp ?_
                      simp [push_cast, vecN]
                    · simp at hb
                  | true =>
                    rw [unit_get.1 hw] at c1
                    have w3 : IntKind.i64.wrap 3 = 3 := by decide
                    have w4 : IntKind.i64.wrap 4 = 4 := by decide
                    generalize hz : unitZ m 2 y2 = z at *
                    refine awp_region cx [(3, .p (.tup [.int .i64 z, .int .i64 0]))] fun K hK => ?_
                    simp [push_cast, c1]
                    repeat (refine And.intro (by clear hK; intros; first | omega | (simp_all; done) | (simp_all <;> omega)) ?_)
                    refine hK _ ?_; clear hK K; refine Nav.imp ?_
                    refine awp_region cx [] fun K hK => ?_
                    simp [push_cast]
                    repeat (refine And.intro (by clear hK; intros; first | omega | (simp_all; done) | (simp_all <;> omega)) ?_)
                    refine hK _ ?_; clear hK K; refine Nav.imp ?_
                    refine awp_cond (b := false) (by simp [push_cast]) (fun hb => ?_) (fun hb => ?_) <;> (refine Nav.imp ?_)
                    · simp at hb
                    · refine awp_region cx [] fun K hK => ?_
                      simp [push_cast]
                      repeat (refine And.intro (by clear hK; intros; first | omega | (simp_all; done) | (simp_all <;> omega)) ?_)
                      refine hK _ ?_; clear hK K; refine Nav.imp ?_
                      refine awp_region cx [] fun K hK => ?_
                      simp [push_cast, w3, w4]
                      repeat (refine And.intro (by clear hK; intros; first | omega | (simp_all; done) | (simp_all <;> omega)) ?_)
                      refine hK _ ?_; clear hK K; refine Nav.imp ?_
                      refine ⟨3, ⟨by omega, fun j hj => ?_⟩, by omega, ?_⟩
                      · by_cases e : j < 2
                        · exact hall j e
                        · have : j = 2 := by omega
                          subst this
                          simpa [Pos.at] using hw
                      · subst hz
                        refine weak_of [(0, some 0), (2, some 2), (3, some 3)] rfl (by simp [upT, up, upL, push_cast]) (by simp [upH, upR, upL, up, push_cast]) (by simp [namesOk, push_cast]) (by simp [olds])
                · simp at hb
              · simp (config := { decide := true }) only [if_true, if_false]
                refine Nav.imp ?_
                refine awp_region cx [] fun K hK => ?_
                simp [push_cast]
                repeat (refine And.intro (by clear hK; intros; first | omega | (simp_all; done) | (simp_all <;> omega)) ?_)
                refine hK _ ?_; clear hK K; refine Nav.imp ?_
                refine awp_cond (b := true) (by simp [push_cast]) (fun hb => ?_) (fun hb => ?_) <;> (refine Nav.imp ?_)
                · refine awp_region cx [] fun K hK => ?_
                  simp [push_cast]
                  repeat (refine And.intro (by clear hK; intros; first | omega | (simp_all; done) | (simp_all <;> omega)) ?_)
                  refine hK _ ?_; clear hK K; refine Nav.imp ?_
                  have c1 := units_ok3 m y3
                  cases hw : unitB m y3 with
                  | false =>
                    have hf : ub = false := by
                      cases ub
                      · rfl
                      · have := hu.1 rfl 3 (by omega)
                        simp only [Pos.at] at this
                        rw [this] at hw; cases hw
                    rw [unit_get.2 hw] at c1
                    rw [f2 hf]
                    refine awp_region cx [(3, .p (.tup [.int .i64 0, .int .i64 1]))] fun K hK => ?_
                    simp [push_cast, c1]
                    repeat (refine And.intro (by clear hK; intros; first | omega | (simp_all; done) | (simp_all <;> omega)) ?_)
                    refine hK _ ?_; clear hK K; refine Nav.imp ?_
                    refine awp_region cx [] fun K hK => ?_
                    simp [push_cast]
                    repeat (refine And.intro (by clear hK; intros; first | omega | (simp_all; done) | (simp_all <;> omega)) ?_)
                    refine hK _ ?_; clear hK K; refine Nav.imp ?_
                    refine awp_cond (b := true) (by simp [push_cast]) (fun hb => ?_) (fun hb => ?_) <;> (refine Nav.imp ?_)
                    · refine awp_region cx [] fun K hK => ?_
                      simp [push_cast]
                      repeat (refine And.intro (by clear hK; intros; first | omega | (simp_all; done) | (simp_all <;> omega)) ?_)
                      refine hK _ ?_; clear hK K; refine Nav.imp ?_
                      simp [push_cast, vecN]
                    · simp at hb
                  | true =>
                    rw [unit_get.1 hw] at c1
                    have w3 : IntKind.i64.wrap 3 = 3 := by decide
                    have w4 : IntKind.i64.wrap 4 = 4 := by decide
                    generalize hz : unitZ m 3 y3 = z at *
                    refine awp_region cx [(3, .p (.tup [.int .i64 z, .int .i64 0]))] fun K hK => ?_
                    simp [push_cast, c1]
                    repeat (refine And.intro (by clear hK; intros; first | omega | (simp_all; done) | (simp_all <;> omega)) ?_)
                    refine hK _ ?_; clear hK K; refine Nav.imp ?_
                    refine awp_region cx [] fun K hK => ?_
                    simp [push_cast]
                    repeat (refine And.intro (by clear hK; intros; first | omega | (simp_all; done) | (simp_all <;> omega)) ?_)
                    refine hK _ ?_; clear hK K; refine Nav.imp ?_
                    refine awp_cond (b := false) (by simp [push_cast]) (fun hb => ?_) (fun hb => ?_) <;> (refine Nav.imp ?_)
                    · simp at hb
                    · refine awp_region cx [] fun K hK => ?_
                      simp [push_cast]
                      repeat (refine And.intro (by clear hK; intros; first | omega | (simp_all; done) | (simp_all <;> omega)) ?_)
                      refine hK _ ?_; clear hK K; refine Nav.imp ?_
                      refine awp_region cx [] fun K hK => ?_
                      simp [push_cast, w3, w4]
                      repeat (refine And.intro (by clear hK; intros; first | omega | (simp_all; done) | (simp_all <;> omega)) ?_)
                      refine hK _ ?_; clear hK K; refine Nav.imp ?_
                      refine ⟨4, ⟨by omega, fun j hj => ?_⟩, by omega, ?_⟩
                      · by_cases e : j < 3
                        · exact hall j e
                        · have : j = 3 := by omega
                          subst this
                          simpa [Pos.at] using hw
                      · subst hz
                        refine weak_of [(0, some 0), (2, some 2), (3, some 3)] rfl (by simp [upT, up, upL, push_cast]) (by simp [upH, upR, upL, up, push_cast]) (by simp [namesOk, push_cast]) (by simp [olds])
                · simp at hb
              · simp (config := { decide := true }) only [if_true, if_false]
                refine Nav.imp ?_
                refine awp_region cx [] fun K hK => ?_
                simp [push_cast]
                repeat (refine And.intro (by clear hK; intros; first | omega | (simp_all; done) | (simp_all <;> omega)) ?_)
                refine hK _ ?_; clear hK K; refine Nav.imp ?_
                refine awp_cond (b := false) (by simp [push_cast]) (fun hb => ?_) (fun hb => ?_) <;> (refine Nav.imp ?_)
                · simp at hb
                · rw [f3 (hu.2 hall)]
                  unfold vecD
                  refine awp_region_draw cx mixed [] fun K hK => ?_
                  simp [push_cast]
                  repeat (refine And.intro (by clear hK; intros; first | omega | (simp_all; done) | (simp_all <;> omega)) ?_)
                  refine hK _ _ (by kernel_rfl) ?_; clear hK K; refine Nav.imp ?_
                  simp [push_cast]
          · simp at hb
end Go.Proofs.YtlfbjflfbjkbeaaGreat
