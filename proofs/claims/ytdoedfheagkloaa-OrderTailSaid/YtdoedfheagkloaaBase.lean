/-
  The types of this seat, as plain Lean data, and their place in the abstract machine.
-/
import Derived.Test.YtdoedfheagkloaaAbs18
import Derived.Test.YtdoedfheagkloaaRows
set_option linter.unusedVariables false
set_option linter.unusedSimpArgs false
namespace Go.Proofs.Ytdoedfheagkloaa
open Go.Abs
def tyTab : List (Nat × TI) := [
  (2, ⟨.int .i64, 1, 8, [.d (.int .i64 0)], 0⟩),
  (3, ⟨.int .i64, 1, 8, [.d (.int .i64 0)], 0⟩),
  (4, ⟨.bool, 1, 1, [.d (.bool false)], 0⟩),
  (5, ⟨.int .u8, 1, 1, [.d (.int .u8 0)], 0⟩),
  (7, ⟨.struct [(0, 1, false), (1, 1, false), (2, 1, false), (3, 1, false)], 4, 24, [.d (.int .i64 0), .d (.int .i64 0), .d (.bool false), .d (.int .u8 0)], 0⟩),
  (9, ⟨.str, 1, 16, [.d (.str ⟨#[]⟩)], 0⟩),
  (12, ⟨.int .u64, 1, 8, [.d (.int .u64 0)], 0⟩),
  (13, ⟨.struct [(0, 1, false), (1, 1, false)], 2, 24, [.d (.str ⟨#[]⟩), .d (.int .u64 0)], 0⟩),
  (15, ⟨.one, 1, 8, [.any], 0⟩),
  (16, ⟨.one, 1, 8, [.any], 0⟩),
  (17, ⟨.one, 1, 8, [.any], 0⟩),
  (18, ⟨.struct [(0, 1, false)], 1, 8, [.any], 0⟩),
  (21, ⟨.int .i32, 1, 4, [.d (.int .i32 0)], 0⟩),
  (22, ⟨.struct [(0, 1, false), (1, 1, false)], 2, 16, [.d (.int .i64 0), .d (.int .i64 0)], 1⟩),
  (23, ⟨.struct [(0, 1, false), (1, 1, false)], 2, 16, [.d (.int .i64 0), .d (.int .i64 0)], 1⟩),
  (24, ⟨.slice 36, 1, 24, [.nl], 0⟩),
  (34, ⟨.slice 23, 1, 24, [.nl], 0⟩),
  (35, ⟨.struct [(0, 1, false), (1, 1, false), (2, 1, false)], 3, 40, [.d (.int .i64 0), .d (.bool false), .nl], 0⟩),
  (36, ⟨.struct [(0, 1, false), (1, 1, false), (2, 1, false)], 3, 40, [.d (.int .i64 0), .d (.bool false), .nl], 0⟩),
  (40, ⟨.int .i64, 1, 8, [.d (.int .i64 0)], 0⟩),
  (45, ⟨.arr 2 23, 4, 32, [.d (.int .i64 0), .d (.int .i64 0), .d (.int .i64 0), .d (.int .i64 0)], 0⟩),
  (53, ⟨.slice 45, 1, 24, [.nl], 0⟩),
  (54, ⟨.slice 3, 1, 24, [.nl], 0⟩),
  (55, ⟨.struct [(0, 2, true), (2, 1, false), (3, 1, false), (4, 1, false), (5, 1, false)], 6, 112, [.d (.int .i64 0), .d (.int .i64 0), .nl, .nl, .nl, .nl], 0⟩),
  (56, ⟨.struct [(0, 2, true), (2, 1, false), (3, 1, false), (4, 1, false), (5, 1, false)], 6, 112, [.d (.int .i64 0), .d (.int .i64 0), .nl, .nl, .nl, .nl], 0⟩),
  (61, ⟨.slice 4, 1, 24, [.nl], 0⟩),
  (64, ⟨.one, 1, 8, [.any], 0⟩),
  (65, ⟨.struct [(0, 1, false), (1, 1, false), (2, 1, false), (3, 1, false), (4, 1, false)], 5, 104, [.nl, .nl, .nl, .nl, .d (.int .i64 0)], 0⟩),
  (66, ⟨.struct [(0, 1, false), (1, 1, false), (2, 1, false), (3, 1, false), (4, 1, false)], 5, 104, [.nl, .nl, .nl, .nl, .d (.int .i64 0)], 0⟩),
  (76, ⟨.struct [(0, 1, false), (1, 1, false), (2, 1, false), (3, 1, false)], 4, 40, [.any, .any, .any, .d (.str ⟨#[]⟩)], 0⟩),
  (82, ⟨.int .u32, 1, 4, [.d (.int .u32 0)], 0⟩),
  (86, ⟨.one, 1, 8, [.any], 0⟩),
  (89, ⟨.struct [(0, 1, false), (1, 1, false), (2, 1, false), (3, 1, false), (4, 1, false), (5, 1, false), (6, 1, false), (7, 1, false), (8, 1, false), (9, 1, false), (10, 1, false)], 11, 48, [.d (.int .u64 0), .d (.int .u64 0), .d (.int .u32 0), .d (.int .u8 0), .d (.int .u8 0), .d (.int .u8 0), .d (.int .u8 0), .any, .any, .d (.int .i32 0), .d (.int .i32 0)], 0⟩),
  (91, ⟨.one, 1, 8, [.any], 0⟩)]

attribute [push_cast] wpT wpD confs conflB ids idsL doOp eff fixU frzE eff0 effMove effPick pickA effAlloc effBox effBuild effBuildSlice effLoad effStore effBin effUn effConvert effField aggList effFieldAddr effIndexAddr effIndex effExtract effMakeFunc effMakeSlice sliceArgs effSlice effSliceArr chunkD effBuiltin lenA effCall effCallP calleeA effX effNilCheck rn rnL rnR dn dnL dnR rnsOk hpOk nodupB swp gone back pinT frT XC.ti touched keyed two odd even cond_true cond_false sf_move ss_move sf_assign ss_assign sf_pick ss_pick sf_alloc ss_alloc sf_box ss_box sf_build ss_build sf_buildSlice ss_buildSlice sf_load ss_load sf_store ss_store sf_nilCheck ss_nilCheck sf_binOp ss_binOp sf_unOp ss_unOp sf_convert ss_convert sf_makeFunc ss_makeFunc sf_makeSlice ss_makeSlice sf_slice ss_slice sf_fieldAddr ss_fieldAddr sf_field ss_field sf_indexAddr ss_indexAddr sf_index ss_index sf_extract ss_extract sf_lookup ss_lookup sf_mapUpdate ss_mapUpdate sf_makeInterface ss_makeInterface sf_makeMap ss_makeMap sf_len sb_move sb_assign sb_pick sb_alloc sb_box sb_build sb_buildSlice sb_load sb_store sb_nilCheck sb_binOp sb_unOp sb_convert sb_makeFunc sb_makeSlice sb_slice sb_fieldAddr sb_field sb_indexAddr sb_index sb_extract sb_lookup sb_mapUpdate sb_makeInterface sb_makeMap sb_call sf_append sf_min sf_max sf_fun ss_call orcIds startX addAVs pinTm obs pinsOk rnL_map dnL_map rnR_dr dnR_dr dnR_app rnR_app wrap_0 wrap_1 wrap_2 wrap_n1 snap snaps resEff Res.free D.free D.frees D.freess snapF snapsF dstRows srcRows cellsA takeRow TI.isAgg mkAgg allD fillA putCells chunk rep eqD cav zav find pushL St.get St.obj St.put St.app St.eval St.guard strip optOb stripOk sg_move so_move sg_assign so_assign sg_alloc so_alloc sg_box so_box sg_build so_build sg_buildSlice so_buildSlice sg_load so_load sg_store so_store sg_nilCheck so_nilCheck sg_binOp so_binOp sg_unOp so_unOp sg_convert so_convert sg_makeFunc so_makeFunc sg_makeSlice so_makeSlice sg_slice so_slice sg_fieldAddr so_fieldAddr sg_field so_field sg_indexAddr so_indexAddr sg_index so_index sg_extract so_extract sg_call so_call sg_lookup so_lookup sg_mapUpdate so_mapUpdate sg_makeInterface so_makeInterface sg_makeMap so_makeMap sg_pick so_pick isNil notA allD_map allS allS_map mkAgg_map upR_dr rowsD_dr dr_length dr_nil dr_cons dr_append dr_at dr_take dr_drop dr_set upR_app upR_set rowsD_app rowsD take_map_len Op.operands Call.operands Abs.start addParams nbf seqQ blockQ retQ resAs oneOf resOk tyTab

theorem cx : Ctx Try.prog (find tyTab) := ctx_of_table tyTab (by kernel_rfl)
theorem mixed : Try.prog.follows .mixedOrders = true := by kernel_rfl

structure Cell where
  x : Int
  y : Int
  deriving DecidableEq

abbrev Cell.row (c : Cell) : List D := [.int .i64 c.x, .int .i64 c.y]
abbrev encCells (l : List Cell) : D := .sl (l.map Cell.row)

structure Track where
  role : Int
  closed : Bool
  cells : List Cell
  deriving DecidableEq

abbrev Track.row (t : Track) : List D := [.int .i64 t.role, .bool t.closed, encCells t.cells]
abbrev encTracks (l : List Track) : D := .sl (l.map Track.row)
theorem Cell.row_len (o : Cell) : o.row.length = 2 := rfl
theorem Track.row_len (o : Track) : o.row.length = 3 := rfl

def onG (c : Cell) : Bool := decide (-4096 ≤ c.x) && decide (c.x < 4096) && decide (-4096 ≤ c.y) && decide (c.y < 4096)
def dist (a b : Cell) : Int := max (a.x - b.x) (b.x - a.x) + max (a.y - b.y) (b.y - a.y)
def nbr (a b : Cell) : Bool := dist a b == 1

theorem onG_bd {c : Cell} (h : onG c = true) : -4096 ≤ c.x ∧ c.x < 4096 ∧ -4096 ≤ c.y ∧ c.y < 4096 := by
  simp [onG] at h; omega
theorem dist_bd {a b : Cell} (ha : onG a = true) (hb : onG b = true) : 0 ≤ dist a b ∧ dist a b ≤ 16384 := by
  have := onG_bd ha; have := onG_bd hb
  unfold dist; omega

theorem sq_one {x y : Int} (hx : -8192 ≤ x ∧ x ≤ 8192) (hy : -8192 ≤ y ∧ y ≤ 8192) : (x * x + y * y = 1) ↔ max x (-x) + max y (-y) = 1 := by
  have hx2 : 0 ≤ x * x := by
    rcases Int.le_total 0 x with h | h
    · exact Int.mul_nonneg h h
    · exact Int.mul_nonneg_of_nonpos_of_nonpos h h
  have hy2 : 0 ≤ y * y := by
    rcases Int.le_total 0 y with h | h
    · exact Int.mul_nonneg h h
    · exact Int.mul_nonneg_of_nonpos_of_nonpos h h
  have big : ∀ z : Int, 2 ≤ max z (-z) → 4 ≤ z * z := by
    intro z hz
    rcases Int.le_total 0 z with h | h
    · have := Int.mul_le_mul (show (2 : Int) ≤ z by omega) (show (2 : Int) ≤ z by omega) (by omega) (by omega); omega
    · have := Int.mul_le_mul (show (2 : Int) ≤ -z by omega) (show (2 : Int) ≤ -z by omega) (by omega) (by omega)
      rw [Int.neg_mul_neg] at this; omega
  have small : ∀ z : Int, max z (-z) ≤ 1 → z * z = max z (-z) := by
    intro z hz
    have : z = 0 ∨ z = 1 ∨ z = -1 := by omega
    rcases this with rfl | rfl | rfl <;> decide
  by_cases h1 : 2 ≤ max x (-x)
  · have := big x h1; constructor <;> intro <;> omega
  · by_cases h2 : 2 ≤ max y (-y)
    · have := big y h2; constructor <;> intro <;> omega
    · rw [small x (by omega), small y (by omega)]

theorem sq_bd {z : Int} (h : -8192 ≤ z ∧ z ≤ 8192) : 0 ≤ z * z ∧ z * z ≤ 67108864 := by
  rcases Int.le_total 0 z with h0 | h0
  · exact ⟨Int.mul_nonneg h0 h0, by have := Int.mul_le_mul h.2 h.2 h0 (by omega); omega⟩
  · have h1 := Int.mul_le_mul (show -z ≤ 8192 by omega) (show -z ≤ 8192 by omega) (by omega) (by omega)
    rw [Int.neg_mul_neg] at h1
    exact ⟨Int.mul_nonneg_of_nonpos_of_nonpos h0 h0, by omega⟩
end Go.Proofs.Ytdoedfheagkloaa
