/-
  Texts of this seat put together: Base, BD1, BD2, R1, BW1, AbsZ, AbsI, BW2.
-/
import Derived.Test.YtdddknniooimmaaGreatI3
import Derived.Test.YtdddknniooimmaaGreatRows
import Derived.Shelf.Sort.Plain
import Derived.Shelf.Slices.In.SortNone
import Derived.Shelf.Slices.CompactI
import Derived.Lib.RowBridge
import Derived.Shelf.SlicesE.Delete
import Derived.Test.YtdddknniooimmaaGreatChecked
set_option linter.unusedVariables false
set_option linter.unusedSimpArgs false
set_option maxRecDepth 100000
namespace Go.Proofs.YtdddknniooimmaaGreat
open Go.Abs
instance flag0 : Flag := ⟨False⟩
def tyTab : List (Nat × TI) := [
  (2, ⟨.int .i64, 1, 8, [.d (.int .i64 0)], 0⟩),
  (3, ⟨.int .i64, 1, 8, [.d (.int .i64 0)], 0⟩),
  (4, ⟨.bool, 1, 1, [.d (.bool false)], 0⟩),
  (5, ⟨.int .u8, 1, 1, [.d (.int .u8 0)], 0⟩),
  (7, ⟨.struct [(0, 1, false), (1, 1, false), (2, 1, false), (3, 1, false)], 4, 24, [.d (.int .i64 0), .d (.int .i64 0), .d (.bool false), .d (.int .u8 0)], 0⟩),
  (9, ⟨.str, 1, 16, [.d (.str ⟨#[]⟩)], 0⟩),
  (12, ⟨.int .u64, 1, 8, [.d (.int .u64 0)], 0⟩),
  (13, ⟨.struct [(0, 1, false), (1, 1, false)], 2, 24, [.d (.str ⟨#[]⟩), .d (.int .u64 0)], 0⟩),
  (15, ⟨.one, 1, 8, [.d .np], 0⟩),
  (16, ⟨.one, 1, 8, [.d .np], 0⟩),
  (17, ⟨.one, 1, 8, [.d .np], 0⟩),
  (18, ⟨.struct [(0, 1, false)], 1, 8, [.d .np], 0⟩),
  (21, ⟨.int .i32, 1, 4, [.d (.int .i32 0)], 0⟩),
  (22, ⟨.slice 65, 1, 24, [.nl], 0⟩),
  (23, ⟨.struct [(0, 1, false)], 1, 24, [.nl], 0⟩),
  (24, ⟨.struct [(0, 1, false)], 1, 24, [.nl], 0⟩),
  (27, ⟨.slice 24, 1, 24, [.nl], 0⟩),
  (31, ⟨.int .i64, 1, 8, [.d (.int .i64 0)], 0⟩),
  (37, ⟨.slice 94, 1, 24, [.nl], 0⟩),
  (48, ⟨.slice 55, 1, 24, [.nl], 0⟩),
  (53, ⟨.slice 58, 1, 24, [.nl], 0⟩),
  (54, ⟨.struct [(0, 1, false)], 1, 24, [.nl], 0⟩),
  (55, ⟨.struct [(0, 1, false)], 1, 24, [.nl], 0⟩),
  (57, ⟨.struct [(0, 1, false), (1, 1, false)], 2, 16, [.d (.int .i64 0), .d (.int .i64 0)], 1⟩),
  (58, ⟨.struct [(0, 1, false), (1, 1, false)], 2, 16, [.d (.int .i64 0), .d (.int .i64 0)], 1⟩),
  (63, ⟨.slice 85, 1, 24, [.nl], 0⟩),
  (64, ⟨.struct [(0, 1, false), (1, 1, false)], 2, 32, [.d (.int .i64 0), .nl], 0⟩),
  (65, ⟨.struct [(0, 1, false), (1, 1, false)], 2, 32, [.d (.int .i64 0), .nl], 0⟩),
  (67, ⟨.struct [(0, 1, false), (1, 1, false)], 2, 16, [.d (.int .i64 0), .d (.int .i64 0)], 1⟩),
  (73, ⟨.slice 75, 1, 24, [.nl], 0⟩),
  (75, ⟨.slice 67, 1, 24, [.nl], 0⟩),
  (82, ⟨.one, 1, 8, [.any], 0⟩),
  (84, ⟨.struct [(0, 1, false), (1, 1, false)], 2, 16, [.d (.int .i64 0), .d (.int .i64 0)], 1⟩),
  (85, ⟨.struct [(0, 1, false), (1, 1, false)], 2, 16, [.d (.int .i64 0), .d (.int .i64 0)], 1⟩),
  (87, ⟨.map 3 63, 1, 8, [.any], 0⟩),
  (88, ⟨.struct [(0, 1, false), (1, 1, false)], 2, 16, [.any, .any], 0⟩),
  (89, ⟨.struct [(0, 1, false), (1, 1, false)], 2, 16, [.any, .any], 0⟩),
  (93, ⟨.struct [(0, 1, false), (1, 1, false), (2, 1, false)], 3, 40, [.d (.int .i64 0), .d (.bool false), .nl], 0⟩),
  (94, ⟨.struct [(0, 1, false), (1, 1, false), (2, 1, false)], 3, 40, [.d (.int .i64 0), .d (.bool false), .nl], 0⟩),
  (97, ⟨.slice 94, 1, 24, [.nl], 0⟩),
  (111, ⟨.map 67 4, 1, 8, [.any], 0⟩),
  (113, ⟨.slice 4, 1, 24, [.nl], 0⟩),
  (117, ⟨.map 58 121, 1, 8, [.any], 0⟩),
  (118, ⟨.map 58 121, 1, 8, [.any], 0⟩),
  (121, ⟨.slice 178, 1, 24, [.nl], 0⟩),
  (123, ⟨.slice 127, 1, 24, [.nl], 0⟩),
  (126, ⟨.struct [(0, 2, true), (2, 2, true)], 4, 32, [.d (.int .i64 0), .d (.int .i64 0), .d (.int .i64 0), .d (.int .i64 0)], 0⟩),
  (127, ⟨.struct [(0, 2, true), (2, 2, true)], 4, 32, [.d (.int .i64 0), .d (.int .i64 0), .d (.int .i64 0), .d (.int .i64 0)], 0⟩),
  (131, ⟨.slice 136, 1, 24, [.nl], 0⟩),
  (134, ⟨.slice 3, 1, 24, [.nl], 0⟩),
  (135, ⟨.struct [(0, 1, false), (1, 1, false), (2, 1, false), (3, 1, false)], 4, 32, [.d (.int .i64 0), .d (.int .i64 0), .d (.int .i64 0), .d (.int .i64 0)], 1⟩),
  (136, ⟨.struct [(0, 1, false), (1, 1, false), (2, 1, false), (3, 1, false)], 4, 32, [.d (.int .i64 0), .d (.int .i64 0), .d (.int .i64 0), .d (.int .i64 0)], 1⟩),
  (146, ⟨.slice 193, 1, 24, [.nl], 0⟩),
  (151, ⟨.map 67 3, 1, 8, [.any], 0⟩),
  (158, ⟨.one, 1, 8, [.d .np], 0⟩),
  (159, ⟨.one, 1, 8, [.d .np], 0⟩),
  (168, ⟨.one, 1, 8, [.d .np], 0⟩),
  (169, ⟨.one, 1, 8, [.d .np], 0⟩),
  (174, ⟨.int .u64, 1, 8, [.d (.int .u64 0)], 0⟩),
  (178, ⟨.int .i64, 1, 8, [.d (.int .i64 0)], 0⟩),
  (183, ⟨.arr 3 178, 3, 24, [.d (.int .i64 0), .d (.int .i64 0), .d (.int .i64 0)], 1⟩),
  (192, ⟨.struct [(0, 2, true), (2, 2, true), (4, 1, false)], 5, 40, [.d (.int .i64 0), .d (.int .i64 0), .d (.int .i64 0), .d (.int .i64 0), .d (.int .i64 0)], 0⟩),
  (193, ⟨.struct [(0, 2, true), (2, 2, true), (4, 1, false)], 5, 40, [.d (.int .i64 0), .d (.int .i64 0), .d (.int .i64 0), .d (.int .i64 0), .d (.int .i64 0)], 0⟩),
  (198, ⟨.slice 200, 1, 24, [.nl], 0⟩),
  (199, ⟨.struct [(0, 1, false), (1, 1, false)], 2, 16, [.d (.int .i64 0), .d (.int .i64 0)], 1⟩),
  (200, ⟨.struct [(0, 1, false), (1, 1, false)], 2, 16, [.d (.int .i64 0), .d (.int .i64 0)], 1⟩),
  (206, ⟨.one, 1, 8, [.d .np], 0⟩),
  (207, ⟨.struct [(0, 1, false), (1, 1, false)], 2, 32, [.nl, .d (.int .i64 0)], 0⟩),
  (208, ⟨.struct [(0, 1, false), (1, 1, false)], 2, 32, [.nl, .d (.int .i64 0)], 0⟩),
  (216, ⟨.arr 2 24, 2, 48, [.nl, .nl], 0⟩),
  (221, ⟨.int .i64, 1, 8, [.d (.int .i64 0)], 0⟩),
  (228, ⟨.int .u32, 1, 4, [.d (.int .u32 0)], 0⟩),
  (230, ⟨.int .u64, 1, 8, [.d (.int .u64 0)], 0⟩),
  (256, ⟨.int .u64, 1, 8, [.d (.int .u64 0)], 0⟩),
  (260, ⟨.one, 1, 8, [.d .np], 0⟩),
  (284, ⟨.one, 1, 8, [.d .np], 0⟩),
  (307, ⟨.struct [(0, 1, false), (1, 1, false), (2, 1, false), (3, 1, false)], 4, 40, [.d .np, .d .np, .d .np, .d (.str ⟨#[]⟩)], 0⟩),
  (314, ⟨.one, 1, 8, [.any], 0⟩),
  (315, ⟨.one, 1, 8, [.d .np], 0⟩),
  (318, ⟨.struct [(0, 1, false), (1, 1, false), (2, 1, false), (3, 1, false), (4, 1, false), (5, 1, false), (6, 1, false), (7, 1, false), (8, 1, false), (9, 1, false), (10, 1, false)], 11, 48, [.d (.int .u64 0), .d (.int .u64 0), .d (.int .u32 0), .d (.int .u8 0), .d (.int .u8 0), .d (.int .u8 0), .d (.int .u8 0), .any, .d .np, .d (.int .i32 0), .d (.int .i32 0)], 0⟩),
  (320, ⟨.one, 1, 8, [.d .np], 0⟩)]

attribute [push_cast] wpT wpD confs conflB ids idsL doOp eff fixU frzE eff0 effMove effPick pickA effAlloc effBox effBuild effBuildSlice effLoad effStore effBin effUn effConvert effField aggList effFieldAddr effIndexAddr effIndex effExtract effMakeFunc effMakeSlice sliceArgs effSlice effSliceArr chunkD effBuiltin lenA effCall effCallP calleeA effX effNilCheck rn rnL rnR dn dnL dnR rnsOk hpOk nodupB swp gone back pinT frT XC.ti touched keyed two odd even cond_true cond_false sf_move ss_move sf_assign ss_assign sf_pick ss_pick sf_alloc ss_alloc sf_box ss_box sf_build ss_build sf_buildSlice ss_buildSlice sf_load ss_load sf_store ss_store sf_nilCheck ss_nilCheck sf_binOp ss_binOp sf_unOp ss_unOp sf_convert ss_convert sf_makeFunc ss_makeFunc sf_makeSlice ss_makeSlice sf_slice ss_slice sf_fieldAddr ss_fieldAddr sf_field ss_field sf_indexAddr ss_indexAddr sf_index ss_index sf_extract ss_extract sf_lookup ss_lookup sf_mapUpdate ss_mapUpdate sf_makeInterface ss_makeInterface sf_makeMap ss_makeMap sf_len sb_move sb_assign sb_pick sb_alloc sb_box sb_build sb_buildSlice sb_load sb_store sb_nilCheck sb_binOp sb_unOp sb_convert sb_makeFunc sb_makeSlice sb_slice sb_fieldAddr sb_field sb_indexAddr sb_index sb_extract sb_lookup sb_mapUpdate sb_makeInterface sb_makeMap sb_call sf_append sf_delete effMakeMap effLookup mapRows effMapUpdate effDelete keyFits isInt zeroA sf_min sf_max sf_fun ss_call orcIds startX addAVs pinTm obs pinsOk rnL_map dnL_map rnR_dr dnR_dr dnR_app rnR_app wrap_0 wrap_1 wrap_2 wrap_n1 snap snaps resEff Res.free D.free D.frees D.freess snapF snapsF dstRows srcRows cellsA takeRow TI.isAgg mkAgg allD fillA putCells chunk rep eqD cav zav find pushL St.get St.obj St.put St.app St.eval St.guard strip optOb stripOk sg_move so_move sg_assign so_assign sg_alloc so_alloc sg_box so_box sg_build so_build sg_buildSlice so_buildSlice sg_load so_load sg_store so_store sg_nilCheck so_nilCheck sg_binOp so_binOp sg_unOp so_unOp sg_convert so_convert sg_makeFunc so_makeFunc sg_makeSlice so_makeSlice sg_slice so_slice sg_fieldAddr so_fieldAddr sg_field so_field sg_indexAddr so_indexAddr sg_index so_index sg_extract so_extract sg_call so_call sg_lookup so_lookup sg_mapUpdate so_mapUpdate sg_makeInterface so_makeInterface sg_makeMap so_makeMap sg_pick so_pick isNil notA allD_map allS allS_map mkAgg_map upR_dr rowsD_dr dr_length dr_nil dr_cons dr_append dr_at dr_take dr_drop dr_set upR_app upR_set rowsD_app rowsD take_map_len Op.operands Call.operands Abs.start addParams nbf seqQ blockQ retQ resAs oneOf resOk tyTab po_binOp po_index po_slice po_convert po_call po_lookup po_load po_store effExt

theorem cx : Ctx Tryz.prog (find tyTab) := ctx_of_table tyTab (by kernel_rfl)
theorem mixed : Tryz.prog.follows .mixedOrders = true := by kernel_rfl

structure Cell where
  x : Int
  y : Int
  deriving DecidableEq

abbrev Cell.row (c : Cell) : List D := [.int .i64 c.x, .int .i64 c.y]
abbrev encCells (l : List Cell) : D := .sl (l.map Cell.row)

structure Track where
  role : Int
  closed : Bool
  cells : List Cell
  deriving DecidableEq

abbrev Track.row (t : Track) : List D := [.int .i64 t.role, .bool t.closed, encCells t.cells]
abbrev encTracks (l : List Track) : D := .sl (l.map Track.row)
structure Run where
  a : Int
  b : Int
  deriving DecidableEq
abbrev Run.row (r : Run) : List D := [.int .i64 r.a, .int .i64 r.b]
abbrev encRuns (l : List Run) : D := .sl (l.map Run.row)
structure Row where
  y : Int
  runs : List Run
  deriving DecidableEq
abbrev Row.row (r : Row) : List D := [.int .i64 r.y, encRuns r.runs]
abbrev encRows (l : List Row) : D := .sl (l.map Row.row)
abbrev regRow (l : List Row) : List D := [encRows l]

def onG (c : Cell) : Bool := decide (-4096 ≤ c.x) && decide (c.x < 4096) && decide (-4096 ≤ c.y) && decide (c.y < 4096)
theorem onG_bd {c : Cell} (h : onG c = true) : -4096 ≤ c.x ∧ c.x < 4096 ∧ -4096 ≤ c.y ∧ c.y < 4096 := by
  simp [onG] at h; omega

theorem all_range_succ {f : Nat → Bool} {k : Nat} : (List.range (k + 1)).all f = ((List.range k).all f && f k) := by
  simp [List.range_succ]

theorem all_range_false {f : Nat → Bool} {k n : Nat} (hk : k < n) (h : f k = false) : (List.range n).all f = false := by
  rw [Bool.eq_false_iff]
  intro ha
  have := List.all_eq_true.1 ha k (by simpa using hk)
  rw [h] at this
  cases this
theorem all_range_at {f : Nat → Bool} {k n : Nat} (h : (List.range n).all f = true) (hk : k < n) : f k = true :=
  List.all_eq_true.1 h k (by simpa using hk)

theorem take_eq_step {α : Type} {l r : List α} {k : Nat} {x y : α} (h : l.take k = r.take k) (hx : l[k]? = some x) (hy : r[k]? = some y) (e : x = y) : l.take (k + 1) = r.take (k + 1) := by
  rw [List.take_add_one, List.take_add_one, h, hx, hy, e]

theorem getq {α : Type} {l : List α} {k : Nat} (h : k < l.length) : ∃ x, l[k]? = some x := ⟨l[k], List.getElem?_eq_getElem h⟩

theorem drop_get {α : Type} {l : List α} {k : Nat} {x : α} (h : l[k]? = some x) : l.drop k = x :: l.drop (k + 1) := by
  have hlt := (List.getElem?_eq_some_iff.1 h).1
  rw [List.drop_eq_getElem_cons hlt]
  have := List.getElem?_eq_getElem hlt
  rw [h] at this
  cases this; rfl
theorem take_get {α : Type} {l : List α} {k : Nat} {x : α} (h : l[k]? = some x) : l.take (k + 1) = l.take k ++ [x] := by
  rw [List.take_add_one, h]; rfl
end Go.Proofs.YtdddknniooimmaaGreat

set_option linter.unusedSectionVars false
namespace Go.Proofs.YtdddknniooimmaaGreat
open Go.Abs

inductive Hd where
  | e | n | w | s
  deriving DecidableEq, Repr
def Hd.l : Hd → Hd | .e => .n | .n => .w | .w => .s | .s => .e
def Hd.r : Hd → Hd | .e => .s | .n => .e | .w => .n | .s => .w
def Hd.int : Hd → Int | .e => 0 | .n => 1 | .w => 2 | .s => 3
theorem Hd.int_inj {a b : Hd} (h : a.int = b.int) : a = b := by cases a <;> cases b <;> simp_all [Hd.int]
theorem Hd.l_ne (h : Hd) : h.l ≠ h := by cases h <;> simp [Hd.l]
theorem Hd.r_ne (h : Hd) : h.r ≠ h := by cases h <;> simp [Hd.r]
def stp : Hd → Cell → Cell
  | .e, p => ⟨p.x + 1, p.y⟩
  | .n, p => ⟨p.x, p.y + 1⟩
  | .w, p => ⟨p.x - 1, p.y⟩
  | .s, p => ⟨p.x, p.y - 1⟩
def lcell : Hd → Cell → Cell
  | .e, p => p
  | .n, p => ⟨p.x - 1, p.y⟩
  | .w, p => ⟨p.x - 1, p.y - 1⟩
  | .s, p => ⟨p.x, p.y - 1⟩
def rcell : Hd → Cell → Cell
  | .e, p => ⟨p.x, p.y - 1⟩
  | .n, p => p
  | .w, p => ⟨p.x - 1, p.y⟩
  | .s, p => ⟨p.x - 1, p.y - 1⟩
structure Crk where
  p : Cell
  h : Hd
  deriving DecidableEq
def isC (S : Cell → Bool) (c : Crk) : Bool := S (lcell c.h c.p) && !S (rcell c.h c.p)
def nxH (S : Cell → Bool) (q : Cell) (h : Hd) : Hd := if isC S ⟨q, h.l⟩ then h.l else if isC S ⟨q, h⟩ then h else h.r
def Crk.q (c : Crk) : Cell := stp c.h c.p
def suc (S : Cell → Bool) (c : Crk) : Crk := ⟨c.q, nxH S c.q c.h⟩
def inQ (ne nw sw se : Bool) : Hd → Bool | .e => nw && !sw | .n => sw && !se | .w => se && !ne | .s => ne && !nw
def outB (ne nw sw se : Bool) : Hd → Bool | .e => ne && !se | .n => nw && !ne | .w => sw && !nw | .s => se && !sw
def nxB (ne nw sw se : Bool) (h : Hd) : Hd := if outB ne nw sw se h.l then h.l else if outB ne nw sw se h then h else h.r
theorem outB_of (S : Cell → Bool) (z : Cell) (h : Hd) : isC S ⟨z, h⟩ = outB (S z) (S ⟨z.x - 1, z.y⟩) (S ⟨z.x - 1, z.y - 1⟩) (S ⟨z.x, z.y - 1⟩) h := by
  cases h <;> rfl
theorem inQ_of (S : Cell → Bool) (c : Crk) : isC S c = inQ (S c.q) (S ⟨c.q.x - 1, c.q.y⟩) (S ⟨c.q.x - 1, c.q.y - 1⟩) (S ⟨c.q.x, c.q.y - 1⟩) c.h := by
  obtain ⟨⟨x, y⟩, h⟩ := c
  cases h <;> simp [isC, inQ, Crk.q, stp, lcell, rcell]
theorem nxB_of (S : Cell → Bool) (z : Cell) (h : Hd) : nxH S z h = nxB (S z) (S ⟨z.x - 1, z.y⟩) (S ⟨z.x - 1, z.y - 1⟩) (S ⟨z.x, z.y - 1⟩) h := by
  unfold nxH nxB
  rw [outB_of, outB_of]
theorem nxB_out {ne nw sw se : Bool} {h : Hd} (hi : inQ ne nw sw se h = true) : outB ne nw sw se (nxB ne nw sw se h) = true := by
  revert hi; cases ne <;> cases nw <;> cases sw <;> cases se <;> cases h <;> decide
theorem nxB_inj {ne nw sw se : Bool} {h k : Hd} (hi : inQ ne nw sw se h = true) (hk : inQ ne nw sw se k = true) (e : nxB ne nw sw se h = nxB ne nw sw se k) : h = k := by
  revert hi hk e; cases ne <;> cases nw <;> cases sw <;> cases se <;> cases h <;> cases k <;> decide
theorem suc_is {S : Cell → Bool} {c : Crk} (h : isC S c = true) : isC S (suc S c) = true := by
  unfold suc
  rw [outB_of, nxB_of]
  rw [inQ_of] at h
  exact nxB_out h
theorem suc_inj {S : Cell → Bool} {a b : Crk} (ha : isC S a = true) (hb : isC S b = true) (e : suc S a = suc S b) : a = b := by
  unfold suc at e
  have e1 : a.q = b.q := by injection e
  have e2 : nxH S a.q a.h = nxH S b.q b.h := by injection e
  rw [inQ_of] at ha hb
  rw [e1] at ha
  rw [e1, nxB_of, nxB_of] at e2
  have e3 := nxB_inj ha hb e2
  obtain ⟨⟨x, y⟩, h⟩ := a
  obtain ⟨⟨x', y'⟩, h'⟩ := b
  simp only at e3
  subst e3
  simp only [Crk.q] at e1
  cases h <;> simp [stp] at e1 <;> simp <;> omega
section
variable {α : Type} (f : α → α)
def itn : Nat → α → α
  | 0, c => c
  | n + 1, c => itn n (f c)
def orb : Nat → α → List α
  | 0, _ => []
  | n + 1, c => c :: orb n (f c)
end
section
variable {α : Type} {f : α → α}
theorem itn_add : ∀ (m n : Nat) (c : α), itn f (m + n) c = itn f n (itn f m c)
  | 0, n, c => by simp [itn]
  | m + 1, n, c => by rw [Nat.succ_add]; simp only [itn]; exact itn_add m n (f c)
theorem itn_succ (n : Nat) (c : α) : itn f (n + 1) c = f (itn f n c) := by rw [itn_add]; rfl
theorem orb_length : ∀ (n : Nat) (c : α), (orb f n c).length = n
  | 0, _ => rfl
  | n + 1, c => by simp [orb, orb_length n]
theorem orb_get : ∀ {n i : Nat} {c : α}, i < n → (orb f n c)[i]? = some (itn f i c)
  | 0, _, _, h => absurd h (Nat.not_lt_zero _)
  | n + 1, 0, c, _ => rfl
  | n + 1, i + 1, c, h => by simp only [orb, List.getElem?_cons_succ, itn]; exact orb_get (by omega)
theorem orb_succ : ∀ (n : Nat) (c : α), orb f (n + 1) c = orb f n c ++ [itn f n c]
  | 0, c => rfl
  | n + 1, c => by rw [orb, orb_succ n (f c)]; rfl
theorem orb_add : ∀ (m n : Nat) (c : α), orb f (m + n) c = orb f m c ++ orb f n (itn f m c)
  | 0, n, c => by simp [orb, itn]
  | m + 1, n, c => by rw [Nat.succ_add]; simp only [orb, itn, List.cons_append]; rw [orb_add m n (f c)]
theorem mem_orb {n : Nat} {c x : α} : x ∈ orb f n c ↔ ∃ i, i < n ∧ x = itn f i c := by
  rw [List.mem_iff_getElem?]
  constructor
  · rintro ⟨i, h⟩
    have hi := (List.getElem?_eq_some_iff.1 h).1
    rw [orb_length] at hi
    rw [orb_get hi] at h
    exact ⟨i, hi, by cases h; rfl⟩
  · rintro ⟨i, hi, rfl⟩
    exact ⟨i, orb_get hi⟩
structure Per (f : α → α) (c : α) (n : Nat) : Prop where
  pos : 0 < n
  ret : itn f n c = c
  least : ∀ i, 0 < i → i < n → itn f i c ≠ c
theorem Per.eq {c : α} {m n : Nat} (h : Per f c m) (k : Per f c n) : m = n := by
  rcases Nat.lt_trichotomy m n with e | e | e
  · exact absurd h.ret (k.least m h.pos e)
  · exact e
  · exact absurd k.ret (h.least n k.pos e)
theorem inj_nodup_len [DecidableEq α] : ∀ {l m : List α}, l.Nodup → (∀ x ∈ l, x ∈ m) → l.length ≤ m.length
  | [], m, _, _ => Nat.zero_le _
  | a :: l, m, hn, hs => by
    obtain ⟨h1, h2⟩ := List.nodup_cons.1 hn
    have ha := hs a (by simp)
    have := inj_nodup_len (l := l) (m := m.erase a) h2 fun x hx => by
      have hne : x ≠ a := fun e => h1 (e ▸ hx)
      exact (List.mem_erase_of_ne hne).2 (hs x (by simp [hx]))
    rw [List.length_erase_of_mem ha] at this
    have hp := List.length_pos_of_mem ha
    simp only [List.length_cons]
    omega
section
variable [DecidableEq α] {C : List α} (hcl : ∀ c ∈ C, f c ∈ C) (hinj : ∀ a ∈ C, ∀ b ∈ C, f a = f b → a = b)
include hcl in
theorem itn_mem {c : α} (hc : c ∈ C) : ∀ n, itn f n c ∈ C
  | 0 => hc
  | n + 1 => by rw [itn_succ]; exact hcl _ (itn_mem hc n)
include hcl hinj in
theorem itn_back {c : α} (hc : c ∈ C) : ∀ (i j : Nat), itn f (i + j) c = itn f i c → itn f j c = c
  | 0, j, h => by rw [Nat.zero_add] at h; exact h
  | i + 1, j, h => by
    rw [show i + 1 + j = (i + j) + 1 by omega, itn_succ, itn_succ] at h
    exact itn_back hc i j (hinj _ (itn_mem hcl hc _) _ (itn_mem hcl hc _) h)
theorem nodup_of_get {l : List α} (h : ∀ i j, i < j → j < l.length → l[i]? ≠ l[j]?) : l.Nodup := by
  induction l with
  | nil => exact List.nodup_nil
  | cons a l ih =>
    refine List.nodup_cons.2 ⟨fun ha => ?_, ih fun i j hij hj => by have := h (i + 1) (j + 1) (by omega) (by simp; omega); simpa using this⟩
    obtain ⟨j, hj⟩ := List.mem_iff_getElem?.1 ha
    have hl := (List.getElem?_eq_some_iff.1 hj).1
    exact h 0 (j + 1) (by omega) (by simp; omega) (by simp [hj])
include hcl hinj in
theorem orb_nodup {c : α} (hc : c ∈ C) {n : Nat} (h : ∀ i, 0 < i → i < n → itn f i c ≠ c) : (orb f n c).Nodup := by
  refine nodup_of_get fun i j hij hj => ?_
  rw [orb_length] at hj
  rw [orb_get (by omega), orb_get hj]
  intro e
  have e : itn f i c = itn f j c := by injection e
  have := itn_back hcl hinj hc i (j - i) (by rw [show i + (j - i) = j by omega]; exact e.symm)
  exact h (j - i) (by omega) (by omega) this
include hcl hinj in
theorem per_ex {c : α} (hc : c ∈ C) : ∃ n, Per f c n ∧ n ≤ C.length := by
  have h1 : ∃ n, 0 < n ∧ n ≤ C.length ∧ itn f n c = c := by
    apply Classical.byContradiction
    intro hno
    have hnd : (orb f (C.length + 1) c).Nodup := orb_nodup hcl hinj hc fun i h0 hi e => hno ⟨i, h0, by omega, e⟩
    have := inj_nodup_len hnd (m := C) fun x hx => by
      obtain ⟨i, _, rfl⟩ := mem_orb.1 hx
      exact itn_mem hcl hc i
    rw [orb_length] at this
    omega
  obtain ⟨n, h1⟩ := h1
  induction n using Nat.strongRecOn with
  | _ n ih =>
    by_cases hl : ∃ i, 0 < i ∧ i < n ∧ itn f i c = c
    · obtain ⟨i, a, b, e⟩ := hl
      exact ih i b ⟨a, by omega, e⟩
    · exact ⟨n, ⟨h1.1, h1.2.2, fun i a b e => hl ⟨i, a, b, e⟩⟩, h1.2.1⟩
include hcl hinj in
theorem Per.next {c : α} (hc : c ∈ C) {n : Nat} (h : Per f c n) : Per f (f c) n := by
  have comm : ∀ i, Go.Proofs.YtdddknniooimmaaGreat.itn f i (f c) = f (Go.Proofs.YtdddknniooimmaaGreat.itn f i c) := fun i => (itn_succ (f := f) i c).symm ▸ rfl
  refine ⟨h.pos, by rw [comm, h.ret], fun i a b e => ?_⟩
  rw [comm] at e
  exact h.least i a b (hinj _ (itn_mem hcl hc i) _ hc e)
include hcl hinj in
theorem Per.itn {c : α} (hc : c ∈ C) {n : Nat} (h : Per f c n) : ∀ i, Per f (itn f i c) n
  | 0 => h
  | i + 1 => by rw [itn_succ]; exact (Per.itn hc h i).next hcl hinj (itn_mem hcl hc i)
theorem Per.mod {c : α} {n : Nat} (h : Per f c n) (i : Nat) : Go.Proofs.YtdddknniooimmaaGreat.itn f i c = Go.Proofs.YtdddknniooimmaaGreat.itn f (i % n) c := by
  have h1 : ∀ k, Go.Proofs.YtdddknniooimmaaGreat.itn f (n * k) c = c := by
    intro k
    induction k with
    | zero => rfl
    | succ k ih => rw [Nat.mul_succ, itn_add, ih, h.ret]
  conv => lhs; rw [← Nat.div_add_mod i n, itn_add, h1]
theorem Per.orb_mem {c d : α} {n : Nat} (h : Per f c n) (hd : d ∈ orb f n c) : ∀ x, x ∈ orb f n d ↔ x ∈ orb f n c := by
  obtain ⟨k, hk, rfl⟩ := mem_orb.1 hd
  intro x
  constructor
  · intro hx
    obtain ⟨i, hi, rfl⟩ := mem_orb.1 hx
    rw [← itn_add, h.mod]
    exact mem_orb.2 ⟨_, Nat.mod_lt _ h.pos, rfl⟩
  · intro hx
    obtain ⟨i, hi, rfl⟩ := mem_orb.1 hx
    refine mem_orb.2 ⟨(i + n - k) % n, Nat.mod_lt _ h.pos, ?_⟩
    rw [← itn_add, h.mod i, h.mod (k + _)]
    congr 1
    rw [Nat.add_mod, Nat.mod_mod, ← Nat.add_mod, show k + (i + n - k) = i + n by omega, Nat.add_mod_right]
theorem Per.rot {c : α} {n k : Nat} (h : Per f c n) (hk : k ≤ n) : orb f n (Go.Proofs.YtdddknniooimmaaGreat.itn f k c) = (orb f n c).drop k ++ (orb f n c).take k := by
  have e1 : orb f n c = orb f k c ++ orb f (n - k) (Go.Proofs.YtdddknniooimmaaGreat.itn f k c) := by rw [← orb_add]; congr 1; omega
  have e2 : orb f n (Go.Proofs.YtdddknniooimmaaGreat.itn f k c) = orb f (n - k) (Go.Proofs.YtdddknniooimmaaGreat.itn f k c) ++ orb f k c := by
    have : orb f n (Go.Proofs.YtdddknniooimmaaGreat.itn f k c) = orb f ((n - k) + k) (Go.Proofs.YtdddknniooimmaaGreat.itn f k c) := by congr 1; omega
    rw [this, orb_add, ← itn_add, show k + (n - k) = n by omega, h.ret]
  rw [e2, e1, List.drop_left' (orb_length ..), List.take_left' (orb_length ..)]
end
end
def lowC (a b : Cell) : Prop := a.y < b.y ∨ (a.y = b.y ∧ a.x < b.x)
theorem lowC_irr (a : Cell) : ¬ lowC a a := by unfold lowC; omega
theorem lowC_asym {a b : Cell} (h : lowC a b) : ¬ lowC b a := by unfold lowC at *; omega
theorem lowC_trans {a b c : Cell} (h : lowC a b) (k : lowC b c) : lowC a c := by unfold lowC at *; omega
theorem lowC_tri (a b : Cell) : lowC a b ∨ a = b ∨ lowC b a := by
  obtain ⟨x, y⟩ := a; obtain ⟨u, v⟩ := b
  unfold lowC; simp only [Cell.mk.injEq]; omega
theorem lowC_step {c : Crk} (h : ¬ lowC c.q c.p) : c.h = .e ∨ c.h = .n := by
  obtain ⟨⟨x, y⟩, k⟩ := c
  cases k <;> simp [lowC, Crk.q, stp] at h ⊢ <;> omega
theorem lowC_step' {a : Crk} (h : ¬ lowC a.p a.q) : a.h = .w ∨ a.h = .s := by
  obtain ⟨⟨x, y⟩, k⟩ := a
  cases k <;> simp [lowC, Crk.q, stp] at h ⊢ <;> omega
theorem q_ne (c : Crk) : c.q ≠ c.p := by
  obtain ⟨⟨x, y⟩, k⟩ := c
  intro h
  cases k <;> simp [Crk.q, stp] at h <;> omega
theorem least_one {S : Cell → Bool} {c d : Crk} (hc : isC S c = true) (hd : isC S d = true) (e : c.p = d.p) (h1 : ¬ lowC c.q c.p) (h2 : ¬ lowC d.q d.p) : c = d := by
  have k1 := lowC_step h1
  have k2 := lowC_step h2
  obtain ⟨p, h⟩ := c
  obtain ⟨p', k⟩ := d
  simp only at e k1 k2
  subst e
  rw [outB_of] at hc hd
  rcases k1 with rfl | rfl <;> rcases k2 with rfl | rfl <;> simp [outB] at hc hd ⊢ <;> simp_all

def Cracks (S : Cell → Bool) (C : List Crk) : Prop := ∀ c, c ∈ C ↔ isC S c = true
theorem Cracks.cl {S : Cell → Bool} {C : List Crk} (h : Cracks S C) : ∀ c ∈ C, suc S c ∈ C := fun c hc => (h _).2 (suc_is ((h c).1 hc))
theorem Cracks.inj {S : Cell → Bool} {C : List Crk} (h : Cracks S C) : ∀ a ∈ C, ∀ b ∈ C, suc S a = suc S b → a = b := fun a ha b hb e => suc_inj ((h a).1 ha) ((h b).1 hb) e
def IsLp (S : Cell → Bool) (L : List Crk) : Prop := ∃ c n, isC S c = true ∧ Per (suc S) c n ∧ L = orb (suc S) n c ∧ ∀ d ∈ L, d ≠ c → lowC c.p d.p
def lowL (L M : List Crk) : Prop := ∃ c d, L.head? = some c ∧ M.head? = some d ∧ lowC c.p d.p
structure Lps (S : Cell → Bool) (Ls : List (List Crk)) : Prop where
  each : ∀ L ∈ Ls, IsLp S L
  cover : ∀ c, isC S c = true → ∃ L ∈ Ls, c ∈ L
  sorted : Ls.Pairwise lowL
theorem orb_head {α : Type} {f : α → α} {n : Nat} {c : α} (h : 0 < n) : (orb f n c).head? = some c := by
  cases n with
  | zero => omega
  | succ n => rfl
theorem orb_self {α : Type} {f : α → α} {n : Nat} {c : α} (h : 0 < n) : c ∈ orb f n c := mem_orb.2 ⟨0, h, rfl⟩
theorem orb_isC {S : Cell → Bool} {c d : Crk} (hc : isC S c = true) {n : Nat} (h : d ∈ orb (suc S) n c) : isC S d = true := by
  obtain ⟨i, hi, rfl⟩ := mem_orb.1 h
  clear h hi
  induction i generalizing c with
  | zero => exact hc
  | succ i ih => exact ih (suc_is hc)
theorem pw_uniq {α : Type} {R : α → α → Prop} : ∀ {l m : List α}, l.Pairwise R → m.Pairwise R → (∀ x, x ∈ l ↔ x ∈ m) → (∀ a ∈ l, ∀ b ∈ l, R a b → ¬ R b a) → l = m
  | [], m, _, _, h, _ => by
    cases m with
    | nil => rfl
    | cons b m => have := (h b).2 (by simp); cases this
  | a :: l, [], _, _, h, _ => by have := (h a).1 (by simp); cases this
  | a :: l, b :: m, h1, h2, h, has => by
    obtain ⟨k1, k1'⟩ := List.pairwise_cons.1 h1
    obtain ⟨k2, k2'⟩ := List.pairwise_cons.1 h2
    have hab : a = b := by
      rcases List.mem_cons.1 ((h a).1 (by simp)) with e | ha
      · exact e
      · rcases List.mem_cons.1 ((h b).2 (by simp)) with e | hb
        · exact e.symm
        · exact absurd (k2 a ha) (has a (by simp) b (by simp [hb]) (k1 b hb))
    subst hab
    have irr : ¬ R a a := fun hr => has a (by simp) a (by simp) hr hr
    congr 1
    refine pw_uniq k1' k2' (fun x => ?_) fun x hx y hy => has x (by simp [hx]) y (by simp [hy])
    constructor
    · intro hx
      rcases List.mem_cons.1 ((h x).1 (by simp [hx])) with rfl | hm
      · exact absurd (k1 x hx) irr
      · exact hm
    · intro hx
      rcases List.mem_cons.1 ((h x).2 (by simp [hx])) with rfl | hm
      · exact absurd (k2 x hx) irr
      · exact hm
theorem lp_uniq {S : Cell → Bool} {L M : List Crk} (hL : IsLp S L) (hM : IsLp S M) {x : Crk} (h1 : x ∈ L) (h2 : x ∈ M) {C : List Crk} (hC : Cracks S C) : L = M := by
  obtain ⟨c, n, hc, pc, rfl, lc⟩ := hL
  obtain ⟨d, m, hd, pd, rfl, ld⟩ := hM
  have e1 := pc.orb_mem h1
  have e2 := pd.orb_mem h2
  obtain ⟨i, hi, rfl⟩ := mem_orb.1 h1
  have px : Per (suc S) (itn (suc S) i c) n := pc.itn hC.cl hC.inj ((hC c).2 hc) i
  have px2 : Per (suc S) (itn (suc S) i c) m := by
    obtain ⟨j, hj, e⟩ := mem_orb.1 h2
    rw [e]
    exact pd.itn hC.cl hC.inj ((hC d).2 hd) j
  have hnm := px.eq px2
  subst hnm
  have hcd : c = d := by
    apply Classical.byContradiction
    intro hne
    have a1 : d ∈ orb (suc S) n c := (e1 d).1 ((e2 d).2 (orb_self pd.pos))
    have a2 : c ∈ orb (suc S) n d := (e2 c).1 ((e1 c).2 (orb_self pc.pos))
    exact lowC_asym (lc d a1 (Ne.symm hne)) (ld c a2 hne)
  rw [hcd]
theorem lps_uniq {S : Cell → Bool} {C : List Crk} (hC : Cracks S C) {Ls Ms : List (List Crk)} (h : Lps S Ls) (k : Lps S Ms) : Ls = Ms := by
  refine pw_uniq h.sorted k.sorted (fun L => ?_) fun L _ M _ ⟨c, d, e1, e2, hlt⟩ ⟨d', c', e3, e4, hlt'⟩ => by
    rw [e1] at e4; rw [e2] at e3
    cases e3; cases e4
    exact lowC_asym hlt hlt'
  have key : ∀ {Ls Ms : List (List Crk)}, Lps S Ls → Lps S Ms → ∀ L, L ∈ Ls → L ∈ Ms := by
    intro Ls Ms h k L hL
    have hl := h.each L hL
    obtain ⟨c, n, hc, pc, rfl, lc⟩ := hl
    obtain ⟨M, hM, hm⟩ := k.cover c hc
    have := lp_uniq (h.each _ hL) (k.each M hM) (orb_self pc.pos) hm hC
    rw [this]; exact hM
  exact ⟨key h k L, key k h L⟩

def turnG (h : Hd) : List Crk → List Cell
  | [] => []
  | d :: t => if d.h = h then turnG d.h t else d.p :: turnG d.h t
def polyOf : List Crk → List Cell
  | [] => []
  | c :: t => c.p :: turnG c.h t
def lastH (h : Hd) : List Crk → Hd
  | [] => h
  | d :: t => lastH d.h t
theorem turnG_append : ∀ (h : Hd) (A B : List Crk), turnG h (A ++ B) = turnG h A ++ turnG (lastH h A) B
  | h, [], B => rfl
  | h, d :: A, B => by
    simp only [List.cons_append, turnG, lastH]
    rw [turnG_append d.h A B]
    split <;> rfl
theorem turnG_mem : ∀ {h : Hd} {A : List Crk} {p : Cell}, p ∈ turnG h A → ∃ d ∈ A, d.p = p
  | h, [], p, hp => by cases hp
  | h, d :: A, p, hp => by
    simp only [turnG] at hp
    split at hp
    · obtain ⟨x, hx, e⟩ := turnG_mem hp; exact ⟨x, by simp [hx], e⟩
    · rcases List.mem_cons.1 hp with rfl | hp
      · exact ⟨d, by simp, rfl⟩
      · obtain ⟨x, hx, e⟩ := turnG_mem hp; exact ⟨x, by simp [hx], e⟩
theorem lastH_orb {S : Cell → Bool} : ∀ {n : Nat} {c : Crk} (h : Hd), 0 < n → lastH h (orb (suc S) n c) = (itn (suc S) (n - 1) c).h
  | 0, c, h, hn => absurd hn (Nat.lt_irrefl 0)
  | 1, c, h, _ => rfl
  | n + 2, c, h, _ => by
    have := lastH_orb (S := S) (n := n + 1) (c := suc S c) c.h (by omega)
    simp only [Nat.add_sub_cancel] at this
    rw [orb]
    exact this
theorem lp_turn {S : Cell → Bool} {C : List Crk} (hC : Cracks S C) {c : Crk} {n : Nat} (hc : isC S c = true) (pc : Per (suc S) c n) (lc : ∀ d ∈ orb (suc S) n c, d ≠ c → lowC c.p d.p) :
    2 ≤ n ∧ (c.h = .e ∨ c.h = .n) ∧ ((itn (suc S) (n - 1) c).h = .w ∨ (itn (suc S) (n - 1) c).h = .s) := by
  have h1 : n ≠ 1 := fun e => by
    subst e
    have := pc.ret
    simp only [itn] at this
    exact q_ne c (by have h2 := congrArg Crk.p this; exact h2)
  have h2 : 2 ≤ n := by have := pc.pos; omega
  have ne1 : suc S c ≠ c := pc.least 1 (by omega) (by omega)
  have m1 : suc S c ∈ orb (suc S) n c := mem_orb.2 ⟨1, by omega, rfl⟩
  have ne2 : itn (suc S) (n - 1) c ≠ c := pc.least (n - 1) (by omega) (by omega)
  have m2 : itn (suc S) (n - 1) c ∈ orb (suc S) n c := mem_orb.2 ⟨n - 1, by omega, rfl⟩
  refine ⟨h2, lowC_step (fun h => lowC_asym h (lc _ m1 ne1)), lowC_step' fun h => ?_⟩
  have e : (itn (suc S) (n - 1) c).q = c.p := by
    have := pc.ret
    rw [show n = (n - 1) + 1 by omega, itn_succ] at this
    exact congrArg Crk.p this
  rw [e] at h
  exact lowC_asym h (lc _ m2 ne2)
theorem lp_rot {S : Cell → Bool} {C : List Crk} (hC : Cracks S C) {c : Crk} {n : Nat} (hc : isC S c = true) (pc : Per (suc S) c n) (lc : ∀ d ∈ orb (suc S) n c, d ≠ c → lowC c.p d.p) {k : Nat} (hk : k < n) :
    ∃ X Y, turnG (itn (suc S) (k + (n - 1)) c).h (orb (suc S) n (itn (suc S) k c)) = X ++ c.p :: Y ∧ polyOf (orb (suc S) n c) = (c.p :: Y) ++ X ∧ (∀ p ∈ X, lowC c.p p) ∧ (∀ p ∈ Y, lowC c.p p) := by
  obtain ⟨h2, h3, h4⟩ := lp_turn hC hc pc lc
  have hnd : (orb (suc S) n c).Nodup := orb_nodup hC.cl hC.inj ((hC c).2 hc) pc.least
  have hlow : ∀ A : List Crk, (∀ d ∈ A, d ∈ orb (suc S) n c ∧ d ≠ c) → ∀ (h : Hd), ∀ p ∈ turnG h A, lowC c.p p := by
    intro A hA h p hp
    obtain ⟨d, hd, rfl⟩ := turnG_mem hp
    exact lc d (hA d hd).1 (hA d hd).2
  obtain ⟨m, rfl⟩ : ∃ m, n = m + 1 := ⟨n - 1, by omega⟩
  have ho : orb (suc S) (m + 1) c = c :: orb (suc S) m (suc S c) := rfl
  rw [ho] at hnd
  obtain ⟨hcn, _⟩ := List.nodup_cons.1 hnd
  have htl : ∀ d ∈ orb (suc S) m (suc S c), d ∈ orb (suc S) (m + 1) c ∧ d ≠ c := fun d hd => ⟨by rw [ho]; simp [hd], fun e => hcn (e ▸ hd)⟩
  by_cases h0 : k = 0
  · subst h0
    refine ⟨[], turnG c.h (orb (suc S) m (suc S c)), ?_, ?_, by simp, hlow _ htl _⟩
    · simp only [Nat.zero_add, itn]
      rw [ho]
      simp only [turnG, List.nil_append]
      rw [if_neg]
      intro e
      simp only [Nat.add_sub_cancel] at h4 e
      rw [← e] at h4
      rcases h3 with h3 | h3 <;> rcases h4 with h4 | h4 <;> rw [h3] at h4 <;> cases h4
    · rw [ho]; simp [polyOf]
  · obtain ⟨j, rfl⟩ : ∃ j, k = j + 1 := ⟨k - 1, by omega⟩
    have e1 : orb (suc S) (m + 1) (itn (suc S) (j + 1) c) = orb (suc S) (m - j) (itn (suc S) (j + 1) c) ++ (c :: orb (suc S) j (suc S c)) := by
      have := pc.rot (k := j + 1) (by omega)
      rw [this]
      have ha : orb (suc S) (m + 1) c = orb (suc S) (j + 1) c ++ orb (suc S) (m - j) (itn (suc S) (j + 1) c) := by rw [← orb_add]; congr 1; omega
      rw [ha, List.drop_left' (orb_length ..), List.take_left' (orb_length ..)]
      rfl
    have e2 : orb (suc S) m (suc S c) = orb (suc S) j (suc S c) ++ orb (suc S) (m - j) (itn (suc S) (j + 1) c) := by
      have : orb (suc S) m (suc S c) = orb (suc S) (j + (m - j)) (suc S c) := by congr 1; omega
      rw [this, orb_add]; rfl
    have hlast : lastH (itn (suc S) (j + 1 + (m + 1 - 1)) c).h (orb (suc S) (m - j) (itn (suc S) (j + 1) c)) = (itn (suc S) (m + 1 - 1) c).h := by
      rw [lastH_orb _ (by omega), ← itn_add]; congr 2; omega
    have hre : itn (suc S) (j + 1 + (m + 1 - 1)) c = itn (suc S) j c := by
      rw [show j + 1 + (m + 1 - 1) = (m + 1) + j by omega, itn_add, pc.ret]
    refine ⟨turnG (itn (suc S) j c).h (orb (suc S) (m - j) (itn (suc S) (j + 1) c)), turnG c.h (orb (suc S) j (suc S c)), ?_, ?_, hlow _ (fun d hd => htl d (by rw [e2]; simp [hd])) _, hlow _ (fun d hd => htl d (by rw [e2]; simp [hd])) _⟩
    · rw [e1, turnG_append, hlast, hre]
      congr 1
      simp only [turnG]
      rw [if_neg]
      intro e
      rw [← e] at h4
      rcases h3 with h3 | h3 <;> rcases h4 with h4 | h4 <;> rw [h3] at h4 <;> cases h4
    · rw [ho]
      simp only [polyOf, List.cons_append]
      rw [e2, turnG_append]
      congr 2
      have : lastH c.h (orb (suc S) j (suc S c)) = (itn (suc S) j c).h := by
        cases j with
        | zero => rfl
        | succ j => rw [lastH_orb _ (by omega)]; simp only [Nat.add_sub_cancel, itn]
      rw [this]
end Go.Proofs.YtdddknniooimmaaGreat

namespace Go.Proofs.YtdddknniooimmaaGreat
open Go.Abs

theorem least_ex {α : Type} (g : α → Cell) : ∀ {l : List α}, l ≠ [] → ∃ c ∈ l, ∀ d ∈ l, ¬ lowC (g d) (g c)
  | [], h => absurd rfl h
  | [a], _ => ⟨a, by simp, by intro d hd; simp at hd; subst hd; exact lowC_irr _⟩
  | a :: b :: l, _ => by
    obtain ⟨c, hc, h⟩ := least_ex g (l := b :: l) (by simp)
    by_cases hl : lowC (g a) (g c)
    · refine ⟨a, by simp, fun d hd => ?_⟩
      rcases List.mem_cons.1 hd with rfl | hd
      · exact lowC_irr _
      · intro k; exact h d hd (lowC_trans k hl)
    · refine ⟨c, by simp [hc], fun d hd => ?_⟩
      rcases List.mem_cons.1 hd with rfl | hd
      · exact hl
      · exact h d hd
theorem orb_suc {S : Cell → Bool} {c d : Crk} {n : Nat} (pc : Per (suc S) c n) (h : d ∈ orb (suc S) n c) : suc S d ∈ orb (suc S) n c := by
  obtain ⟨i, hi, rfl⟩ := mem_orb.1 h
  rw [show suc S (itn (suc S) i c) = itn (suc S) (i + 1) c from (itn_succ i c).symm, pc.mod]
  exact mem_orb.2 ⟨_, Nat.mod_lt _ pc.pos, rfl⟩
theorem lp_ex {S : Cell → Bool} {C : List Crk} (hC : Cracks S C) {c0 : Crk} (h0 : isC S c0 = true) :
    ∃ c n k, isC S c = true ∧ Per (suc S) c n ∧ k < n ∧ n ≤ C.length ∧ c0 = itn (suc S) k c ∧ Per (suc S) c0 n ∧ ∀ d ∈ orb (suc S) n c, d ≠ c → lowC c.p d.p := by
  obtain ⟨n, pn, hn⟩ := per_ex hC.cl hC.inj ((hC c0).2 h0)
  obtain ⟨c, hc, hl⟩ := least_ex Crk.p (l := orb (suc S) n c0) (by intro e; have h3 := congrArg List.length e; rw [orb_length] at h3; have := pn.pos; rw [h3] at this; exact absurd this (Nat.lt_irrefl 0))
  have hcC := orb_isC h0 hc
  obtain ⟨i, hi, rfl⟩ := mem_orb.1 hc
  have pc := pn.itn hC.cl hC.inj ((hC c0).2 h0) i
  have hmem := pn.orb_mem hc
  have h00 : c0 ∈ orb (suc S) n (itn (suc S) i c0) := (hmem c0).2 (orb_self pn.pos)
  obtain ⟨k, hk, e⟩ := mem_orb.1 h00
  refine ⟨_, n, k, hcC, pc, hk, hn, e, pn, fun d hd hne => ?_⟩
  have hd0 := (hmem d).1 hd
  rcases lowC_tri (itn (suc S) i c0).p d.p with h | h | h
  · exact h
  · exfalso
    refine hne (least_one (orb_isC h0 hd0) hcC h.symm ?_ ?_)
    · rw [← h]; exact hl _ (orb_suc pn hd0)
    · exact hl _ (orb_suc pn hc)
  · exact absurd h (hl d hd0)
theorem lp_pred {S : Cell → Bool} {C : List Crk} (hC : Cracks S C) {c d : Crk} {n : Nat} (hc : isC S c = true) (pc : Per (suc S) c n) (hd : isC S d = true) (h : suc S d ∈ orb (suc S) n c) : d ∈ orb (suc S) n c := by
  obtain ⟨i, hi, e⟩ := mem_orb.1 h
  have e2 : suc S d = suc S (itn (suc S) (i + (n - 1)) c) := by
    rw [show suc S (itn (suc S) (i + (n - 1)) c) = itn (suc S) (i + (n - 1) + 1) c from (itn_succ _ c).symm, show i + (n - 1) + 1 = n + i by have := pc.pos; omega, itn_add, pc.ret, e]
  have := suc_inj hd (orb_isC hc (by rw [pc.mod]; exact mem_orb.2 ⟨_, Nat.mod_lt _ pc.pos, rfl⟩)) e2
  rw [this, pc.mod]
  exact mem_orb.2 ⟨_, Nat.mod_lt _ pc.pos, rfl⟩

structure Fam (S : Cell → Bool) (Ls : List (List Crk)) : Prop where
  each : ∀ L ∈ Ls, IsLp S L
  sorted : Ls.Pairwise lowL
def onF (Ls : List (List Crk)) (c : Crk) : Prop := ∃ L ∈ Ls, c ∈ L
theorem Fam.pred {S : Cell → Bool} {C : List Crk} (hC : Cracks S C) {Ls : List (List Crk)} (h : Fam S Ls) {d : Crk} (hd : isC S d = true) (k : onF Ls (suc S d)) : onF Ls d := by
  obtain ⟨L, hL, hm⟩ := k
  obtain ⟨c, n, hc, pc, rfl, _⟩ := h.each L hL
  exact ⟨_, hL, lp_pred hC hc pc hd hm⟩
theorem Fam.off {S : Cell → Bool} {C : List Crk} (hC : Cracks S C) {Ls : List (List Crk)} (h : Fam S Ls) {c : Crk} (hc : isC S c = true) (k : ¬ onF Ls c) : ∀ i, ¬ onF Ls (itn (suc S) i c) ∧ isC S (itn (suc S) i c) = true
  | 0 => ⟨k, hc⟩
  | i + 1 => by
    obtain ⟨h1, h2⟩ := Fam.off hC h hc k i
    rw [itn_succ]
    exact ⟨fun h3 => h1 (h.pred hC h2 h3), suc_is h2⟩
theorem lp_head {S : Cell → Bool} {L : List Crk} (h : IsLp S L) : ∃ c, L.head? = some c ∧ c ∈ L ∧ isC S c = true ∧ (∀ d ∈ L, d ≠ c → lowC c.p d.p) ∧ ∃ Y, polyOf L = c.p :: Y := by
  obtain ⟨c, n, hc, pc, rfl, lc⟩ := h
  refine ⟨c, orb_head pc.pos, orb_self pc.pos, hc, lc, ?_⟩
  obtain ⟨m, rfl⟩ : ∃ m, n = m + 1 := ⟨n - 1, by have := pc.pos; omega⟩
  exact ⟨_, rfl⟩
theorem lp_ne {S : Cell → Bool} {L M : List Crk} (hL : IsLp S L) (hM : IsLp S M) (h : ∀ x ∈ L, x ∉ M) : lowL L M ∨ lowL M L := by
  obtain ⟨c, n, hc, pc, rfl, lc⟩ := hL
  obtain ⟨d, m, hd, pd, rfl, ld⟩ := hM
  rcases lowC_tri c.p d.p with h1 | h1 | h1
  · exact .inl ⟨c, d, orb_head pc.pos, orb_head pd.pos, h1⟩
  · exfalso
    have : c = d := by
      refine least_one hc hd h1 (fun h2 => ?_) fun h2 => ?_
      · exact lowC_asym h2 (lc _ (orb_suc pc (orb_self pc.pos)) (fun e => q_ne c (congrArg Crk.p e)))
      · exact lowC_asym h2 (ld _ (orb_suc pd (orb_self pd.pos)) (fun e => q_ne d (congrArg Crk.p e)))
    subst this
    exact h c (orb_self pc.pos) (orb_self pd.pos)
  · exact .inr ⟨d, c, orb_head pd.pos, orb_head pc.pos, h1⟩
theorem lowL_trans {L M N : List Crk} (h : lowL L M) (k : lowL M N) : lowL L N := by
  obtain ⟨a, b, h1, h2, h3⟩ := h
  obtain ⟨b', c, k1, k2, k3⟩ := k
  rw [h2] at k1; cases k1
  exact ⟨a, c, h1, k2, lowC_trans h3 k3⟩
instance (a b : Cell) : Decidable (lowC a b) := inferInstanceAs (Decidable (_ ∨ _))
def lowP (a b : List Cell) : Bool := match a, b with
  | p :: _, q :: _ => decide (lowC p q)
  | _, _ => false
def insK (l : List (List Cell)) (p : List Cell) : Nat := (l.takeWhile fun q => lowP q p).length
def insP (l : List (List Cell)) (p : List Cell) : List (List Cell) := l.take (insK l p) ++ p :: l.drop (insK l p)
theorem insP_cons (q : List Cell) (l : List (List Cell)) (p : List Cell) : insP (q :: l) p = if lowP q p then q :: insP l p else p :: q :: l := by
  unfold insP insK
  rw [List.takeWhile_cons]
  split <;> simp
theorem lowP_lowL {S : Cell → Bool} {L M : List Crk} (hL : IsLp S L) (hM : IsLp S M) : lowP (polyOf L) (polyOf M) = true ↔ lowL L M := by
  obtain ⟨c, h1, _, _, _, Y, h2⟩ := lp_head hL
  obtain ⟨d, k1, _, _, _, Z, k2⟩ := lp_head hM
  rw [h2, k2]
  simp only [lowP, decide_eq_true_eq]
  constructor
  · intro h; exact ⟨c, d, h1, k1, h⟩
  · rintro ⟨c', d', e1, e2, h⟩
    rw [h1] at e1; rw [k1] at e2
    cases e1; cases e2; exact h
theorem Fam.ins {S : Cell → Bool} {L : List Crk} (hL : IsLp S L) : ∀ {Ls : List (List Crk)}, Fam S Ls → (∀ x ∈ L, ¬ onF Ls x) → ∃ Ms, Fam S Ms ∧ insP (Ls.map polyOf) (polyOf L) = Ms.map polyOf ∧ (∀ M, M ∈ Ms ↔ M = L ∨ M ∈ Ls)
  | [], _, _ => ⟨[L], ⟨by simpa using hL, by simp⟩, by simp [insP, insK], by simp⟩
  | M :: Ls, h, hn => by
    have hM := h.each M (by simp)
    obtain ⟨s1, s2⟩ := List.pairwise_cons.1 h.sorted
    obtain ⟨Ms, i1, i2, i3⟩ := Fam.ins hL (Ls := Ls) ⟨fun N hN => h.each N (by simp [hN]), s2⟩ fun x hx ⟨N, hN, hm⟩ => hn x hx ⟨N, by simp [hN], hm⟩
    rw [List.map_cons, insP_cons]
    by_cases hlt : lowL M L
    · rw [if_pos ((lowP_lowL hM hL).2 hlt), i2]
      refine ⟨M :: Ms, ⟨?_, List.pairwise_cons.2 ⟨fun N hN => ?_, i1.sorted⟩⟩, rfl, fun N => ?_⟩
      · intro N hN
        rcases List.mem_cons.1 hN with rfl | hN
        · exact hM
        · exact i1.each N hN
      · rcases (i3 N).1 hN with rfl | hN
        · exact hlt
        · exact s1 N hN
      · simp only [List.mem_cons, i3 N]
        constructor
        · rintro (h | h | h) <;> simp [h]
        · rintro (h | h | h) <;> simp [h]
    · rw [if_neg (fun e => hlt ((lowP_lowL hM hL).1 e))]
      have hlt2 : lowL L M := by
        rcases lp_ne hM hL (fun x hx hx2 => hn x hx2 ⟨M, by simp, hx⟩) with h1 | h1
        · exact absurd h1 hlt
        · exact h1
      refine ⟨L :: M :: Ls, ⟨?_, List.pairwise_cons.2 ⟨fun N hN => ?_, h.sorted⟩⟩, rfl, fun N => by simp⟩
      · intro N hN
        rcases List.mem_cons.1 hN with rfl | hN
        · exact hL
        · exact h.each N hN
      · rcases List.mem_cons.1 hN with rfl | hN
        · exact hlt2
        · exact lowL_trans hlt2 (s1 N hN)

def minK (l : List Cell) (i : Nat) : Nat := (List.range i).foldl (fun f j => if lowP (l.drop j) (l.drop f) then j else f) 0
theorem minK_succ (l : List Cell) (i : Nat) : minK l (i + 1) = if lowP (l.drop i) (l.drop (minK l i)) then i else minK l i := by
  unfold minK
  rw [List.range_succ, List.foldl_append]
  rfl
theorem minK_le (l : List Cell) : ∀ i, minK l i = 0 ∨ minK l i < i
  | 0 => .inl rfl
  | i + 1 => by
    rw [minK_succ]
    split
    · right; omega
    · rcases minK_le l i with h | h
      · left; exact h
      · right; omega
theorem drop_cons_get {l : List Cell} {i : Nat} {p : Cell} (h : l[i]? = some p) : ∃ t, l.drop i = p :: t := by
  obtain ⟨hi, rfl⟩ := List.getElem?_eq_some_iff.1 h
  exact ⟨_, List.drop_eq_getElem_cons hi⟩
theorem minK_at {X Y : List Cell} {c : Cell} (hX : ∀ p ∈ X, lowC c p) (hY : ∀ p ∈ Y, lowC c p) : ∀ i, X.length < i → i ≤ (X ++ c :: Y).length → minK (X ++ c :: Y) i = X.length
  | 0, h, _ => absurd h (Nat.not_lt_zero _)
  | i + 1, h, hl => by
    rw [minK_succ]
    have hc : (X ++ c :: Y)[X.length]? = some c := by simp
    obtain ⟨tc, htc⟩ := drop_cons_get hc
    by_cases he : i = X.length
    · subst he
      rcases minK_le (X ++ c :: Y) X.length with h0 | h0
      · rw [h0, htc]
        cases X with
        | nil => simp [lowP]
        | cons a X => simp only [List.cons_append, List.drop_zero, lowP]; rw [if_pos (by simpa using hX a (by simp))]
      · obtain ⟨p, hp⟩ : ∃ p, X[minK (X ++ c :: Y) X.length]? = some p := ⟨_, List.getElem?_eq_getElem h0⟩
        have hp2 : (X ++ c :: Y)[minK (X ++ c :: Y) X.length]? = some p := by rw [List.getElem?_append_left h0]; exact hp
        obtain ⟨tp, htp⟩ := drop_cons_get hp2
        rw [htc, htp]
        simp only [lowP]
        simp [hX p (List.mem_of_getElem? hp)]
    · rw [minK_at hX hY i (by omega) (by omega), htc]
      have hi : i < (X ++ c :: Y).length := by omega
      obtain ⟨p, hp⟩ : ∃ p, (X ++ c :: Y)[i]? = some p := ⟨_, List.getElem?_eq_getElem hi⟩
      obtain ⟨tp, htp⟩ := drop_cons_get hp
      rw [htp]
      have hpY : p ∈ Y := by
        rw [List.getElem?_append_right (by omega)] at hp
        obtain ⟨j, hj⟩ : ∃ j, i - X.length = j + 1 := ⟨i - X.length - 1, by omega⟩
        rw [hj, List.getElem?_cons_succ] at hp
        exact List.mem_of_getElem? hp
      have := lowC_asym (hY p hpY)
      simp [lowP, this]

structure MapOf (A : List (Cell × List Hd)) (rem : Crk → Prop) : Prop where
  keys : (A.map (·.1)).Nodup
  some : ∀ p hs, getL A p = some hs → hs ≠ [] ∧ hs.Nodup
  mem : ∀ p h, rem ⟨p, h⟩ ↔ ∃ hs, getL A p = Option.some hs ∧ h ∈ hs
theorem posL_mem {α β : Type} [DecidableEq α] {a : α} : ∀ {l : List (α × β)}, posL a l = none ↔ a ∉ l.map (·.1)
  | [] => by simp [posL]
  | p :: l => by
    unfold posL
    by_cases h : a = p.1
    · simp [h]
    · simp only [if_neg h, Option.map_eq_none_iff, posL_mem (l := l), List.map_cons, List.mem_cons]
      simp [h]
theorem keys_put {α β : Type} [DecidableEq α] {l : List (α × β)} (h : (l.map (·.1)).Nodup) (a : α) (b : β) : ((putL l a b).map (·.1)).Nodup := by
  unfold putL
  have hp := posL_getL (a := a) l
  cases hpos : posL a l with
  | none =>
    have := posL_mem.1 hpos
    simp only [List.map_append, List.map_cons, List.map_nil]
    rw [List.nodup_append]
    refine ⟨h, by simp, fun x hx y hy => ?_⟩
    simp at hy; subst hy
    exact fun e => this (e ▸ hx)
  | some j =>
    rw [hpos] at hp
    obtain ⟨b', hb, _⟩ := hp
    have : (l.set j (a, b)).map (·.1) = l.map (·.1) := by
      rw [List.map_set]
      refine List.ext_getElem? fun i => ?_
      rw [List.getElem?_set]
      split
      · rename_i e
        subst e
        split
        · simp [hb]
        · rename_i hn; rw [List.length_map] at hn; rw [List.getElem?_eq_none (by simpa using hn)]
      · rfl
    simp only [this]; exact h
theorem keys_del {α β : Type} [DecidableEq α] {l : List (α × β)} (h : (l.map (·.1)).Nodup) (a : α) : ((delL l a).map (·.1)).Nodup := by
  unfold delL
  cases posL a l with
  | none => exact h
  | some j => exact h.sublist ((List.eraseIdx_sublist ..).map _)
theorem getL_delL {α β : Type} [DecidableEq α] : ∀ {l : List (α × β)} (h : (l.map (·.1)).Nodup) (a c : α), getL (delL l a) c = if c = a then none else getL l c
  | [], _, a, c => by simp [delL, posL, getL]
  | p :: l, h, a, c => by
    obtain ⟨h1, h2⟩ := List.nodup_cons.1 h
    have ih := getL_delL h2 a c
    have hnone : ∀ x, x ∉ l.map (·.1) → getL l x = none := fun x hx => by
      have := posL_getL (a := x) l
      rw [posL_mem.2 hx] at this
      exact this
    unfold delL posL
    by_cases hp : a = p.1
    · rw [if_pos hp]
      simp only [List.eraseIdx_cons_zero, getL]
      by_cases hc : c = a
      · rw [if_pos hc, hc, hp]; exact hnone _ h1
      · rw [if_neg hc, if_neg (fun e => hc (e.trans hp.symm))]
    · rw [if_neg hp]
      unfold delL at ih
      cases hpos : posL a l with
      | none =>
        rw [hpos] at ih
        simp only [Option.map_none, getL] at ih ⊢
        by_cases hc : c = p.1
        · rw [if_pos hc, if_neg (fun e => hp (e.symm.trans hc))]
        · rw [if_neg hc]; exact ih
      | some j =>
        rw [hpos] at ih
        simp only [Option.map_some, List.eraseIdx_cons_succ, getL] at ih ⊢
        by_cases hc : c = p.1
        · rw [if_pos hc, if_pos hc, if_neg (fun e => hp (e.symm.trans hc))]
        · rw [if_neg hc, if_neg hc]; exact ih
def headsAt (A : List (Cell × List Hd)) (p : Cell) : List Hd := (getL A p).getD []
def takeA (A : List (Cell × List Hd)) (c : Crk) : List (Cell × List Hd) := if (headsAt A c.p).length = 1 then delL A c.p else putL A c.p ((headsAt A c.p).erase c.h)
theorem MapOf.heads {A : List (Cell × List Hd)} {rem : Crk → Prop} (h : MapOf A rem) (p : Cell) (k : Hd) : k ∈ headsAt A p ↔ rem ⟨p, k⟩ := by
  rw [h.mem]
  unfold headsAt
  cases getL A p with
  | none => simp
  | some hs => simp
theorem MapOf.take {A : List (Cell × List Hd)} {rem : Crk → Prop} (h : MapOf A rem) {c : Crk} (hc : rem c) : MapOf (takeA A c) fun d => rem d ∧ d ≠ c := by
  obtain ⟨hs, hg, hm⟩ := (h.mem c.p c.h).1 hc
  obtain ⟨h1, h2⟩ := h.some _ _ hg
  have hh : headsAt A c.p = hs := by simp [headsAt, hg]
  unfold takeA
  rw [hh]
  split
  · rename_i hl
    refine ⟨keys_del h.keys _, fun p ks hk => ?_, fun p k => ?_⟩
    · rw [getL_delL h.keys] at hk
      split at hk
      · cases hk
      · exact h.some _ _ hk
    · rw [getL_delL h.keys]
      by_cases e : p = c.p
      · subst e
        rw [if_pos rfl]
        simp only [reduceCtorEq, false_and, exists_false, iff_false, not_and, Classical.not_not]
        intro hr
        obtain ⟨ks, e1, e2⟩ := (h.mem _ _).1 hr
        rw [hg] at e1; cases e1
        obtain ⟨a, rfl⟩ := List.length_eq_one_iff.1 hl
        simp at hm e2
        rw [e2, ← hm]
      · rw [if_neg e, ← h.mem]
        constructor
        · exact And.left
        · intro hr; exact ⟨hr, fun e' => e (by rw [← e'])⟩
  · rename_i hl
    refine ⟨keys_put h.keys _ _, fun p ks hk => ?_, fun p k => ?_⟩
    · rw [getL_putL] at hk
      split at hk
      · cases hk
        refine ⟨fun e => ?_, h2.sublist (List.erase_sublist ..)⟩
        have q1 := congrArg List.length e
        rw [List.length_erase_of_mem hm] at q1
        have q2 := List.length_pos_iff.2 h1
        rw [List.length_nil] at q1
        omega
      · exact h.some _ _ hk
    · rw [getL_putL]
      by_cases e : p = c.p
      · subst e
        rw [if_pos rfl]
        simp only [Option.some.injEq, exists_eq_left']
        rw [h2.mem_erase_iff, h.mem]
        constructor
        · rintro ⟨⟨ks, e1, e2⟩, hne⟩
          rw [hg] at e1; cases e1
          exact ⟨fun e => hne (by rw [e]), e2⟩
        · rintro ⟨hne, hk⟩
          exact ⟨⟨hs, hg, hk⟩, fun e => hne (by rw [← e])⟩
      · rw [if_neg e, ← h.mem]
        constructor
        · exact And.left
        · intro hr; exact ⟨hr, fun e' => e (by rw [← e'])⟩
theorem MapOf.congr {A : List (Cell × List Hd)} {rem rem' : Crk → Prop} (h : MapOf A rem) (k : ∀ c, rem c ↔ rem' c) : MapOf A rem' := ⟨h.keys, h.some, fun p x => (k _).symm.trans (h.mem p x)⟩
def takeAll (A : List (Cell × List Hd)) (l : List Crk) : List (Cell × List Hd) := l.foldl takeA A
theorem takeAll_succ (A : List (Cell × List Hd)) (f : Crk → Crk) (n : Nat) (c : Crk) : takeAll A (orb f (n + 1) c) = takeA (takeAll A (orb f n c)) (itn f n c) := by
  rw [orb_succ, takeAll, List.foldl_append]; rfl
theorem MapOf.walk {A : List (Cell × List Hd)} {rem : Crk → Prop} (h : MapOf A rem) {f : Crk → Crk} {c : Crk} {n : Nat} (hr : ∀ i, i < n → rem (itn f i c)) (hn : (orb f n c).Nodup) : ∀ m, m ≤ n → MapOf (takeAll A (orb f m c)) fun d => rem d ∧ d ∉ orb f m c
  | 0, _ => h.congr fun d => by simp [orb]
  | m + 1, hm => by
    rw [takeAll_succ]
    have ih := MapOf.walk h hr hn m (by omega)
    refine (ih.take ⟨hr m (by omega), fun hmem => ?_⟩).congr fun d => by rw [orb_succ]; simp [and_assoc]
    have e1 : orb f n c = orb f m c ++ (itn f m c :: orb f (n - m - 1) (itn f (m + 1) c)) := by
      have : orb f n c = orb f (m + (n - m - 1 + 1)) c := by congr 1; omega
      rw [this, orb_add]
      simp only [orb]
      rw [itn_succ]
    rw [e1] at hn
    exact (List.nodup_append.1 hn).2.2 _ hmem _ (by simp) rfl
def pickH (hs : List Hd) (h : Hd) : Hd := if h.l ∈ hs then h.l else if h ∈ hs then h else h.r
theorem pickH_eq {S : Cell → Bool} {q : Cell} {hs : List Hd} {h : Hd} (hall : ∀ k ∈ hs, isC S ⟨q, k⟩ = true) (hin : nxH S q h ∈ hs) : pickH hs h = nxH S q h := by
  unfold pickH nxH at *
  by_cases h1 : isC S ⟨q, h.l⟩ = true
  · rw [if_pos h1] at hin ⊢
    rw [if_pos hin]
  · rw [if_neg h1] at hin ⊢
    rw [if_neg (fun k => h1 (hall _ k))]
    by_cases h2 : isC S ⟨q, h⟩ = true
    · rw [if_pos h2] at hin ⊢
      rw [if_pos hin]
    · rw [if_neg h2, if_neg (fun k => h2 (hall _ k))]
theorem polyOf_succ {S : Cell → Bool} {c : Crk} {m : Nat} : polyOf (orb (suc S) (m + 2) c) = if (itn (suc S) (m + 1) c).h = (itn (suc S) m c).h then polyOf (orb (suc S) (m + 1) c) else polyOf (orb (suc S) (m + 1) c) ++ [(itn (suc S) (m + 1) c).p] := by
  rw [orb_succ]
  show polyOf ((c :: orb (suc S) m (suc S c)) ++ [_]) = if _ then polyOf (c :: orb (suc S) m (suc S c)) else _
  simp only [List.cons_append, polyOf]
  rw [turnG_append]
  have : lastH c.h (orb (suc S) m (suc S c)) = (itn (suc S) m c).h := by
    cases m with
    | zero => rfl
    | succ j => rw [lastH_orb _ (by omega)]; simp only [Nat.add_sub_cancel, itn]
  rw [this]
  simp only [turnG]
  split
  · simp
  · first | rfl | simp [polyOf]
end Go.Proofs.YtdddknniooimmaaGreat

namespace Go.Proofs.YtdddknniooimmaaGreat
open Go.Abs

def okB (x : Int) : Bool := decide (-4096 ≤ x) && decide (x < 4096)
def fitsB (r : Run) : Bool := decide (-1048576 ≤ r.a) && decide (r.a ≤ 1048576) && decide (-1048576 ≤ r.b) && decide (r.b ≤ 1048576)
def rvAt (l : List Run) (i : Nat) : Bool := match l[i]?, l[i - 1]? with
  | some r, some p => decide (r.a < r.b) && fitsB r && (i == 0 || decide (p.b < r.a))
  | _, _ => false
def rvalid (l : List Run) : Bool := (List.range l.length).all (rvAt l)
def fnAt (l : List Run) (i : Nat) : Bool := match l[i]?, l[i - 1]? with
  | some r, some p => decide (-4096 ≤ r.a) && decide (r.a < r.b) && decide (r.b ≤ 4096) && (i == 0 || decide (p.b < r.a))
  | _, _ => false
def fine (l : List Run) : Bool := (List.range l.length).all (fnAt l) && decide (0 < l.length)
def rowAt (l : List Row) (i : Nat) : Bool := match l[i]?, l[i - 1]? with
  | some r, some p => okB r.y && (i == 0 || decide (p.y < r.y)) && fine r.runs
  | _, _ => false
def validR (l : List Row) : Bool := (List.range l.length).all (rowAt l)

theorem rvAt_some {l : List Run} {i : Nat} {r p : Run} (h : l[i]? = some r) (hp : l[i - 1]? = some p) : rvAt l i = (decide (r.a < r.b) && fitsB r && (i == 0 || decide (p.b < r.a))) := by simp only [rvAt, h, hp]
theorem fnAt_some {l : List Run} {i : Nat} {r p : Run} (h : l[i]? = some r) (hp : l[i - 1]? = some p) : fnAt l i = (decide (-4096 ≤ r.a) && decide (r.a < r.b) && decide (r.b ≤ 4096) && (i == 0 || decide (p.b < r.a))) := by simp only [fnAt, h, hp]
theorem rowAt_some {l : List Row} {i : Nat} {r p : Row} (h : l[i]? = some r) (hp : l[i - 1]? = some p) : rowAt l i = (okB r.y && (i == 0 || decide (p.y < r.y)) && fine r.runs) := by simp only [rowAt, h, hp]

theorem fitsB_bd {r : Run} (h : fitsB r = true) : -1048576 ≤ r.a ∧ r.a ≤ 1048576 ∧ -1048576 ≤ r.b ∧ r.b ≤ 1048576 := by
  simp [fitsB] at h; omega

theorem rvalid_asc {l : List Run} (h : rvalid l = true) : ∀ (j i : Nat) (r p : Run), i ≤ j → l[i]? = some p → l[j]? = some r → p.a ≤ r.a ∧ p.b ≤ r.b
  | 0, i, r, p, hij, hp, hr => by
    have : i = 0 := by omega
    subst this
    rw [hp] at hr; cases hr; exact ⟨Int.le_refl _, Int.le_refl _⟩
  | j + 1, i, r, p, hij, hp, hr => by
    by_cases e : i = j + 1
    · subst e; rw [hp] at hr; cases hr; exact ⟨Int.le_refl _, Int.le_refl _⟩
    · have hj := (List.getElem?_eq_some_iff.1 hr).1
      obtain ⟨q, hq⟩ : ∃ q, l[j]? = some q := getq (by omega)
      have ih := rvalid_asc h j i q p (by omega) hp hq
      have h1 := all_range_at h hj
      have h2 := all_range_at h (show j < l.length by omega)
      obtain ⟨q', hq'⟩ : ∃ q, l[j - 1]? = some q := getq (by omega)
      rw [rvAt_some hr (by simpa using hq)] at h1
      rw [rvAt_some hq hq'] at h2
      simp at h1 h2
      omega
theorem rvalid_at {l : List Run} (h : rvalid l = true) {i : Nat} {r : Run} (hr : l[i]? = some r) : r.a < r.b ∧ fitsB r = true := by
  have hi := (List.getElem?_eq_some_iff.1 hr).1
  obtain ⟨p, hp⟩ : ∃ q, l[i - 1]? = some q := getq (by omega)
  have h1 := all_range_at h hi
  rw [rvAt_some hr hp] at h1
  simp at h1
  exact ⟨h1.1.1, h1.1.2⟩

theorem fine_rv {l : List Run} (h : fine l = true) : rvalid l = true := by
  simp only [fine, Bool.and_eq_true] at h
  apply List.all_eq_true.2
  intro i hi
  have hi : i < l.length := by simpa using hi
  obtain ⟨r, hr⟩ := getq hi
  obtain ⟨p, hp⟩ : ∃ q, l[i - 1]? = some q := getq (by omega)
  have h1 := all_range_at h.1 hi
  rw [fnAt_some hr hp] at h1
  rw [rvAt_some hr hp]
  simp [fitsB] at h1 ⊢
  refine ⟨⟨by omega, by omega⟩, h1.2⟩

theorem fine_iff {l : List Run} {f z : Run} (hf : l[0]? = some f) (hz : l[l.length - 1]? = some z) : fine l = (rvalid l && okB f.a && okB (z.b - 1)) := by
  have hl := (List.getElem?_eq_some_iff.1 hf).1
  apply Bool.eq_iff_iff.2
  constructor
  · intro h
    have h0 := fine_rv h
    simp only [fine, Bool.and_eq_true] at h
    have h1 := all_range_at h.1 hl
    have h2 := all_range_at h.1 (show l.length - 1 < l.length by omega)
    obtain ⟨p, hp⟩ : ∃ q, l[l.length - 1 - 1]? = some q := getq (by omega)
    rw [fnAt_some hf (by simpa using hf)] at h1
    rw [fnAt_some hz hp] at h2
    simp [okB] at h1 h2 ⊢
    exact ⟨⟨h0, by omega⟩, by omega⟩
  · intro h
    simp only [Bool.and_eq_true] at h
    obtain ⟨⟨h0, h1⟩, h2⟩ := h
    simp [okB] at h1 h2
    simp only [fine, Bool.and_eq_true]
    refine ⟨List.all_eq_true.2 fun i hi => ?_, by simpa using hl⟩
    have hi : i < l.length := by simpa using hi
    obtain ⟨r, hr⟩ := getq hi
    obtain ⟨p, hp⟩ : ∃ q, l[i - 1]? = some q := getq (by omega)
    have a1 := rvalid_asc h0 i 0 r f (Nat.zero_le _) hf hr
    have a2 := rvalid_asc h0 (l.length - 1) i z r (by omega) hr hz
    have a3 := rvalid_at h0 hr
    have a4 := all_range_at h0 hi
    rw [rvAt_some hr hp] at a4
    rw [fnAt_some hr hp]
    simp at a4 ⊢
    exact ⟨⟨⟨by omega, a3.1⟩, by omega⟩, a4.2⟩

theorem ok_ok (x : Int) : PC Tryz.prog 106 [.int .i64 x] (.p (.bool (okB x))) := by
  refine pc_of_awp cx (fn := Tryz.f106) (c := _) Tryz.func106 rfl rfl (Nat.le_of_ble_eq_true rfl) ?_
  rw [Tryz.ntmps106]; refine Nav.imp ?_
  refine awp_region cx [] fun K hK => ?_
  simp [push_cast]
  repeat (refine And.intro (by clear hK; intros; first | omega | (simp_all; done) | (simp_all <;> omega)) ?_)
  refine hK _ ?_; clear hK K; refine Nav.imp ?_
  refine awp_region cx [] fun K hK => ?_
  simp [push_cast]
  repeat (refine And.intro (by clear hK; intros; first | omega | (simp_all; done) | (simp_all <;> omega)) ?_)
  refine hK _ ?_; clear hK K; refine Nav.imp ?_
  simp [push_cast, okB]

theorem fits_ok (r : Run) : PC Tryz.prog 167 [.agg r.row] (.p (.bool (fitsB r))) := by
  refine pc_of_awp cx (fn := Tryz.f167) (c := _) Tryz.func167 rfl rfl (Nat.le_of_ble_eq_true rfl) ?_
  rw [Tryz.ntmps167]; refine Nav.imp ?_
  refine awp_region cx [] fun K hK => ?_
  simp [push_cast]
  repeat (refine And.intro (by clear hK; intros; first | omega | (simp_all; done) | (simp_all <;> omega)) ?_)
  refine hK _ ?_; clear hK K; refine Nav.imp ?_
  refine awp_region cx [] fun K hK => ?_
  simp [push_cast]
  repeat (refine And.intro (by clear hK; intros; first | omega | (simp_all; done) | (simp_all <;> omega)) ?_)
  refine hK _ ?_; clear hK K; refine Nav.imp ?_
  simp [push_cast, fitsB, Bool.and_assoc]

theorem rvalid_big (l : List Run) (hl : l.length ≤ 9223372036854775807) : PC Tryz.prog 118 [encRuns l] (.p (.bool (rvalid l))) := by
  refine pc_of_awp cx (fn := Tryz.f118) (c := _) Tryz.func118 rfl rfl (Nat.le_of_ble_eq_true rfl) ?_
  rw [Tryz.ntmps118]; refine Nav.imp ?_
  refine awp_region cx [] fun K hK => ?_
  simp [push_cast]
  repeat (refine And.intro (by clear hK; intros; first | omega | (simp_all; done) | (simp_all <;> omega)) ?_)
  refine hK _ ?_; clear hK K; refine Nav.imp ?_
  refine awp_region cx [] fun K hK => ?_
  simp [push_cast]
  repeat (refine And.intro (by clear hK; intros; first | omega | (simp_all; done) | (simp_all <;> omega)) ?_)
  refine hK _ ?_; clear hK K; refine Nav.imp ?_
  refine awp_loop (β := Nat) (fun k => ⟨38, [(0, .d (encRuns l)), (5, .d (encRuns l)), (6, .d (.int .i64 l.length)), (7, .d (.int .i64 k))], [], 1⟩) (fun k => k ≤ l.length ∧ (List.range k).all (rvAt l) = true) (fun k => l.length - k) 0 ?_ ⟨Nat.zero_le _, rfl⟩ ?_
  · refine weak_of [] rfl (by simp [upT, up, upL, push_cast]) (by simp [upH, upR, upL, up, push_cast]) (by simp [namesOk, push_cast]) (by simp [olds])
  · intro k ⟨hk, hall⟩
    refine Nav.imp ?_
    refine awp_region cx [] fun K hK => ?_
    simp [push_cast]
    repeat (refine And.intro (by clear hK; intros; first | omega | (simp_all; done) | (simp_all <;> omega)) ?_)
    refine hK _ ?_; clear hK K; refine Nav.imp ?_
    refine awp_cond (b := decide ((k : Int) < l.length)) (by simp [push_cast]) (fun hb => ?_) (fun hb => ?_) <;> (refine Nav.imp ?_)
    · have hlt : k < l.length := by simpa using hb
      obtain ⟨r, hr⟩ := getq hlt
      obtain ⟨p, hp⟩ : ∃ p, l[k - 1]? = some p := getq (by omega)
      have e0 := wrap_i64 (n := (k : Int) + 1) (by omega) (by omega)
      have hat := rvAt_some hr hp
      have c1 := fits_ok r
      obtain ⟨ra, rb⟩ := r
      refine awp_region cx [] fun K hK => ?_
      simp [push_cast, hr, Run.row]
      repeat (refine And.intro (by clear hK; intros; first | omega | (simp_all; done) | (simp_all <;> omega)) ?_)
      refine hK _ ?_; clear hK K; refine Nav.imp ?_
      by_cases h1 : ra < rb
      · have h1' : ¬ (rb ≤ ra) := by omega
        generalize hv : fitsB ⟨ra, rb⟩ = v at c1
        rw [hv] at hat
        cases v with
        | true =>
          by_cases hk0 : k = 0
          · subst hk0
            refine awp_region_draw cx mixed [(7, .p (.bool true))] fun K hK => ?_
            simp [push_cast, h1', c1, hr, Run.row]
            repeat (refine And.intro (by clear hK; intros; first | omega | (simp_all; done) | (simp_all <;> omega)) ?_)
            refine hK _ _ (by kernel_rfl) ?_; clear hK K; refine Nav.imp ?_
            refine awp_cond (b := false) (by simp [push_cast]) (fun hb => ?_) (fun hb => ?_) <;> (refine Nav.imp ?_)
            · simp at hb
            · refine awp_region cx [] fun K hK => ?_
              simp [push_cast, e0]
              repeat (refine And.intro (by clear hK; intros; first | omega | (simp_all; done) | (simp_all <;> omega)) ?_)
              refine hK _ ?_; clear hK K; refine Nav.imp ?_
              refine ⟨1, ⟨hlt, by rw [all_range_succ, hall, hat]; simp [h1]⟩, by omega, ?_⟩
              refine weak_of [] rfl (by simp [upT, up, upL, push_cast]) (by simp [upH, upR, upL, up, push_cast]) (by simp [namesOk, push_cast]) (by simp [olds])
          · have e1 := wrap_i64 (n := (k : Int) - 1) (by omega) (by omega)
            have e2 : ((k : Int) - 1).toNat = k - 1 := by omega
            have hk1 : (0 : Int) < k := by omega
            have hk2 : (0 : Int) ≤ k - 1 := by omega
            have hk3 : 0 < k := by omega
            obtain ⟨pa, pb⟩ := p
            refine awp_region_draw cx mixed [(7, .p (.bool true))] fun K hK => ?_
            simp [push_cast, h1', c1, hk1, hk3, hk2, e1, e2, hp, Run.row]
            repeat (refine And.intro (by clear hK; intros; first | omega | (simp_all; done) | (simp_all <;> omega)) ?_)
            refine hK _ _ (by kernel_rfl) ?_; clear hK K; refine Nav.imp ?_
            refine awp_cond (b := decide (ra ≤ pb)) (by simp [push_cast, hk3]) (fun hb => ?_) (fun hb => ?_) <;> (refine Nav.imp ?_)
            · have h3 : ¬ pb < ra := by simpa using hb
              refine awp_region cx [] fun K hK => ?_
              simp [push_cast]
              repeat (refine And.intro (by clear hK; intros; first | omega | (simp_all; done) | (simp_all <;> omega)) ?_)
              refine hK _ ?_; clear hK K; refine Nav.imp ?_
              simp [push_cast]
              refine all_range_false hlt ?_
              rw [hat]; simp [h1, hk0, h3]
            · have h3 : pb < ra := by simpa using hb
              refine awp_region cx [] fun K hK => ?_
              simp [push_cast, e0]
              repeat (refine And.intro (by clear hK; intros; first | omega | (simp_all; done) | (simp_all <;> omega)) ?_)
              refine hK _ ?_; clear hK K; refine Nav.imp ?_
              refine ⟨k + 1, ⟨hlt, by rw [all_range_succ, hall, hat]; simp [h1, h3]⟩, by omega, ?_⟩
              refine weak_of [] rfl (by simp [upT, up, upL, push_cast]) (by simp [upH, upR, upL, up, push_cast]) (by simp [namesOk, push_cast]) (by simp [olds])
        | false =>
          by_cases hk0 : k = 0
          · subst hk0
            refine awp_region_draw cx mixed [(7, .p (.bool false))] fun K hK => ?_
            simp [push_cast, h1', c1, hr, Run.row]
            repeat (refine And.intro (by clear hK; intros; first | omega | (simp_all; done) | (simp_all <;> omega)) ?_)
            refine hK _ _ (by kernel_rfl) ?_; clear hK K; refine Nav.imp ?_
            refine awp_cond (b := true) (by simp [push_cast]) (fun hb => ?_) (fun hb => ?_) <;> (refine Nav.imp ?_)
            · refine awp_region cx [] fun K hK => ?_
              simp [push_cast]
              repeat (refine And.intro (by clear hK; intros; first | omega | (simp_all; done) | (simp_all <;> omega)) ?_)
              refine hK _ ?_; clear hK K; refine Nav.imp ?_
              simp [push_cast]
              refine all_range_false hlt ?_
              rw [hat]; simp
            · simp at hb
          · have e1 := wrap_i64 (n := (k : Int) - 1) (by omega) (by omega)
            have e2 : ((k : Int) - 1).toNat = k - 1 := by omega
            obtain ⟨pa, pb⟩ := p
            refine awp_region_draw cx mixed [(7, .p (.bool false))] fun K hK => ?_
            simp [push_cast, h1', c1, e1, e2, hp, Run.row]
            repeat (refine And.intro (by clear hK; intros; first | omega | (simp_all; done) | (simp_all <;> omega)) ?_)
            refine hK _ _ (by kernel_rfl) ?_; clear hK K; refine Nav.imp ?_
            refine awp_cond (b := true) (by simp [push_cast]) (fun hb => ?_) (fun hb => ?_) <;> (refine Nav.imp ?_)
            · refine awp_region cx [] fun K hK => ?_
              simp [push_cast]
              repeat (refine And.intro (by clear hK; intros; first | omega | (simp_all; done) | (simp_all <;> omega)) ?_)
              refine hK _ ?_; clear hK K; refine Nav.imp ?_
              simp [push_cast]
              refine all_range_false hlt ?_
              rw [hat]; simp
            · simp at hb
      · have h1' : rb ≤ ra := by omega
        have e1 := wrap_i64 (n := (k : Int) - 1) (by omega) (by omega)
        by_cases hk0 : k = 0
        · subst hk0
          refine awp_region_draw cx mixed [(7, .skip)] fun K hK => ?_
          simp [push_cast, h1', hr, Run.row]
          repeat (refine And.intro (by clear hK; intros; first | omega | (simp_all; done) | (simp_all <;> omega)) ?_)
          refine hK _ _ (by kernel_rfl) ?_; clear hK K; refine Nav.imp ?_
          refine awp_cond (b := true) (by simp [push_cast]) (fun hb => ?_) (fun hb => ?_) <;> (refine Nav.imp ?_)
          · refine awp_region cx [] fun K hK => ?_
            simp [push_cast]
            repeat (refine And.intro (by clear hK; intros; first | omega | (simp_all; done) | (simp_all <;> omega)) ?_)
            refine hK _ ?_; clear hK K; refine Nav.imp ?_
            simp [push_cast]
            refine all_range_false hlt ?_
            rw [hat]; simp [h1]
          · simp at hb
        · have e2 : ((k : Int) - 1).toNat = k - 1 := by omega
          obtain ⟨pa, pb⟩ := p
          refine awp_region_draw cx mixed [(7, .skip)] fun K hK => ?_
          simp [push_cast, h1', e1, e2, hp, Run.row]
          repeat (refine And.intro (by clear hK; intros; first | omega | (simp_all; done) | (simp_all <;> omega)) ?_)
          refine hK _ _ (by kernel_rfl) ?_; clear hK K; refine Nav.imp ?_
          refine awp_cond (b := true) (by simp [push_cast]) (fun hb => ?_) (fun hb => ?_) <;> (refine Nav.imp ?_)
          · refine awp_region cx [] fun K hK => ?_
            simp [push_cast]
            repeat (refine And.intro (by clear hK; intros; first | omega | (simp_all; done) | (simp_all <;> omega)) ?_)
            refine hK _ ?_; clear hK K; refine Nav.imp ?_
            simp [push_cast]
            refine all_range_false hlt ?_
            rw [hat]; simp [h1]
          · simp at hb
    · have hge : k = l.length := by simp at hb; omega
      subst hge
      refine awp_region cx [] fun K hK => ?_
      simp [push_cast]
      repeat (refine And.intro (by clear hK; intros; first | omega | (simp_all; done) | (simp_all <;> omega)) ?_)
      refine hK _ ?_; clear hK K; refine Nav.imp ?_
      simp [push_cast]
      exact hall
theorem rvalid_ok (l : List Run) (hl : l.length ≤ 1000000) : PC Tryz.prog 118 [encRuns l] (.p (.bool (rvalid l))) := rvalid_big l (by omega)
end Go.Proofs.YtdddknniooimmaaGreat

namespace Go.Proofs.YtdddknniooimmaaGreat
open Go.Abs

abbrev hRow (h : Hd) : List D := [.int .i64 h.int]
abbrev encHs (l : List Hd) : D := .sl (l.map hRow)
theorem left_ok (h : Hd) : PC Tryz.prog 142 [.int .i64 h.int] (.p (.int .i64 h.l.int)) := by
  refine pc_of_awp cx (fn := Tryz.f142) (c := _) Tryz.func142 rfl rfl (Nat.le_of_ble_eq_true rfl) ?_
  rw [Tryz.ntmps142]; refine Nav.imp ?_
  refine awp_region cx [] fun K hK => ?_
  simp [push_cast]
  repeat (refine And.intro (by clear hK; intros; first | omega | (simp_all; done) | (simp_all <;> omega)) ?_)
  refine hK _ ?_; clear hK K; refine Nav.imp ?_
  have e1 : IntKind.wrap .i64 (h.int + 1) = h.int + 1 := wrap_i64 (by cases h <;> decide) (by cases h <;> decide)
  have e2 : (h.int + 1).tmod 4 = h.l.int := by cases h <;> rfl
  refine awp_region cx [] fun K hK => ?_
  simp [push_cast, e1, e2]
  repeat (refine And.intro (by clear hK; intros; first | omega | (simp_all; done) | (simp_all <;> omega)) ?_)
  refine hK _ ?_; clear hK K; refine Nav.imp ?_
  simp [push_cast]
theorem right_ok (h : Hd) : PC Tryz.prog 143 [.int .i64 h.int] (.p (.int .i64 h.r.int)) := by
  refine pc_of_awp cx (fn := Tryz.f143) (c := _) Tryz.func143 rfl rfl (Nat.le_of_ble_eq_true rfl) ?_
  rw [Tryz.ntmps143]; refine Nav.imp ?_
  refine awp_region cx [] fun K hK => ?_
  simp [push_cast]
  repeat (refine And.intro (by clear hK; intros; first | omega | (simp_all; done) | (simp_all <;> omega)) ?_)
  refine hK _ ?_; clear hK K; refine Nav.imp ?_
  have e1 : IntKind.wrap .i64 (h.int + 3) = h.int + 3 := wrap_i64 (by cases h <;> decide) (by cases h <;> decide)
  have e2 : (h.int + 3).tmod 4 = h.r.int := by cases h <;> rfl
  refine awp_region cx [] fun K hK => ?_
  simp [push_cast, e1, e2]
  repeat (refine And.intro (by clear hK; intros; first | omega | (simp_all; done) | (simp_all <;> omega)) ?_)
  refine hK _ ?_; clear hK K; refine Nav.imp ?_
  simp [push_cast]
theorem from_ok (h : Hd) (p : Cell) (hp : -1000000 ≤ p.x ∧ p.x ≤ 1000000 ∧ -1000000 ≤ p.y ∧ p.y ≤ 1000000) : PC Tryz.prog 141 [.int .i64 h.int, .agg p.row] (.p (.agg (stp h p).row)) := by
  have e1 := wrap_i64 (n := p.x + 1) (by omega) (by omega)
  have e2 := wrap_i64 (n := p.x - 1) (by omega) (by omega)
  have e3 := wrap_i64 (n := p.y + 1) (by omega) (by omega)
  have e4 := wrap_i64 (n := p.y - 1) (by omega) (by omega)
  obtain ⟨x, y⟩ := p
  simp only at e1 e2 e3 e4
  refine pc_of_awp cx (fn := Tryz.f141) (c := _) Tryz.func141 rfl rfl (Nat.le_of_ble_eq_true rfl) ?_
  rw [Tryz.ntmps141]; refine Nav.imp ?_
  refine awp_region cx [] fun K hK => ?_
  simp [push_cast]
  repeat (refine And.intro (by clear hK; intros; first | omega | (simp_all; done) | (simp_all <;> omega)) ?_)
  refine hK _ ?_; clear hK K; refine Nav.imp ?_
  refine awp_region cx [] fun K hK => ?_
  simp [push_cast]
  repeat (refine And.intro (by clear hK; intros; first | omega | (simp_all; done) | (simp_all <;> omega)) ?_)
  refine hK _ ?_; clear hK K; refine Nav.imp ?_
  refine awp_region cx [] fun K hK => ?_
  simp [push_cast]
  repeat (refine And.intro (by clear hK; intros; first | omega | (simp_all; done) | (simp_all <;> omega)) ?_)
  refine hK _ ?_; clear hK K; refine Nav.imp ?_
  cases h
  · simp only [Hd.int, stp]
    refine awp_cond (b := true) (by simp [push_cast]) (fun hb => ?_) (fun hb => ?_) <;> (refine Nav.imp ?_)
    · refine awp_region cx [] fun K hK => ?_
      simp [push_cast, e1]
      repeat (refine And.intro (by clear hK; intros; first | omega | (simp_all; done) | (simp_all <;> omega)) ?_)
      refine hK _ ?_; clear hK K; refine Nav.imp ?_
      refine awp_region cx [] fun K hK => ?_
      simp [push_cast]
      repeat (refine And.intro (by clear hK; intros; first | omega | (simp_all; done) | (simp_all <;> omega)) ?_)
      refine hK _ ?_; clear hK K; refine Nav.imp ?_
      simp [push_cast]
    · simp at hb
  · simp only [Hd.int, stp]
    refine awp_cond (b := false) (by simp [push_cast]) (fun hb => ?_) (fun hb => ?_) <;> (refine Nav.imp ?_)
    · simp at hb
    · refine awp_region cx [] fun K hK => ?_
      simp [push_cast]
      repeat (refine And.intro (by clear hK; intros; first | omega | (simp_all; done) | (simp_all <;> omega)) ?_)
      refine hK _ ?_; clear hK K; refine Nav.imp ?_
      refine awp_cond (b := true) (by simp [push_cast]) (fun hb => ?_) (fun hb => ?_) <;> (refine Nav.imp ?_)
      · refine awp_region cx [] fun K hK => ?_
        simp [push_cast, e3]
        repeat (refine And.intro (by clear hK; intros; first | omega | (simp_all; done) | (simp_all <;> omega)) ?_)
        refine hK _ ?_; clear hK K; refine Nav.imp ?_
        refine awp_region cx [] fun K hK => ?_
        simp [push_cast]
        repeat (refine And.intro (by clear hK; intros; first | omega | (simp_all; done) | (simp_all <;> omega)) ?_)
        refine hK _ ?_; clear hK K; refine Nav.imp ?_
        simp [push_cast]
      · simp at hb
  · simp only [Hd.int, stp]
    refine awp_cond (b := false) (by simp [push_cast]) (fun hb => ?_) (fun hb => ?_) <;> (refine Nav.imp ?_)
    · simp at hb
    · refine awp_region cx [] fun K hK => ?_
      simp [push_cast]
      repeat (refine And.intro (by clear hK; intros; first | omega | (simp_all; done) | (simp_all <;> omega)) ?_)
      refine hK _ ?_; clear hK K; refine Nav.imp ?_
      refine awp_cond (b := false) (by simp [push_cast]) (fun hb => ?_) (fun hb => ?_) <;> (refine Nav.imp ?_)
      · simp at hb
      · refine awp_region cx [] fun K hK => ?_
        simp [push_cast]
        repeat (refine And.intro (by clear hK; intros; first | omega | (simp_all; done) | (simp_all <;> omega)) ?_)
        refine hK _ ?_; clear hK K; refine Nav.imp ?_
        refine awp_cond (b := true) (by simp [push_cast]) (fun hb => ?_) (fun hb => ?_) <;> (refine Nav.imp ?_)
        · refine awp_region cx [] fun K hK => ?_
          simp [push_cast, e2]
          repeat (refine And.intro (by clear hK; intros; first | omega | (simp_all; done) | (simp_all <;> omega)) ?_)
          refine hK _ ?_; clear hK K; refine Nav.imp ?_
          refine awp_region cx [] fun K hK => ?_
          simp [push_cast]
          repeat (refine And.intro (by clear hK; intros; first | omega | (simp_all; done) | (simp_all <;> omega)) ?_)
          refine hK _ ?_; clear hK K; refine Nav.imp ?_
          simp [push_cast]
        · simp at hb
  · simp only [Hd.int, stp]
    refine awp_cond (b := false) (by simp [push_cast]) (fun hb => ?_) (fun hb => ?_) <;> (refine Nav.imp ?_)
    · simp at hb
    · refine awp_region cx [] fun K hK => ?_
      simp [push_cast]
      repeat (refine And.intro (by clear hK; intros; first | omega | (simp_all; done) | (simp_all <;> omega)) ?_)
      refine hK _ ?_; clear hK K; refine Nav.imp ?_
      refine awp_cond (b := false) (by simp [push_cast]) (fun hb => ?_) (fun hb => ?_) <;> (refine Nav.imp ?_)
      · simp at hb
      · refine awp_region cx [] fun K hK => ?_
        simp [push_cast]
        repeat (refine And.intro (by clear hK; intros; first | omega | (simp_all; done) | (simp_all <;> omega)) ?_)
        refine hK _ ?_; clear hK K; refine Nav.imp ?_
        refine awp_cond (b := false) (by simp [push_cast]) (fun hb => ?_) (fun hb => ?_) <;> (refine Nav.imp ?_)
        · simp at hb
        · refine awp_region cx [] fun K hK => ?_
          simp [push_cast, e4]
          repeat (refine And.intro (by clear hK; intros; first | omega | (simp_all; done) | (simp_all <;> omega)) ?_)
          refine hK _ ?_; clear hK K; refine Nav.imp ?_
          refine awp_region cx [] fun K hK => ?_
          simp [push_cast]
          repeat (refine And.intro (by clear hK; intros; first | omega | (simp_all; done) | (simp_all <;> omega)) ?_)
          refine hK _ ?_; clear hK K; refine Nav.imp ?_
          simp [push_cast]
def idxH (h : Hd) : List Hd → Int
  | [] => -1
  | k :: l => if h = k then 0 else if idxH h l = -1 then -1 else idxH h l + 1
theorem idxH_ge (h : Hd) : ∀ l, -1 ≤ idxH h l
  | [] => by simp [idxH]
  | k :: l => by unfold idxH; have := idxH_ge h l; split <;> (try split) <;> omega
theorem idxH_le (h : Hd) : ∀ l, idxH h l < l.length
  | [] => by simp [idxH]
  | k :: l => by unfold idxH; have := idxH_le h l; simp only [List.length_cons]; split <;> (try split) <;> omega
theorem idxH_mem (h : Hd) : ∀ l, 0 ≤ idxH h l ↔ h ∈ l
  | [] => by simp [idxH]
  | k :: l => by
    unfold idxH
    have h1 := idxH_mem h l
    have h2 := idxH_ge h l
    by_cases e : h = k
    · simp [e]
    · rw [if_neg e]
      simp only [List.mem_cons, e, false_or, ← h1]
      split <;> omega
theorem idxH_at (h : Hd) : ∀ (l : List Hd) (i : Nat), l[i]? = some h → h ∉ l.take i → idxH h l = i
  | [], i, hi, _ => by simp at hi
  | k :: l, 0, hi, _ => by simp at hi; simp [idxH, hi]
  | k :: l, i + 1, hi, hn => by
    simp only [List.take_succ_cons, List.mem_cons, not_or] at hn
    have := idxH_at h l i (by simpa using hi) hn.2
    unfold idxH
    rw [if_neg hn.1, this, if_neg (by omega)]
    simp
theorem index_ok (l : List Hd) (h : Hd) (hl : l.length ≤ 1000000) : PC Tryz.prog 211 [encHs l, .int .i64 h.int] (.p (.int .i64 (idxH h l))) := by
  refine pc_of_awp cx (fn := Tryz.f211) (c := _) Tryz.func211 rfl rfl (Nat.le_of_ble_eq_true rfl) ?_
  rw [Tryz.ntmps211]; refine Nav.imp ?_
  refine awp_region cx [] fun K hK => ?_
  simp [push_cast]
  repeat (refine And.intro (by clear hK; intros; first | omega | (simp_all; done) | (simp_all <;> omega)) ?_)
  refine hK _ ?_; clear hK K; refine Nav.imp ?_
  refine awp_region cx [] fun K hK => ?_
  simp [push_cast]
  repeat (refine And.intro (by clear hK; intros; first | omega | (simp_all; done) | (simp_all <;> omega)) ?_)
  refine hK _ ?_; clear hK K; refine Nav.imp ?_
  refine awp_loop (β := Nat) (fun k => ⟨19, [(0, .d (encHs l)), (1, .d (.int .i64 h.int)), (6, .d (encHs l)), (7, .d (.int .i64 l.length)), (8, .d (.int .i64 k))], [], 0⟩) (fun k => k ≤ l.length ∧ h ∉ l.take k) (fun k => l.length - k) 0 ?_ ⟨Nat.zero_le _, by simp⟩ ?_
  · refine weak_of [] rfl (by simp [upT, up, upL, push_cast]) (by simp [upH, upR, upL, up, push_cast]) (by simp [namesOk, push_cast]) (by simp [olds])
  · rintro k ⟨hk, hpre⟩
    refine Nav.imp ?_
    refine awp_region cx [] fun K hK => ?_
    simp [push_cast]
    repeat (refine And.intro (by clear hK; intros; first | omega | (simp_all; done) | (simp_all <;> omega)) ?_)
    refine hK _ ?_; clear hK K; refine Nav.imp ?_
    refine awp_cond (b := decide ((k : Int) < l.length)) (by simp [push_cast]) (fun hb => ?_) (fun hb => ?_) <;> (refine Nav.imp ?_)
    · have hlt : k < l.length := by simpa using hb
      obtain ⟨q, hq⟩ := getq hlt
      have e0 := wrap_i64 (n := (k : Int) + 1) (by omega) (by omega)
      refine awp_region cx [] fun K hK => ?_
      simp [push_cast]
      repeat (refine And.intro (by clear hK; intros; first | omega | (simp_all; done) | (simp_all <;> omega)) ?_)
      refine hK _ ?_; clear hK K; refine Nav.imp ?_
      refine awp_region cx [] fun K hK => ?_
      simp [push_cast, hq]
      repeat (refine And.intro (by clear hK; intros; first | omega | (simp_all; done) | (simp_all <;> omega)) ?_)
      refine hK _ ?_; clear hK K; refine Nav.imp ?_
      by_cases e : h = q
      · subst e
        have hi := idxH_at h l k hq hpre
        refine awp_cond (b := true) (by simp [push_cast]) (fun hb => ?_) (fun hb => ?_) <;> (refine Nav.imp ?_)
        · refine awp_region cx [] fun K hK => ?_
          simp [push_cast]
          repeat (refine And.intro (by clear hK; intros; first | omega | (simp_all; done) | (simp_all <;> omega)) ?_)
          refine hK _ ?_; clear hK K; refine Nav.imp ?_
          simp [push_cast, hi]
        · simp at hb
      · have e1 : ¬ h.int = q.int := fun e2 => e (Hd.int_inj e2)
        refine awp_cond (b := false) (by simp [push_cast, e1]) (fun hb => ?_) (fun hb => ?_) <;> (refine Nav.imp ?_)
        · simp at hb
        · refine awp_region cx [] fun K hK => ?_
          simp [push_cast, e0]
          repeat (refine And.intro (by clear hK; intros; first | omega | (simp_all; done) | (simp_all <;> omega)) ?_)
          refine hK _ ?_; clear hK K; refine Nav.imp ?_
          refine ⟨k + 1, ⟨hlt, fun hm => ?_⟩, by omega, ?_⟩
          · rw [take_get hq] at hm
            simp only [List.mem_append, List.mem_singleton] at hm
            rcases hm with hm | hm
            · exact hpre hm
            · exact e hm
          · refine weak_of [] rfl (by simp [upT, up, upL, push_cast]) (by simp [upH, upR, upL, up, push_cast]) (by simp [namesOk, push_cast]) (by simp [olds])
    · have hke : k = l.length := by simp at hb; omega
      subst hke
      rw [List.take_length] at hpre
      have hi : idxH h l = -1 := by
        have h1 := idxH_mem h l
        have h2 := idxH_ge h l
        have h3 : ¬ 0 ≤ idxH h l := fun h4 => hpre (h1.1 h4)
        omega
      refine awp_region cx [] fun K hK => ?_
      simp [push_cast]
      repeat (refine And.intro (by clear hK; intros; first | omega | (simp_all; done) | (simp_all <;> omega)) ?_)
      refine hK _ ?_; clear hK K; refine Nav.imp ?_
      simp [push_cast, hi]
theorem hcont_ok (l : List Hd) (h : Hd) (hl : l.length ≤ 1000000) : PC Tryz.prog 144 [encHs l, .int .i64 h.int] (.p (.bool (decide (h ∈ l)))) := by
  have c1 := index_ok l h hl
  have e1 : decide (0 ≤ idxH h l) = decide (h ∈ l) := by rw [Bool.eq_iff_iff]; simp [idxH_mem]
  generalize idxH h l = i at *
  refine pc_of_awp cx (fn := Tryz.f144) (c := _) Tryz.func144 rfl rfl (Nat.le_of_ble_eq_true rfl) ?_
  rw [Tryz.ntmps144]; refine Nav.imp ?_
  refine awp_region cx [] fun K hK => ?_
  simp [push_cast]
  repeat (refine And.intro (by clear hK; intros; first | omega | (simp_all; done) | (simp_all <;> omega)) ?_)
  refine hK _ ?_; clear hK K; refine Nav.imp ?_
  refine awp_region cx [(2, .p (.int .i64 i))] fun K hK => ?_
  simp [push_cast, c1]
  repeat (refine And.intro (by clear hK; intros; first | omega | (simp_all; done) | (simp_all <;> omega)) ?_)
  refine hK _ ?_; clear hK K; refine Nav.imp ?_
  simp [push_cast, e1]
theorem hclone_ok (l : List Hd) (hl : l.length ≤ 1000000) : PC Tryz.prog 213 [encHs l] (.o 178 1 (l.map hRow)) := by
  have h16 : l.length * 16 ≤ 140737488355328 := by omega
  refine pc_of_awp cx (fn := Tryz.f213) (c := _) Tryz.func213 rfl rfl (Nat.le_of_ble_eq_true rfl) ?_
  rw [Tryz.ntmps213]; refine Nav.imp ?_
  refine awp_region cx [] fun K hK => ?_
  simp [push_cast]
  repeat (refine And.intro (by clear hK; intros; first | omega | (simp_all; done) | (simp_all <;> omega)) ?_)
  refine hK _ ?_; clear hK K; refine Nav.imp ?_
  refine awp_region cx [] fun K hK => ?_
  simp [push_cast]
  repeat (refine And.intro (by clear hK; intros; first | omega | (simp_all; done) | (simp_all <;> omega)) ?_)
  refine hK _ ?_; clear hK K; refine Nav.imp ?_
  refine awp_ub 4 (by simp [push_cast]; exact ⟨rfl, rfl⟩) fun bu hu1 hu2 => ?_
  refine awp_cond (b := bu) (by simp [push_cast]) (fun hb => ?_) (fun hb => ?_) <;> (refine Nav.imp ?_)
  · have hl0 : l = [] := by simpa using hu1 hb
    subst hl0
    refine awp_region cx [] fun K hK => ?_
    simp [push_cast]
    repeat (refine And.intro (by clear hK; intros; first | omega | (simp_all; done) | (simp_all <;> omega)) ?_)
    refine hK _ ?_; clear hK K; refine Nav.imp ?_
    simp [push_cast]
  · refine awp_region cx [] fun K hK => ?_
    simp [push_cast, h16]
    repeat (refine And.intro (by clear hK; intros; first | omega | (simp_all; done) | (simp_all <;> omega)) ?_)
    refine hK _ ?_; clear hK K; refine Nav.imp ?_
    simp [push_cast]
end Go.Proofs.YtdddknniooimmaaGreat

namespace Go.Abs
variable [Flag]
open Go.Shelf Go.RowKit Go.Lib Go.Sort Go.Proofs

abbrev iRow (x : Int) : List D := [.int .i64 x]
abbrev encI (x : Int) : Value := .int .i64 x

theorem heap_rowI (w : World) (blk n : Nat) (d : Array Int) (os : Array Obj) {b : Nat} (hb : b < w.heap.size) (hne : b ≠ blk) : (grow (putRow encI (Go.Sort.ahead w n) blk 0 d) os).heap[b]? = w.heap[b]? := by
  rw [heap_grow_old _ _ (by simpa [putRow, mapBlock, heap_ahead] using hb)]
  simp only [putRow, mapBlock, heap_ahead]
  rw [Array.getElem?_modify, if_neg (fun h => hne h.symm)]
theorem heap_rowI_blk (w : World) (blk n : Nat) (d : Array Int) (os : Array Obj) {cur : Array Value} {e : TypeId} {fr : Nat × Nat} (h : w.heap[blk]? = some (.cells cur e fr)) : (grow (putRow encI (Go.Sort.ahead w n) blk 0 d) os).heap[blk]? = some (.cells (Go.Sort.putCells encI 0 d cur) e fr) := by
  have hb : blk < w.heap.size := (Array.getElem?_eq_some_iff.1 h).1
  rw [heap_grow_old _ _ (by simpa [putRow, mapBlock, heap_ahead] using hb)]
  simp only [putRow, mapBlock, heap_ahead]
  rw [Array.getElem?_modify, if_pos rfl, h]
  rfl
theorem size_rowI (w : World) (blk n : Nat) (d : Array Int) (os : Array Obj) : w.heap.size ≤ (grow (putRow encI (Go.Sort.ahead w n) blk 0 d) os).heap.size := by
  rw [size_grow]; simp [putRow, mapBlock, heap_ahead]
theorem drawn_rowI (w : World) (blk n : Nat) (d : Array Int) (os : Array Obj) : w.drawn ≤ (grow (putRow encI (Go.Sort.ahead w n) blk 0 d) os).drawn := by
  simp [grow, putRow, mapBlock, ahead]

theorem int_px {P : Program} {f : FuncId} (hent : Enters P f) (e : TypeId) {zs ys : List Int} (hn : 0 < zs.length) (hlen : ys.length = zs.length) (rv : Nat → Nat → Value) (rA : AV)
    (hrep : ∀ (g : G) (w : World) (L : Loc), g.used 0 → g.loc 0 = some L → (L.virt = false ∧ L.map = false) → zs.length ≤ L.cap → RepA g w rA (rv L.blk L.cap))
    (hc : ∀ (blk cap : Nat) (w : World), Holds encI w blk 0 zs.toArray → blk < w.heap.size → zs.length ≤ cap → Calls P f #[.slice (some ⟨blk, 0, none⟩) zs.length cap] w fun e w' => e = .returned (rv blk cap) ∧ ∃ n os, w' = grow (putRow encI (Go.Sort.ahead w n) blk 0 ys.toArray) os) :
    PX P f [.hs 0 0 zs.length] [(0, ⟨e, 1, dr (zs.map iRow)⟩)] [(0, 0)] [(0, ⟨e, 1, dr (ys.map iRow)⟩)] rA := by
  refine ⟨hent, fun g w vs h hu hvs => ?_⟩
  simp only [RepAs] at hvs
  obtain ⟨v0, _, rfl, h0, rfl⟩ := hvs
  obtain ⟨L0, hL, hok⟩ := h.own 0 ⟨e, 1, dr (zs.map iRow)⟩ (by simp [objL, find])
  have hkm : L0.m = 1 := hok.m
  have hlenr : (dr (zs.map iRow)).length = zs.length := by simp [dr]
  have hvirt : L0.virt = false := by
    cases hv : L0.virt with
    | false => rfl
    | true =>
      have h2 : (dr (zs.map iRow)).length = 0 := by rw [show dr (zs.map iRow) = [] from hok.virt hv]; rfl
      omega
  simp only [RepA] at h0
  have hflat : L0.virt = false ∧ L0.map = false := by
    rcases h0.2 L0 hL with ⟨hv, _⟩ | ⟨hv, _⟩
    · rw [hvirt] at hv; cases hv
    · exact hv
  have hvm := hflat.2
  obtain ⟨cur, hR, hcs, hcap, hrows⟩ := hok.cells hflat
  have hR' := hR
  obtain ⟨el0, fr0, hblk, hx1, hx2⟩ := hR'
  have e0 : v0 = .slice (some ⟨L0.blk, 0, none⟩) zs.length L0.cap := by
    rcases h0.2 L0 hL with ⟨hv, _⟩ | ⟨_, _, hv⟩
    · rw [hvirt] at hv; cases hv
    · rw [hv]; simp
  have hcapl : zs.length ≤ L0.cap := by have := hok.len hvm; rw [hlenr] at this; exact this
  have hblt : L0.blk < w.heap.size := (Array.getElem?_eq_some_iff.1 hblk).1
  have hcsz : cur.size = L0.cap := by rw [hcs, hkm]; simp
  have hget : ∀ i (hi : i < zs.length), cur[i]? = some (encI zs[i]) := fun i hi => by
    have hrow := hrows i ((iRow zs[i]).map AV.d) (by simp [dr, hi])
    obtain ⟨u, hu1, hu2, hu3⟩ := hrow.2 0 (.d (.int .i64 zs[i])) (by simp)
    rw [hkm] at hu1
    simp only [RepA, RepD] at hu3
    rw [hu3] at hu1
    simpa using hu1
  have hH : Holds encI w L0.blk 0 zs.toArray := by
    intro j hj
    have hj' : j < zs.length := by simpa using hj
    have h1 := hget j hj'
    refine ⟨?_, ?_⟩
    · simp only [World.cell?, hblk, Nat.zero_add, Option.isSome_none, Bool.false_eq_true, if_false]
      rw [h1, getElem!_pos zs.toArray j hj]
      simp
    · simpa using hR.open (o := j) (by omega)
  rw [e0]
  refine (hc L0.blk L0.cap w hH hblt hcapl).mono ?_
  rintro ex w' ⟨rfl, n, os, rfl⟩
  have hbs : RowAt ((grow (putRow encI (Go.Sort.ahead w n) L0.blk 0 ys.toArray) os).heap[L0.blk]?) e (Go.Sort.putCells encI 0 ys.toArray cur) := ⟨el0, fr0, heap_rowI_blk w L0.blk n ys.toArray os hblk, hx1, by simp only [Go.Sort.putCells, Array.size_mapIdx]; exact hx2⟩
  obtain ⟨g', h1, h2, h3, h4, h5, h6⟩ := HRel.write h hL hflat (id' := 0) (.inl rfl) ⟨e, 1, dr (ys.map iRow)⟩ (Go.Sort.putCells encI 0 ys.toArray cur) (w' := grow (putRow encI (Go.Sort.ahead w n) L0.blk 0 ys.toArray) os) (cap := L0.cap) (B := L0.blk) rfl ⟨rfl, .inr (drawn_rowI _ _ _ _ _)⟩ rfl (size_rowI _ _ _ _ _)
    (fun b hb hne => heap_rowI _ _ _ _ _ hb hne) (.inl rfl) hbs hkm.symm hok.pos (by simp only [Go.Sort.putCells, Array.size_mapIdx]; rw [hcs]) (by simp [dr]; omega) hcap (fun _ => ⟨rfl, rfl⟩) (by
      intro i row hi
      have hil : i < ys.length := by have := (List.getElem?_eq_some_iff.1 hi).1; simpa [dr] using this
      have hrow : row = (iRow ys[i]).map AV.d := by
        have : (dr (ys.map iRow))[i]? = some ((iRow ys[i]).map AV.d) := by simp [dr, hil]
        rw [this] at hi; exact (Option.some.inj hi).symm
      subst hrow
      refine ⟨by simp [hkm], fun j av hj => ?_⟩
      have hj0 : j = 0 := by have := (List.getElem?_eq_some_iff.1 hj).1; simp at this; omega
      subst hj0
      have hav : av = .d (.int .i64 ys[i]) := by simpa using hj.symm
      subst hav
      refine ⟨encI ys[i], ?_, rfl, by simp only [RepA, RepD]⟩
      rw [hkm]
      have hic : i < cur.size := by omega
      simp only [Go.Sort.putCells, Nat.mul_one, Nat.add_zero, Array.getElem?_mapIdx, Array.getElem?_eq_getElem hic, Option.map_some]
      rw [if_pos ⟨Nat.zero_le _, by simp; omega⟩]
      have : ys.toArray[i - 0]! = ys[i] := by rw [Nat.sub_zero, getElem!_pos ys.toArray i (by simpa using hil)]; simp
      rw [this])
  refine ⟨_, g', rfl, ?_, ?_, h5, ?_⟩
  · have : (upd1 (upd1 (objL [(0, ⟨e, 1, dr (zs.map iRow)⟩)]) 0 none) 0 (some ⟨e, 1, dr (ys.map iRow)⟩)) = objL [(0, ⟨e, 1, dr (ys.map iRow)⟩)] := by
      funext x
      simp only [upd1, objL, find]
      by_cases hx : x = 0
      · subst hx; simp
      · have hx' : ¬ (0 = x) := fun h => hx h.symm
        simp [hx, hx']
    rw [← this]; exact h4
  · exact hrep g' _ ⟨L0.blk, L0.m, L0.cap, false, false⟩ (by rw [h2]; exact .inr rfl) h1 ⟨rfl, rfl⟩ hcapl
  · intro i j hij
    simp only [List.mem_cons, List.not_mem_nil, or_false, Prod.mk.injEq] at hij
    obtain ⟨rfl, rfl⟩ := hij
    rw [h1, hL]
    cases L0; simp_all

theorem int_px0 {P : Program} {f : FuncId} (hent : Enters P f) (e : TypeId) (rv : Option Addr → Nat → Value) (rA : AV)
    (hrep : ∀ (g : G) (w : World) p c, RepA g w (.hs 0 0 0) (.slice p 0 c) → RepA g w rA (rv p c))
    (hc : ∀ p c (w : World), Calls P f #[.slice p 0 c] w fun e w' => e = .returned (rv p c) ∧ w' = w) :
    PX P f [.hs 0 0 0] [(0, ⟨e, 1, []⟩)] [(0, 0)] [(0, ⟨e, 1, []⟩)] rA := by
  refine ⟨hent, fun g w vs h hu hvs => ?_⟩
  simp only [RepAs] at hvs
  obtain ⟨v0, _, rfl, h0, rfl⟩ := hvs
  have h00 := h0
  obtain ⟨L0, hL, hok⟩ := h.own 0 ⟨e, 1, []⟩ (by simp [objL, find])
  simp only [RepA] at h0
  have e0 : ∃ p c, v0 = .slice p 0 c := by
    rcases h0.2 L0 hL with ⟨_, _, _, a0, hv⟩ | ⟨_, _, hv⟩
    · exact ⟨a0, _, hv⟩
    · exact ⟨_, _, hv⟩
  obtain ⟨p, c, rfl⟩ := e0
  refine (hc p c w).mono ?_
  rintro ex w' ⟨rfl, rfl⟩
  refine ⟨_, g, rfl, h, hrep _ _ _ _ h00, Step.refl g _, ?_⟩
  intro i j hij
  simp only [List.mem_cons, List.not_mem_nil, or_false, Prod.mk.injEq] at hij
  obtain ⟨rfl, rfl⟩ := hij
  rfl

theorem sortI_px {P : Program} {ρ : Ren} (L : Lays.n189 P ρ) (hent : Enters P (ρ.f 189)) (e : TypeId) (zs : List Int) (hsz : zs.length < 4611686018427387904) :
    PX P (ρ.f 189) [.hs 0 0 zs.length] [(0, ⟨e, 1, dr (zs.map iRow)⟩)] [(0, 0)] [(0, ⟨e, 1, dr ((zs.mergeSort fun x y => decide (x ≤ y)).map iRow)⟩)] (.tup []) := by
  by_cases hn : 0 < zs.length
  · exact int_px hent e hn (List.length_mergeSort zs) (fun _ _ => .tuple #[]) (.tup []) (fun g w L _ _ _ _ => by simp only [RepA, RepAs]; exact ⟨[], rfl, rfl⟩)
      fun blk cap w hH hb _ => Any.slices_Sort_int L blk 0 cap zs w hH hb hsz
  · have : zs = [] := List.eq_nil_of_length_eq_zero (by omega)
    subst this
    have := int_px0 hent e (fun _ _ => .tuple #[]) (.tup []) (fun g w p c _ => by simp only [RepA, RepAs]; exact ⟨[], rfl, rfl⟩) fun p c w => Any.slices_Sort_int_none L p c w
    simpa [dr] using this

theorem compactI_px {P : Program} {ρ : Ren} (L : Lays2.n20 P ρ) (hent : Enters P (ρ.f 20)) (e : TypeId) (zs : List Int) (hsz : zs.length ≤ 9223372036854775807) :
    PX P (ρ.f 20) [.hs 0 0 zs.length] [(0, ⟨e, 1, dr (zs.map iRow)⟩)] [(0, 0)] [(0, ⟨e, 1, dr ((Lib.compact zs ++ List.replicate (zs.length - (Lib.compact zs).length) 0).map iRow)⟩)] (.hs 0 0 (Lib.compact zs).length) := by
  have hle := Lib.compact_length_le zs
  by_cases hn : 0 < zs.length
  · refine int_px hent e hn (by simp; omega) (fun blk cap => .slice (some ⟨blk, 0, none⟩) (Lib.compact zs).length cap) (.hs 0 0 (Lib.compact zs).length) (fun g w L hu hL hv hcap => ?_) fun blk cap w hH hb hcap => ?_
    · have := rep_hs (L := L) (w := w) hu hL hv (len := (Lib.compact zs).length) (by omega)
      exact this
    · refine (Any.slices_Compact_int L blk 0 cap zs w hH hsz hcap).mono ?_
      rintro ex w' ⟨h1, q, h2⟩
      exact ⟨h1, q, #[], by rw [grow_empty]; exact h2⟩
  · have : zs = [] := List.eq_nil_of_length_eq_zero (by omega)
    subst this
    have := int_px0 hent e (fun p c => .slice p 0 c) (.hs 0 0 0) (fun g w p c h => h) fun p c w => Any.slices_Compact_int_empty L p c w
    have hc : Lib.compact ([] : List Int) = [] := rfl
    simpa [dr, hc] using this

theorem compact_sorted {zs : List Int} (h : zs.Pairwise (· ≤ ·)) : (Lib.compact zs).Pairwise (· < ·) ∧ ∀ y, y ∈ Lib.compact zs ↔ y ∈ zs := by
  have key : ∀ m, m ≤ zs.length → (Lib.compactUpTo zs.toArray m).Pairwise (· < ·) ∧ (∀ y, y ∈ Lib.compactUpTo zs.toArray m ↔ y ∈ zs.take m) := by
    intro m
    induction m with
    | zero => intro _; simp [Lib.compactUpTo]
    | succ m ih =>
      intro hm
      obtain ⟨ih1, ih2⟩ := ih (by omega)
      have hlt : m < zs.length := by omega
      have hg : zs.toArray[m]! = zs[m] := by rw [getElem!_pos zs.toArray m (by simpa using hlt)]; simp
      have htk : zs.take (m + 1) = zs.take m ++ [zs[m]] := by rw [List.take_add_one, List.getElem?_eq_getElem hlt]; rfl
      rw [Lib.compactUpTo_succ, htk, hg]
      by_cases hk : Lib.keeps zs.toArray m = true
      · rw [if_pos hk]
        refine ⟨?_, fun y => by rw [List.mem_append, List.mem_append, ih2]⟩
        rw [List.pairwise_append]
        refine ⟨ih1, by simp, fun a ha b hb => ?_⟩
        simp at hb; subst hb
        rw [ih2] at ha
        obtain ⟨j, hj, rfl⟩ := List.mem_iff_getElem.1 ha
        have hjm : j < m := by simp at hj; omega
        rw [List.getElem_take]
        have hm0 : 0 < m := by omega
        have hg1 : zs.toArray[m - 1]! = zs[m - 1] := by rw [getElem!_pos zs.toArray (m - 1) (by simp; omega)]; simp
        simp only [Lib.keeps, hg, hg1, decide_eq_true_eq] at hk
        have h1 := List.pairwise_iff_getElem.1 h (m - 1) m (by omega) hlt (by omega)
        have h2 : zs[j] ≤ zs[m - 1] := by
          by_cases e : j = m - 1
          · subst e; exact Int.le_refl _
          · exact List.pairwise_iff_getElem.1 h j (m - 1) (by omega) (by omega) (by omega)
        have h3 : zs[m] ≠ zs[m - 1] := by rcases hk with hk | hk; omega; exact hk
        omega
      · rw [if_neg hk, List.append_nil]
        refine ⟨ih1, fun y => ?_⟩
        rw [ih2]
        simp only [Lib.keeps, decide_eq_true_eq] at hk
        have hm0 : m ≠ 0 := fun e => hk (.inl e)
        have hg1 : zs.toArray[m - 1]! = zs[m - 1] := by rw [getElem!_pos zs.toArray (m - 1) (by simp; omega)]; simp
        have he : zs[m] = zs[m - 1] := by
          apply Classical.byContradiction
          intro hne
          exact hk (.inr (by rw [hg, hg1]; exact hne))
        simp only [List.mem_append, List.mem_singleton]
        constructor
        · exact .inl
        · rintro (h1 | h1)
          · exact h1
          · rw [h1, he]
            exact List.mem_iff_getElem.2 ⟨m - 1, by simp; omega, by rw [List.getElem_take]⟩
  have := key zs.length (Nat.le_refl _)
  rw [List.take_length] at this
  exact this
end Go.Abs

namespace Go.Abs
variable [Flag]
open Go.Shelf Go.RowKit Go.Lib Go.Sort Go.Proofs

theorem int_px2 {P : Program} {f : FuncId} (hent : Enters P f) (e : TypeId) {zs ys : List Int} (a b : Int) (hn : 0 < zs.length) (hlen : ys.length = zs.length) (rv : Nat → Nat → Value) (rA : AV)
    (hrep : ∀ (g : G) (w : World) (L : Loc), g.used 0 → g.loc 0 = some L → (L.virt = false ∧ L.map = false) → zs.length ≤ L.cap → RepA g w rA (rv L.blk L.cap))
    (hc : ∀ (blk cap : Nat) (w : World), Holds encI w blk 0 zs.toArray → blk < w.heap.size → zs.length ≤ cap → cap ≤ maxLen → Calls P f #[.slice (some ⟨blk, 0, none⟩) zs.length cap, .int .i64 a, .int .i64 b] w fun e w' => e = .returned (rv blk cap) ∧ ∃ n os, w' = grow (putRow encI (Go.Sort.ahead w n) blk 0 ys.toArray) os) :
    PX P f [.hs 0 0 zs.length, .d (.int .i64 a), .d (.int .i64 b)] [(0, ⟨e, 1, dr (zs.map iRow)⟩)] [(0, 0)] [(0, ⟨e, 1, dr (ys.map iRow)⟩)] rA := by
  refine ⟨hent, fun g w vs h hu hvs => ?_⟩
  simp only [RepAs, RepA, RepD] at hvs
  obtain ⟨v0, _, rfl, h0, _, _, rfl, rfl, _, _, rfl, rfl, rfl⟩ := hvs
  obtain ⟨L0, hL, hok⟩ := h.own 0 ⟨e, 1, dr (zs.map iRow)⟩ (by simp [objL, find])
  have hkm : L0.m = 1 := hok.m
  have hlenr : (dr (zs.map iRow)).length = zs.length := by simp [dr]
  have hvirt : L0.virt = false := by
    cases hv : L0.virt with
    | false => rfl
    | true =>
      have h2 : (dr (zs.map iRow)).length = 0 := by rw [show dr (zs.map iRow) = [] from hok.virt hv]; rfl
      omega
  have hflat : L0.virt = false ∧ L0.map = false := by
    rcases h0.2 L0 hL with ⟨hv, _⟩ | ⟨hv, _⟩
    · rw [hvirt] at hv; cases hv
    · exact hv
  have hvm := hflat.2
  obtain ⟨cur, hR, hcs, hcap, hrows⟩ := hok.cells hflat
  have hR' := hR
  obtain ⟨el0, fr0, hblk, hx1, hx2⟩ := hR'
  have e0 : v0 = .slice (some ⟨L0.blk, 0, none⟩) zs.length L0.cap := by
    rcases h0.2 L0 hL with ⟨hv, _⟩ | ⟨_, _, hv⟩
    · rw [hvirt] at hv; cases hv
    · rw [hv]; simp
  have hcapl : zs.length ≤ L0.cap := by have := hok.len hvm; rw [hlenr] at this; exact this
  have hblt : L0.blk < w.heap.size := (Array.getElem?_eq_some_iff.1 hblk).1
  have hcsz : cur.size = L0.cap := by rw [hcs, hkm]; simp
  have hget : ∀ i (hi : i < zs.length), cur[i]? = some (encI zs[i]) := fun i hi => by
    have hrow := hrows i ((iRow zs[i]).map AV.d) (by simp [dr, hi])
    obtain ⟨u, hu1, hu2, hu3⟩ := hrow.2 0 (.d (.int .i64 zs[i])) (by simp)
    rw [hkm] at hu1
    simp only [RepA, RepD] at hu3
    rw [hu3] at hu1
    simpa using hu1
  have hH : Holds encI w L0.blk 0 zs.toArray := by
    intro j hj
    have hj' : j < zs.length := by simpa using hj
    have h1 := hget j hj'
    refine ⟨?_, ?_⟩
    · simp only [World.cell?, hblk, Nat.zero_add, Option.isSome_none, Bool.false_eq_true, if_false]
      rw [h1, getElem!_pos zs.toArray j hj]
      simp
    · simpa using hR.open (o := j) (by omega)
  rw [e0]
  refine (hc L0.blk L0.cap w hH hblt hcapl hcap).mono ?_
  rintro ex w' ⟨rfl, n, os, rfl⟩
  have hbs : RowAt ((grow (putRow encI (Go.Sort.ahead w n) L0.blk 0 ys.toArray) os).heap[L0.blk]?) e (Go.Sort.putCells encI 0 ys.toArray cur) := ⟨el0, fr0, heap_rowI_blk w L0.blk n ys.toArray os hblk, hx1, by simp only [Go.Sort.putCells, Array.size_mapIdx]; exact hx2⟩
  obtain ⟨g', h1, h2, h3, h4, h5, h6⟩ := HRel.write h hL hflat (id' := 0) (.inl rfl) ⟨e, 1, dr (ys.map iRow)⟩ (Go.Sort.putCells encI 0 ys.toArray cur) (w' := grow (putRow encI (Go.Sort.ahead w n) L0.blk 0 ys.toArray) os) (cap := L0.cap) (B := L0.blk) rfl ⟨rfl, .inr (drawn_rowI _ _ _ _ _)⟩ rfl (size_rowI _ _ _ _ _)
    (fun b hb hne => heap_rowI _ _ _ _ _ hb hne) (.inl rfl) hbs hkm.symm hok.pos (by simp only [Go.Sort.putCells, Array.size_mapIdx]; rw [hcs]) (by simp [dr]; omega) hcap (fun _ => ⟨rfl, rfl⟩) (by
      intro i row hi
      have hil : i < ys.length := by have := (List.getElem?_eq_some_iff.1 hi).1; simpa [dr] using this
      have hrow : row = (iRow ys[i]).map AV.d := by
        have : (dr (ys.map iRow))[i]? = some ((iRow ys[i]).map AV.d) := by simp [dr, hil]
        rw [this] at hi; exact (Option.some.inj hi).symm
      subst hrow
      refine ⟨by simp [hkm], fun j av hj => ?_⟩
      have hj0 : j = 0 := by have := (List.getElem?_eq_some_iff.1 hj).1; simp at this; omega
      subst hj0
      have hav : av = .d (.int .i64 ys[i]) := by simpa using hj.symm
      subst hav
      refine ⟨encI ys[i], ?_, rfl, by simp only [RepA, RepD]⟩
      rw [hkm]
      have hic : i < cur.size := by omega
      simp only [Go.Sort.putCells, Nat.mul_one, Nat.add_zero, Array.getElem?_mapIdx, Array.getElem?_eq_getElem hic, Option.map_some]
      rw [if_pos ⟨Nat.zero_le _, by simp; omega⟩]
      have : ys.toArray[i - 0]! = ys[i] := by rw [Nat.sub_zero, getElem!_pos ys.toArray i (by simpa using hil)]; simp
      rw [this])
  refine ⟨_, g', rfl, ?_, ?_, h5, ?_⟩
  · have : (upd1 (upd1 (objL [(0, ⟨e, 1, dr (zs.map iRow)⟩)]) 0 none) 0 (some ⟨e, 1, dr (ys.map iRow)⟩)) = objL [(0, ⟨e, 1, dr (ys.map iRow)⟩)] := by
      funext x
      simp only [upd1, objL, find]
      by_cases hx : x = 0
      · subst hx; simp
      · have hx' : ¬ (0 = x) := fun h => hx h.symm
        simp [hx, hx']
    rw [← this]; exact h4
  · exact hrep g' _ ⟨L0.blk, L0.m, L0.cap, false, false⟩ (by rw [h2]; exact .inr rfl) h1 ⟨rfl, rfl⟩ hcapl
  · intro i j hij
    simp only [List.mem_cons, List.not_mem_nil, or_false, Prod.mk.injEq] at hij
    obtain ⟨rfl, rfl⟩ := hij
    rw [h1, hL]
    cases L0; simp_all

theorem deleteE_px {P : Program} {ρ : Ren} (L : SlLaysE.n45 P ρ) (hent : Enters P (ρ.f 45)) (e : TypeId) (v23 : ∀ w, (zeroValue (ρ.t 23)).run P w = .ok (encI 0) w) (hi0 : (P.info? (ρ.t 23)).map (fun i => i.size) = some 1) (zs : List Int) (i j : Nat) (hn : 0 < zs.length) (hij : i ≤ j) (hj : j ≤ zs.length) :
    PX P (ρ.f 45) [.hs 0 0 zs.length, .d (.int .i64 i), .d (.int .i64 j)] [(0, ⟨e, 1, dr (zs.map iRow)⟩)] [(0, 0)] [(0, ⟨e, 1, dr ((zs.take i ++ zs.drop j ++ List.replicate (j - i) 0).map iRow)⟩)] (.hs 0 0 (zs.length - (j - i))) := by
  simp only [Option.map_eq_some_iff] at hi0
  obtain ⟨i0, h0, h1⟩ := hi0
  refine int_px2 hent e i j hn (by simp; omega) (fun blk cap => .slice (some ⟨blk, 0, none⟩) (zs.length - (j - i)) cap) _ (fun g w L hu hL hv hcap => ?_) fun blk cap w hH hb hcap hm => ?_
  · exact rep_hs (L := L) (w := w) hu hL hv (len := zs.length - (j - i)) (by omega)
  · have hs : zs.toArray.size = zs.length := by simp
    have := AnyE.slices_Delete L encI (fun _ => rfl) (0 : Int) v23 i0 h0 h1 blk 0 cap i j zs.toArray w hH (by simpa using hcap) (by simpa [maxLen] using hm) hij (by simpa using hj)
    rw [hs] at this
    refine this.mono ?_
    rintro ex w' ⟨h1, q, h2⟩
    exact ⟨h1, q, #[], by rw [grow_empty]; simpa using h2⟩
end Go.Abs

namespace Go.Proofs.YtdddknniooimmaaGreat
open Go.Abs Go.Shelf

def delH_ren : Go.Shelf.Ren := ⟨fun | 45 => 212 | n => n, fun | 22 => 121 | 23 => 178 | n => n, fun n => n⟩
theorem delH_lays : SlLaysE.n45 Tryz.prog delH_ren where
  mixed := by kernel_rfl
  f45 := ⟨Tryz.f212.name, by kernel_rfl, Tryz.func212.trans (congrArg some (by kernel_rfl))⟩
  t0 := Tryz.underlying0
  a0 := Tryz.isAgg0
  z0 := Tryz.sizeOf0
  v0 := Tryz.zeroValue0
  t3 := Tryz.underlying3
  a3 := Tryz.isAgg3
  z3 := Tryz.sizeOf3
  v3 := Tryz.zeroValue3
  t4 := Tryz.underlying4
  a4 := Tryz.isAgg4
  z4 := Tryz.sizeOf4
  v4 := Tryz.zeroValue4
  t22 := Tryz.underlying121
  a22 := Tryz.isAgg121
  z22 := Tryz.sizeOf121
  v22 := Tryz.zeroValue121
  a23 := Tryz.isAgg178
  z23 := Tryz.sizeOf178
theorem hdelete_px (zs : List Int) (i : Nat) (hi : i < zs.length) : PX Tryz.prog 212 [.hs 0 0 zs.length, .d (.int .i64 i), .d (.int .i64 (i + 1))] [(0, ⟨178, 1, dr (zs.map iRow)⟩)] [(0, 0)] [(0, ⟨178, 1, dr ((zs.eraseIdx i ++ [0]).map iRow)⟩)] (.hs 0 0 (zs.length - 1)) := by
  have h := deleteE_px delH_lays ⟨_, Tryz.func212, by kernel_rfl, by kernel_rfl⟩ 178 (fun w => Tryz.zeroValue178 w) (by kernel_rfl) zs i (i + 1) (by omega) (by omega) (by omega)
  rw [show i + 1 - i = 1 by omega] at h
  rw [List.eraseIdx_eq_take_drop_succ]
  exact h

abbrev cRows (A : List (Cell × List Hd)) : List (List D) := rowL (fun c : Cell => .agg c.row) encHs A
theorem eqK_corner (a b : Cell) : eqK (.agg a.row) (.agg b.row) = some (decide (a = b)) := by
  obtain ⟨x, y⟩ := a
  obtain ⟨u, v⟩ := b
  simp [eqK, eqD]
  by_cases h1 : x = u <;> by_cases h2 : y = v <;> simp [h1, h2]
theorem look_c (p : Cell) (A : List (Cell × List Hd)) : lookIs .nl false (lookA (.agg p.row) (dr (cRows A))) (encHs (headsAt A p)) = True := by
  rw [show dr (cRows A) = dr (rowL (fun c : Cell => D.agg c.row) encHs A) from rfl, lookA_row (kd := fun c : Cell => D.agg c.row) (vd := encHs) eqK_corner p A]
  unfold headsAt
  cases getL A p <;> simp [lookIs, outD, encHs]
theorem del_c (p : Cell) (A : List (Cell × List Hd)) : delR (.agg p.row) (dr (cRows A)) = some (dr (cRows (delL A p))) := delR_row (kd := fun c : Cell => D.agg c.row) (vd := encHs) eqK_corner p A
theorem put_c (p : Cell) (x : AV) (A : List (Cell × List Hd)) {j : Nat} (h : posL p A = some j) : putR (.agg p.row) x (dr (cRows A)) = some ((dr (cRows A)).set j [.d (.agg p.row), x]) := by
  unfold putR
  rw [posR_row (kd := fun c : Cell => D.agg c.row) (vd := encHs) eqK_corner p A, h]
theorem fzR_setR (id : Nat) (rs : List (List D)) (k : D) (x : AV) : ∀ (R : List (List D)) (j : Nat), fzR id rs ((dr R).set j [.d k, x]) = (dr R).set j [.d k, fz id rs x]
  | [], j => rfl
  | r :: R, 0 => by
    show fzL id rs [.d k, x] :: fzR id rs (dr R) = [.d k, fz id rs x] :: dr R
    rw [fzR_dr]; rfl
  | r :: R, j + 1 => by
    show fzL id rs (r.map AV.d) :: fzR id rs ((dr R).set j [.d k, x]) = r.map AV.d :: (dr R).set j [.d k, fz id rs x]
    rw [fzL_map, fzR_setR id rs k x R j]
theorem dr_setD (R : List (List D)) (j : Nat) (k x : D) : (dr R).set j [.d k, .d x] = dr (R.set j [k, x]) := by
  simp [dr, List.map_set]
theorem idxH_erase (h : Hd) : ∀ (l : List Hd) (i : Nat), idxH h l = i → l.eraseIdx i = l.erase h
  | [], i, _ => by simp
  | k :: l, i, hi => by
    unfold idxH at hi
    by_cases e : h = k
    · rw [if_pos e] at hi
      have : i = 0 := by omega
      subst this; subst e
      simp
    · rw [if_neg e] at hi
      split at hi
      · omega
      · have hg := idxH_ge h l
        obtain ⟨j, rfl⟩ : ∃ j, i = j + 1 := ⟨i - 1, by omega⟩
        have := idxH_erase h l j (by omega)
        simp only [List.eraseIdx_cons_succ, this]
        rw [List.erase_cons_tail (by simpa using fun e' => e e'.symm)]

set_option maxHeartbeats 4000000 in
theorem take_px (A : List (Cell × List Hd)) (c : Crk) (hc : c.h ∈ headsAt A c.p) (hl : (headsAt A c.p).length ≤ 1000) :
    PX Tryz.prog 140 [.hm 0, .d (.agg c.p.row), .d (.int .i64 c.h.int)] [(0, ⟨118, mapM, dr (cRows A)⟩)] [(0, 0)] [(0, ⟨118, mapM, dr (cRows (takeA A c))⟩)] (.d (.bool true)) := by
  have hA : takeA A c = if (headsAt A c.p).length = 1 then delL A c.p else putL A c.p ((headsAt A c.p).erase c.h) := rfl
  have c1 := index_ok (headsAt A c.p) c.h (by omega)
  have l1 := look_c c.p A
  have d1 := del_c c.p A
  have i0 := (idxH_mem c.h (headsAt A c.p)).2 hc
  have i1 := idxH_le c.h (headsAt A c.p)
  obtain ⟨i, hi⟩ : ∃ i : Nat, idxH c.h (headsAt A c.p) = i := ⟨(idxH c.h (headsAt A c.p)).toNat, by omega⟩
  have he := idxH_erase c.h _ i hi
  have hpos : ∃ j, posL c.p A = some j ∧ putL A c.p ((headsAt A c.p).erase c.h) = A.set j (c.p, (headsAt A c.p).erase c.h) := by
    have hg := posL_getL (a := c.p) A
    unfold putL
    cases hp : posL c.p A with
    | none =>
      rw [hp] at hg
      simp only at hg
      unfold headsAt at hc
      rw [hg] at hc
      simp at hc
    | some j => exact ⟨j, rfl, rfl⟩
  obtain ⟨j, hj, hput⟩ := hpos
  have p1 := fun x => put_c c.p x A hj
  rw [hi] at c1 i0 i1
  rw [hput] at hA
  rw [← he] at hA
  have c3 := hclone_ok (headsAt A c.p) (by omega)
  have c4 := fun h => hdelete_px ((headsAt A c.p).map Hd.int) i h
  rw [List.length_map, show ((headsAt A c.p).map Hd.int).map iRow = (headsAt A c.p).map hRow from by simp] at c4
  have hel : ((headsAt A c.p).eraseIdx i).length = (headsAt A c.p).length - 1 := by rw [List.length_eraseIdx, if_pos (by omega)]
  have hme : ((headsAt A c.p).map Hd.int).eraseIdx i = ((headsAt A c.p).eraseIdx i).map Hd.int := (Go.ChangeMaps.map_eraseIdx _ _ _).symm
  have hys : ((((headsAt A c.p).map Hd.int).eraseIdx i ++ [0]).map iRow).take ((headsAt A c.p).length - 1) = ((headsAt A c.p).eraseIdx i).map hRow := by
    rw [hme, List.map_append, List.take_left' (by rw [List.length_map, List.length_map, hel])]
    simp
  have hyl : ((((headsAt A c.p).map Hd.int).eraseIdx i ++ [0]).map iRow).length = (headsAt A c.p).length := by
    rw [hme, List.length_map, List.length_append, List.length_map, hel]; simp; omega
  generalize (((headsAt A c.p).map Hd.int).eraseIdx i ++ [0]).map iRow = ys at *
  obtain ⟨⟨x, y⟩, h⟩ := c
  simp only at *
  generalize headsAt A ⟨x, y⟩ = hs at *
  generalize h.int = hn at *
  rw [hA]
  refine px_of_awp cx (fn := Tryz.f140) (c := _) 1 Tryz.func140 rfl rfl (Nat.le_of_ble_eq_true rfl) rfl rfl fun Ls => ?_
  rw [Tryz.ntmps140]; refine Nav.imp ?_
  refine awp_region cx [] fun K hK => ?_
  simp [push_cast]
  repeat (refine And.intro (by clear hK; intros; first | omega | (simp_all; done) | (simp_all <;> omega)) ?_)
  refine hK _ ?_; clear hK K; refine Nav.imp ?_
  refine awp_region cx [(2, .p (encHs hs)), (4, .p (.int .i64 i))] fun K hK => ?_
  simp [push_cast, c1, l1]
  repeat (refine And.intro (by clear hK; intros; first | omega | (simp_all; done) | (simp_all <;> omega)) ?_)
  refine hK _ ?_; clear hK K; refine Nav.imp ?_
  have hb0 : decide ((i : Int) < 0) = false := by simp
  refine awp_region cx [] fun K hK => ?_
  simp [push_cast]
  repeat (refine And.intro (by clear hK; intros; first | omega | (simp_all; done) | (simp_all <;> omega)) ?_)
  refine hK _ ?_; clear hK K; refine Nav.imp ?_
  refine awp_cond (b := false) (by simp [push_cast, hb0]) (fun hb => ?_) (fun hb => ?_) <;> (refine Nav.imp ?_)
  · simp at hb
  · refine awp_region cx [(2, .p (encHs hs))] fun K hK => ?_
    simp [push_cast, l1]
    repeat (refine And.intro (by clear hK; intros; first | omega | (simp_all; done) | (simp_all <;> omega)) ?_)
    refine hK _ ?_; clear hK K; refine Nav.imp ?_
    by_cases h1 : hs.length = 1
    · rw [if_pos h1]
      refine awp_cond (b := true) (by simp [push_cast, h1]) (fun hb => ?_) (fun hb => ?_) <;> (refine Nav.imp ?_)
      · refine awp_region cx [] fun K hK => ?_
        simp [push_cast, d1]
        repeat (refine And.intro (by clear hK; intros; first | omega | (simp_all; done) | (simp_all <;> omega)) ?_)
        refine hK _ ?_; clear hK K; refine Nav.imp ?_
        refine awp_region cx [] fun K hK => ?_
        simp [push_cast]
        repeat (refine And.intro (by clear hK; intros; first | omega | (simp_all; done) | (simp_all <;> omega)) ?_)
        refine hK _ ?_; clear hK K; refine Nav.imp ?_
        first | refine rx_r [(0, 0)] ?_ | refine rx_n [(0, 0)] ?_
        simp [push_cast]
        try decide
      · simp at hb
    · rw [if_neg h1]
      have hb1 : ¬ ((hs.length : Int) = 1) := by omega
      refine awp_cond (b := false) (by simp [push_cast, hb1]) (fun hb => ?_) (fun hb => ?_) <;> (refine Nav.imp ?_)
      · simp at hb
      · have w1 := wrap_i64 (n := (i : Int) + 1) (by omega) (by omega)
        refine awp_region_draw cx mixed [(4, .p (encHs hs)), (5, .o 178 1 (hs.map hRow)), (9, .x ⟨[(0, 21)], [.hs 0 0 hs.length, .d (.int .i64 i), .d (.int .i64 (i + 1))], [(0, ⟨178, 1, dr (hs.map hRow)⟩)], [(0, 0)], none, [(0, ⟨178, 1, dr ys⟩)], .hs 0 0 (hs.length - 1)⟩)] fun K hK => ?_
        simp [push_cast, l1, c3, c4, w1, p1]
        repeat (refine And.intro (by clear hK; intros; first | omega | (simp_all; done) | (simp_all <;> omega)) ?_)
        refine hK _ _ (by kernel_rfl) ?_; clear hK K; refine Nav.imp ?_
        have hf := fzR_setR 21 ys (.agg [.int .i64 x, .int .i64 y]) (.hs 21 0 (hs.length - 1)) (cRows A) j
        have hz : fz 21 ys (.hs 21 0 (hs.length - 1)) = .d (.sl ((hs.eraseIdx i).map hRow)) := by
          simp only [fz, if_true, Nat.zero_add, List.drop_zero]
          rw [if_pos (by omega), hys]
        rw [hz, dr_setD] at hf
        refine awp_freeze 21 (ys) rfl (by simp [push_cast, hf]) fun K hK => ?_
        simp [push_cast, St.fz, fzT, fzH, fzO, fz, fzL, fzR, fzR_dr, fzR_app, fzR_set, fzL_map, hf]
        refine hK _ ?_; clear hK K; refine Nav.imp ?_
        refine awp_region cx [] fun K hK => ?_
        simp [push_cast]
        repeat (refine And.intro (by clear hK; intros; first | omega | (simp_all; done) | (simp_all <;> omega)) ?_)
        refine hK _ ?_; clear hK K; refine Nav.imp ?_
        first | refine rx_r [(0, 0)] ?_ | refine rx_n [(0, 0)] ?_
        simp [push_cast, rowL, List.map_set]
        try decide
        rw [dr_setD]
        exact rnR_dr _ _
end Go.Proofs.YtdddknniooimmaaGreat
