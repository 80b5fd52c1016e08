/-
  Texts of this seat put together: Base, R1, R2, R3, R4, R5, Q1, Q2.
-/
import Derived.Test.YtagakfaiimaifaaGreatJ3
import Derived.Test.YtagakfaiimaifaaGreatRows
set_option linter.unusedVariables false
set_option linter.unusedSimpArgs false
set_option maxRecDepth 100000
namespace Go.Proofs.YtagakfaiimaifaaGreat
open Go.Abs
def tyTab : List (Nat × TI) := [
  (2, ⟨.int .i64, 1, 8, [.d (.int .i64 0)], 0⟩),
  (3, ⟨.int .i64, 1, 8, [.d (.int .i64 0)], 0⟩),
  (4, ⟨.bool, 1, 1, [.d (.bool false)], 0⟩),
  (5, ⟨.int .u8, 1, 1, [.d (.int .u8 0)], 0⟩),
  (7, ⟨.struct [(0, 1, false), (1, 1, false), (2, 1, false), (3, 1, false)], 4, 24, [.d (.int .i64 0), .d (.int .i64 0), .d (.bool false), .d (.int .u8 0)], 0⟩),
  (9, ⟨.str, 1, 16, [.d (.str ⟨#[]⟩)], 0⟩),
  (12, ⟨.int .u64, 1, 8, [.d (.int .u64 0)], 0⟩),
  (13, ⟨.struct [(0, 1, false), (1, 1, false)], 2, 24, [.d (.str ⟨#[]⟩), .d (.int .u64 0)], 0⟩),
  (15, ⟨.one, 1, 8, [.any], 0⟩),
  (16, ⟨.one, 1, 8, [.any], 0⟩),
  (17, ⟨.one, 1, 8, [.any], 0⟩),
  (18, ⟨.struct [(0, 1, false)], 1, 8, [.any], 0⟩),
  (21, ⟨.int .i32, 1, 4, [.d (.int .i32 0)], 0⟩),
  (22, ⟨.slice 52, 1, 24, [.nl], 0⟩),
  (23, ⟨.struct [(0, 1, false)], 1, 24, [.nl], 0⟩),
  (24, ⟨.struct [(0, 1, false)], 1, 24, [.nl], 0⟩),
  (32, ⟨.slice 42, 1, 24, [.nl], 0⟩),
  (36, ⟨.int .i64, 1, 8, [.d (.int .i64 0)], 0⟩),
  (40, ⟨.slice 45, 1, 24, [.nl], 0⟩),
  (41, ⟨.struct [(0, 1, false)], 1, 24, [.nl], 0⟩),
  (42, ⟨.struct [(0, 1, false)], 1, 24, [.nl], 0⟩),
  (44, ⟨.struct [(0, 1, false), (1, 1, false)], 2, 16, [.d (.int .i64 0), .d (.int .i64 0)], 1⟩),
  (45, ⟨.struct [(0, 1, false), (1, 1, false)], 2, 16, [.d (.int .i64 0), .d (.int .i64 0)], 1⟩),
  (50, ⟨.slice 54, 1, 24, [.nl], 0⟩),
  (51, ⟨.struct [(0, 1, false), (1, 1, false)], 2, 32, [.d (.int .i64 0), .nl], 0⟩),
  (52, ⟨.struct [(0, 1, false), (1, 1, false)], 2, 32, [.d (.int .i64 0), .nl], 0⟩),
  (53, ⟨.struct [(0, 1, false), (1, 1, false)], 2, 16, [.d (.int .i64 0), .d (.int .i64 0)], 1⟩),
  (54, ⟨.struct [(0, 1, false), (1, 1, false)], 2, 16, [.d (.int .i64 0), .d (.int .i64 0)], 1⟩),
  (57, ⟨.slice 61, 1, 24, [.nl], 0⟩),
  (59, ⟨.slice 62, 1, 24, [.nl], 0⟩),
  (60, ⟨.struct [(0, 1, false), (1, 1, false), (2, 1, false)], 3, 40, [.d (.int .i64 0), .d (.bool false), .nl], 0⟩),
  (61, ⟨.struct [(0, 1, false), (1, 1, false), (2, 1, false)], 3, 40, [.d (.int .i64 0), .d (.bool false), .nl], 0⟩),
  (62, ⟨.struct [(0, 1, false), (1, 1, false)], 2, 16, [.d (.int .i64 0), .d (.int .i64 0)], 1⟩),
  (63, ⟨.map 45 67, 1, 8, [.any], 0⟩),
  (64, ⟨.map 45 67, 1, 8, [.any], 0⟩),
  (67, ⟨.slice 114, 1, 24, [.nl], 0⟩),
  (69, ⟨.slice 74, 1, 24, [.nl], 0⟩),
  (71, ⟨.slice 4, 1, 24, [.nl], 0⟩),
  (73, ⟨.struct [(0, 2, true), (2, 2, true)], 4, 32, [.d (.int .i64 0), .d (.int .i64 0), .d (.int .i64 0), .d (.int .i64 0)], 0⟩),
  (74, ⟨.struct [(0, 2, true), (2, 2, true)], 4, 32, [.d (.int .i64 0), .d (.int .i64 0), .d (.int .i64 0), .d (.int .i64 0)], 0⟩),
  (80, ⟨.one, 1, 8, [.any], 0⟩),
  (82, ⟨.slice 87, 1, 24, [.nl], 0⟩),
  (85, ⟨.slice 3, 1, 24, [.nl], 0⟩),
  (86, ⟨.struct [(0, 1, false), (1, 1, false), (2, 1, false), (3, 1, false)], 4, 32, [.d (.int .i64 0), .d (.int .i64 0), .d (.int .i64 0), .d (.int .i64 0)], 1⟩),
  (87, ⟨.struct [(0, 1, false), (1, 1, false), (2, 1, false), (3, 1, false)], 4, 32, [.d (.int .i64 0), .d (.int .i64 0), .d (.int .i64 0), .d (.int .i64 0)], 1⟩),
  (114, ⟨.int .i64, 1, 8, [.d (.int .i64 0)], 0⟩),
  (117, ⟨.int .u64, 1, 8, [.d (.int .u64 0)], 0⟩),
  (121, ⟨.arr 3 114, 3, 24, [.d (.int .i64 0), .d (.int .i64 0), .d (.int .i64 0)], 0⟩),
  (138, ⟨.map 3 50, 1, 8, [.any], 0⟩),
  (139, ⟨.struct [(0, 1, false), (1, 1, false)], 2, 16, [.any, .any], 0⟩),
  (140, ⟨.struct [(0, 1, false), (1, 1, false)], 2, 16, [.any, .any], 0⟩),
  (142, ⟨.arr 2 24, 2, 48, [.nl, .nl], 0⟩),
  (149, ⟨.int .i64, 1, 8, [.d (.int .i64 0)], 0⟩),
  (157, ⟨.int .u32, 1, 4, [.d (.int .u32 0)], 0⟩),
  (159, ⟨.int .u64, 1, 8, [.d (.int .u64 0)], 0⟩),
  (164, ⟨.one, 1, 8, [.any], 0⟩),
  (165, ⟨.struct [(0, 1, false), (1, 1, false)], 2, 32, [.nl, .d (.int .i64 0)], 0⟩),
  (166, ⟨.struct [(0, 1, false), (1, 1, false)], 2, 32, [.nl, .d (.int .i64 0)], 0⟩),
  (194, ⟨.int .u64, 1, 8, [.d (.int .u64 0)], 0⟩),
  (198, ⟨.one, 1, 8, [.any], 0⟩),
  (214, ⟨.one, 1, 8, [.any], 0⟩),
  (233, ⟨.struct [(0, 1, false), (1, 1, false), (2, 1, false), (3, 1, false)], 4, 40, [.any, .any, .any, .d (.str ⟨#[]⟩)], 0⟩),
  (240, ⟨.one, 1, 8, [.any], 0⟩),
  (241, ⟨.one, 1, 8, [.any], 0⟩),
  (244, ⟨.struct [(0, 1, false), (1, 1, false), (2, 1, false), (3, 1, false), (4, 1, false), (5, 1, false), (6, 1, false), (7, 1, false), (8, 1, false), (9, 1, false), (10, 1, false)], 11, 48, [.d (.int .u64 0), .d (.int .u64 0), .d (.int .u32 0), .d (.int .u8 0), .d (.int .u8 0), .d (.int .u8 0), .d (.int .u8 0), .any, .any, .d (.int .i32 0), .d (.int .i32 0)], 0⟩),
  (246, ⟨.one, 1, 8, [.any], 0⟩)]

attribute [push_cast] wpT wpD confs conflB ids idsL doOp eff fixU frzE eff0 effMove effPick pickA effAlloc effBox effBuild effBuildSlice effLoad effStore effBin effUn effConvert effField aggList effFieldAddr effIndexAddr effIndex effExtract effMakeFunc effMakeSlice sliceArgs effSlice effSliceArr chunkD effBuiltin lenA effCall effCallP calleeA effX effNilCheck rn rnL rnR dn dnL dnR rnsOk hpOk nodupB swp gone back pinT frT XC.ti touched keyed two odd even cond_true cond_false sf_move ss_move sf_assign ss_assign sf_pick ss_pick sf_alloc ss_alloc sf_box ss_box sf_build ss_build sf_buildSlice ss_buildSlice sf_load ss_load sf_store ss_store sf_nilCheck ss_nilCheck sf_binOp ss_binOp sf_unOp ss_unOp sf_convert ss_convert sf_makeFunc ss_makeFunc sf_makeSlice ss_makeSlice sf_slice ss_slice sf_fieldAddr ss_fieldAddr sf_field ss_field sf_indexAddr ss_indexAddr sf_index ss_index sf_extract ss_extract sf_lookup ss_lookup sf_mapUpdate ss_mapUpdate sf_makeInterface ss_makeInterface sf_makeMap ss_makeMap sf_len sb_move sb_assign sb_pick sb_alloc sb_box sb_build sb_buildSlice sb_load sb_store sb_nilCheck sb_binOp sb_unOp sb_convert sb_makeFunc sb_makeSlice sb_slice sb_fieldAddr sb_field sb_indexAddr sb_index sb_extract sb_lookup sb_mapUpdate sb_makeInterface sb_makeMap sb_call sf_append sf_delete effMakeMap effLookup mapRows effMapUpdate effDelete keyFits isInt zeroA sf_min sf_max sf_fun ss_call orcIds startX addAVs pinTm obs pinsOk rnL_map dnL_map rnR_dr dnR_dr dnR_app rnR_app wrap_0 wrap_1 wrap_2 wrap_n1 snap snaps resEff Res.free D.free D.frees D.freess snapF snapsF dstRows srcRows cellsA takeRow TI.isAgg mkAgg allD fillA putCells chunk rep eqD cav zav find pushL St.get St.obj St.put St.app St.eval St.guard strip optOb stripOk sg_move so_move sg_assign so_assign sg_alloc so_alloc sg_box so_box sg_build so_build sg_buildSlice so_buildSlice sg_load so_load sg_store so_store sg_nilCheck so_nilCheck sg_binOp so_binOp sg_unOp so_unOp sg_convert so_convert sg_makeFunc so_makeFunc sg_makeSlice so_makeSlice sg_slice so_slice sg_fieldAddr so_fieldAddr sg_field so_field sg_indexAddr so_indexAddr sg_index so_index sg_extract so_extract sg_call so_call sg_lookup so_lookup sg_mapUpdate so_mapUpdate sg_makeInterface so_makeInterface sg_makeMap so_makeMap sg_pick so_pick isNil notA allD_map allS allS_map mkAgg_map upR_dr rowsD_dr dr_length dr_nil dr_cons dr_append dr_at dr_take dr_drop dr_set upR_app upR_set rowsD_app rowsD take_map_len Op.operands Call.operands Abs.start addParams nbf seqQ blockQ retQ resAs oneOf resOk tyTab

theorem cx : Ctx Tryz.prog (find tyTab) := ctx_of_table tyTab (by kernel_rfl)
theorem mixed : Tryz.prog.follows .mixedOrders = true := by kernel_rfl

structure Cell where
  x : Int
  y : Int
  deriving DecidableEq

abbrev Cell.row (c : Cell) : List D := [.int .i64 c.x, .int .i64 c.y]
abbrev encCells (l : List Cell) : D := .sl (l.map Cell.row)

structure Track where
  role : Int
  closed : Bool
  cells : List Cell
  deriving DecidableEq

abbrev Track.row (t : Track) : List D := [.int .i64 t.role, .bool t.closed, encCells t.cells]
abbrev encTracks (l : List Track) : D := .sl (l.map Track.row)
theorem Cell.row_len (o : Cell) : o.row.length = 2 := rfl
theorem Track.row_len (o : Track) : o.row.length = 3 := rfl

structure Run where
  a : Int
  b : Int
  deriving DecidableEq
abbrev Run.row (r : Run) : List D := [.int .i64 r.a, .int .i64 r.b]
abbrev encRuns (l : List Run) : D := .sl (l.map Run.row)
theorem Run.row_len (o : Run) : o.row.length = 2 := rfl

structure Row where
  y : Int
  runs : List Run
  deriving DecidableEq
abbrev Row.row (r : Row) : List D := [.int .i64 r.y, encRuns r.runs]
abbrev encRows (l : List Row) : D := .sl (l.map Row.row)
theorem Row.row_len (o : Row) : o.row.length = 2 := rfl

/-- A region: its rows. -/
abbrev regRow (l : List Row) : List D := [encRows l]

def onG (c : Cell) : Bool := decide (-4096 ≤ c.x) && decide (c.x < 4096) && decide (-4096 ≤ c.y) && decide (c.y < 4096)
theorem onG_bd {c : Cell} (h : onG c = true) : -4096 ≤ c.x ∧ c.x < 4096 ∧ -4096 ≤ c.y ∧ c.y < 4096 := by
  simp [onG] at h; omega

theorem all_range_succ {f : Nat → Bool} {k : Nat} : (List.range (k + 1)).all f = ((List.range k).all f && f k) := by
  simp [List.range_succ]

theorem all_range_false {f : Nat → Bool} {k n : Nat} (hk : k < n) (h : f k = false) : (List.range n).all f = false := by
  rw [Bool.eq_false_iff]
  intro ha
  have := List.all_eq_true.1 ha k (by simpa using hk)
  rw [h] at this
  cases this
theorem all_range_at {f : Nat → Bool} {k n : Nat} (h : (List.range n).all f = true) (hk : k < n) : f k = true :=
  List.all_eq_true.1 h k (by simpa using hk)

theorem take_eq_step {α : Type} {l r : List α} {k : Nat} {x y : α} (h : l.take k = r.take k) (hx : l[k]? = some x) (hy : r[k]? = some y) (e : x = y) : l.take (k + 1) = r.take (k + 1) := by
  rw [List.take_add_one, List.take_add_one, h, hx, hy, e]

theorem getq {α : Type} {l : List α} {k : Nat} (h : k < l.length) : ∃ x, l[k]? = some x := ⟨l[k], List.getElem?_eq_getElem h⟩

theorem drop_get {α : Type} {l : List α} {k : Nat} {x : α} (h : l[k]? = some x) : l.drop k = x :: l.drop (k + 1) := by
  have hlt := (List.getElem?_eq_some_iff.1 h).1
  rw [List.drop_eq_getElem_cons hlt]
  have := List.getElem?_eq_getElem hlt
  rw [h] at this
  cases this; rfl
theorem take_get {α : Type} {l : List α} {k : Nat} {x : α} (h : l[k]? = some x) : l.take (k + 1) = l.take k ++ [x] := by
  rw [List.take_add_one, h]; rfl
end Go.Proofs.YtagakfaiimaifaaGreat

set_option linter.unusedVariables false
set_option linter.unusedSimpArgs false
set_option maxRecDepth 100000
namespace Go.Proofs.YtagakfaiimaifaaGreat
open Go.Abs

/-! Validity of runs and regions. -/
def okB (x : Int) : Bool := decide (-4096 ≤ x) && decide (x < 4096)
def fitsB (r : Run) : Bool := decide (-1048576 ≤ r.a) && decide (r.a ≤ 1048576) && decide (-1048576 ≤ r.b) && decide (r.b ≤ 1048576)
/-- Run i of a list is in order: the package's test. -/
def rvAt (l : List Run) (i : Nat) : Bool := match l[i]?, l[i - 1]? with
  | some r, some p => decide (r.a < r.b) && fitsB r && (i == 0 || decide (p.b < r.a))
  | _, _ => false
def rvalid (l : List Run) : Bool := (List.range l.length).all (rvAt l)
/-- Run i of a row is in order: the reference's test. -/
def fnAt (l : List Run) (i : Nat) : Bool := match l[i]?, l[i - 1]? with
  | some r, some p => decide (-4096 ≤ r.a) && decide (r.a < r.b) && decide (r.b ≤ 4096) && (i == 0 || decide (p.b < r.a))
  | _, _ => false
def fine (l : List Run) : Bool := (List.range l.length).all (fnAt l) && decide (0 < l.length)
def rowAt (l : List Row) (i : Nat) : Bool := match l[i]?, l[i - 1]? with
  | some r, some p => okB r.y && (i == 0 || decide (p.y < r.y)) && fine r.runs
  | _, _ => false
def validR (l : List Row) : Bool := (List.range l.length).all (rowAt l)

theorem rvAt_some {l : List Run} {i : Nat} {r p : Run} (h : l[i]? = some r) (hp : l[i - 1]? = some p) : rvAt l i = (decide (r.a < r.b) && fitsB r && (i == 0 || decide (p.b < r.a))) := by simp only [rvAt, h, hp]
theorem fnAt_some {l : List Run} {i : Nat} {r p : Run} (h : l[i]? = some r) (hp : l[i - 1]? = some p) : fnAt l i = (decide (-4096 ≤ r.a) && decide (r.a < r.b) && decide (r.b ≤ 4096) && (i == 0 || decide (p.b < r.a))) := by simp only [fnAt, h, hp]
theorem rowAt_some {l : List Row} {i : Nat} {r p : Row} (h : l[i]? = some r) (hp : l[i - 1]? = some p) : rowAt l i = (okB r.y && (i == 0 || decide (p.y < r.y)) && fine r.runs) := by simp only [rowAt, h, hp]

theorem fitsB_bd {r : Run} (h : fitsB r = true) : -1048576 ≤ r.a ∧ r.a ≤ 1048576 ∧ -1048576 ≤ r.b ∧ r.b ≤ 1048576 := by
  simp [fitsB] at h; omega

/-- A valid list of runs: each is, and the bounds ascend. -/
theorem rvalid_asc {l : List Run} (h : rvalid l = true) : ∀ (j i : Nat) (r p : Run), i ≤ j → l[i]? = some p → l[j]? = some r → p.a ≤ r.a ∧ p.b ≤ r.b
  | 0, i, r, p, hij, hp, hr => by
    have : i = 0 := by omega
    subst this
    rw [hp] at hr; cases hr; exact ⟨Int.le_refl _, Int.le_refl _⟩
  | j + 1, i, r, p, hij, hp, hr => by
    by_cases e : i = j + 1
    · subst e; rw [hp] at hr; cases hr; exact ⟨Int.le_refl _, Int.le_refl _⟩
    · have hj := (List.getElem?_eq_some_iff.1 hr).1
      obtain ⟨q, hq⟩ : ∃ q, l[j]? = some q := getq (by omega)
      have ih := rvalid_asc h j i q p (by omega) hp hq
      have h1 := all_range_at h hj
      have h2 := all_range_at h (show j < l.length by omega)
      obtain ⟨q', hq'⟩ : ∃ q, l[j - 1]? = some q := getq (by omega)
      rw [rvAt_some hr (by simpa using hq)] at h1
      rw [rvAt_some hq hq'] at h2
      simp at h1 h2
      omega
theorem rvalid_at {l : List Run} (h : rvalid l = true) {i : Nat} {r : Run} (hr : l[i]? = some r) : r.a < r.b ∧ fitsB r = true := by
  have hi := (List.getElem?_eq_some_iff.1 hr).1
  obtain ⟨p, hp⟩ : ∃ q, l[i - 1]? = some q := getq (by omega)
  have h1 := all_range_at h hi
  rw [rvAt_some hr hp] at h1
  simp at h1
  exact ⟨h1.1.1, h1.1.2⟩

theorem fine_rv {l : List Run} (h : fine l = true) : rvalid l = true := by
  simp only [fine, Bool.and_eq_true] at h
  apply List.all_eq_true.2
  intro i hi
  have hi : i < l.length := by simpa using hi
  obtain ⟨r, hr⟩ := getq hi
  obtain ⟨p, hp⟩ : ∃ q, l[i - 1]? = some q := getq (by omega)
  have h1 := all_range_at h.1 hi
  rw [fnAt_some hr hp] at h1
  rw [rvAt_some hr hp]
  simp [fitsB] at h1 ⊢
  refine ⟨⟨by omega, by omega⟩, h1.2⟩

/-- The package's test of a row's runs is the reference's. -/
theorem fine_iff {l : List Run} {f z : Run} (hf : l[0]? = some f) (hz : l[l.length - 1]? = some z) : fine l = (rvalid l && okB f.a && okB (z.b - 1)) := by
  have hl := (List.getElem?_eq_some_iff.1 hf).1
  apply Bool.eq_iff_iff.2
  constructor
  · intro h
    have h0 := fine_rv h
    simp only [fine, Bool.and_eq_true] at h
    have h1 := all_range_at h.1 hl
    have h2 := all_range_at h.1 (show l.length - 1 < l.length by omega)
    obtain ⟨p, hp⟩ : ∃ q, l[l.length - 1 - 1]? = some q := getq (by omega)
    rw [fnAt_some hf (by simpa using hf)] at h1
    rw [fnAt_some hz hp] at h2
    simp [okB] at h1 h2 ⊢
    exact ⟨⟨h0, by omega⟩, by omega⟩
  · intro h
    simp only [Bool.and_eq_true] at h
    obtain ⟨⟨h0, h1⟩, h2⟩ := h
    simp [okB] at h1 h2
    simp only [fine, Bool.and_eq_true]
    refine ⟨List.all_eq_true.2 fun i hi => ?_, by simpa using hl⟩
    have hi : i < l.length := by simpa using hi
    obtain ⟨r, hr⟩ := getq hi
    obtain ⟨p, hp⟩ : ∃ q, l[i - 1]? = some q := getq (by omega)
    have a1 := rvalid_asc h0 i 0 r f (Nat.zero_le _) hf hr
    have a2 := rvalid_asc h0 (l.length - 1) i z r (by omega) hr hz
    have a3 := rvalid_at h0 hr
    have a4 := all_range_at h0 hi
    rw [rvAt_some hr hp] at a4
    rw [fnAt_some hr hp]
    simp at a4 ⊢
    exact ⟨⟨⟨by omega, a3.1⟩, by omega⟩, a4.2⟩

theorem ok_ok (x : Int) : PC Tryz.prog 61 [.int .i64 x] (.p (.bool (okB x))) := by
  refine pc_of_awp cx (fn := Tryz.f61) (c := _) Tryz.func61 rfl rfl (Nat.le_of_ble_eq_true rfl) ?_
  rw [Tryz.ntmps61]; refine Nav.imp ?_
  refine awp_region cx [] fun K hK => ?_
  simp [push_cast]
  repeat (refine And.intro (by clear hK; intros; first | omega | (simp_all; done) | (simp_all <;> omega)) ?_)
  refine hK _ ?_; clear hK K; refine Nav.imp ?_
  refine awp_region cx [] fun K hK => ?_
  simp [push_cast]
  repeat (refine And.intro (by clear hK; intros; first | omega | (simp_all; done) | (simp_all <;> omega)) ?_)
  refine hK _ ?_; clear hK K; refine Nav.imp ?_
  simp [push_cast, okB]

theorem fits_ok (r : Run) : PC Tryz.prog 114 [.agg r.row] (.p (.bool (fitsB r))) := by
  refine pc_of_awp cx (fn := Tryz.f114) (c := _) Tryz.func114 rfl rfl (Nat.le_of_ble_eq_true rfl) ?_
  rw [Tryz.ntmps114]; refine Nav.imp ?_
  refine awp_region cx [] fun K hK => ?_
  simp [push_cast]
  repeat (refine And.intro (by clear hK; intros; first | omega | (simp_all; done) | (simp_all <;> omega)) ?_)
  refine hK _ ?_; clear hK K; refine Nav.imp ?_
  refine awp_region cx [] fun K hK => ?_
  simp [push_cast]
  repeat (refine And.intro (by clear hK; intros; first | omega | (simp_all; done) | (simp_all <;> omega)) ?_)
  refine hK _ ?_; clear hK K; refine Nav.imp ?_
  simp [push_cast, fitsB, Bool.and_assoc]

theorem rvalid_big (l : List Run) (hl : l.length ≤ 9223372036854775807) : PC Tryz.prog 75 [encRuns l] (.p (.bool (rvalid l))) := by
  refine pc_of_awp cx (fn := Tryz.f75) (c := _) Tryz.func75 rfl rfl (Nat.le_of_ble_eq_true rfl) ?_
  rw [Tryz.ntmps75]; refine Nav.imp ?_
  refine awp_region cx [] fun K hK => ?_
  simp [push_cast]
  repeat (refine And.intro (by clear hK; intros; first | omega | (simp_all; done) | (simp_all <;> omega)) ?_)
  refine hK _ ?_; clear hK K; refine Nav.imp ?_
  refine awp_region cx [] fun K hK => ?_
  simp [push_cast]
  repeat (refine And.intro (by clear hK; intros; first | omega | (simp_all; done) | (simp_all <;> omega)) ?_)
  refine hK _ ?_; clear hK K; refine Nav.imp ?_
  refine awp_loop (β := Nat) (fun k => ⟨38, [(0, .d (encRuns l)), (5, .d (encRuns l)), (6, .d (.int .i64 l.length)), (7, .d (.int .i64 k))], [], 1⟩) (fun k => k ≤ l.length ∧ (List.range k).all (rvAt l) = true) (fun k => l.length - k) 0 ?_ ⟨Nat.zero_le _, rfl⟩ ?_
  · refine weak_of [] rfl (by simp [upT, up, upL, push_cast]) (by simp [upH, upR, upL, up, push_cast]) (by simp [namesOk, push_cast]) (by simp [olds])
  · intro k ⟨hk, hall⟩
    refine Nav.imp ?_
    refine awp_region cx [] fun K hK => ?_
    simp [push_cast]
    repeat (refine And.intro (by clear hK; intros; first | omega | (simp_all; done) | (simp_all <;> omega)) ?_)
    refine hK _ ?_; clear hK K; refine Nav.imp ?_
    refine awp_cond (b := decide ((k : Int) < l.length)) (by simp [push_cast]) (fun hb => ?_) (fun hb => ?_) <;> (refine Nav.imp ?_)
    · have hlt : k < l.length := by simpa using hb
      obtain ⟨r, hr⟩ := getq hlt
      obtain ⟨p, hp⟩ : ∃ p, l[k - 1]? = some p := getq (by omega)
      have e0 := wrap_i64 (n := (k : Int) + 1) (by omega) (by omega)
      have hat := rvAt_some hr hp
      have c1 := fits_ok r
      obtain ⟨ra, rb⟩ := r
      refine awp_region cx [] fun K hK => ?_
      simp [push_cast, hr, Run.row]
      repeat (refine And.intro (by clear hK; intros; first | omega | (simp_all; done) | (simp_all <;> omega)) ?_)
      refine hK _ ?_; clear hK K; refine Nav.imp ?_
      by_cases h1 : ra < rb
      · have h1' : ¬ (rb ≤ ra) := by omega
        generalize hv : fitsB ⟨ra, rb⟩ = v at c1
        rw [hv] at hat
        cases v with
        | true =>
          by_cases hk0 : k = 0
          · subst hk0
            refine awp_region_draw cx mixed [(7, .p (.bool true))] fun K hK => ?_
            simp [push_cast, h1', c1, hr, Run.row]
            repeat (refine And.intro (by clear hK; intros; first | omega | (simp_all; done) | (simp_all <;> omega)) ?_)
            refine hK _ _ (by kernel_rfl) ?_; clear hK K; refine Nav.imp ?_
            refine awp_cond (b := false) (by simp [push_cast]) (fun hb => ?_) (fun hb => ?_) <;> (refine Nav.imp ?_)
            · simp at hb
            · refine awp_region cx [] fun K hK => ?_
              simp [push_cast, e0]
              repeat (refine And.intro (by clear hK; intros; first | omega | (simp_all; done) | (simp_all <;> omega)) ?_)
              refine hK _ ?_; clear hK K; refine Nav.imp ?_
              refine ⟨1, ⟨hlt, by rw [all_range_succ, hall, hat]; simp [h1]⟩, by omega, ?_⟩
              refine weak_of [] rfl (by simp [upT, up, upL, push_cast]) (by simp [upH, upR, upL, up, push_cast]) (by simp [namesOk, push_cast]) (by simp [olds])
          · have e1 := wrap_i64 (n := (k : Int) - 1) (by omega) (by omega)
            have e2 : ((k : Int) - 1).toNat = k - 1 := by omega
            have hk1 : (0 : Int) < k := by omega
            have hk2 : (0 : Int) ≤ k - 1 := by omega
            have hk3 : 0 < k := by omega
            obtain ⟨pa, pb⟩ := p
            refine awp_region_draw cx mixed [(7, .p (.bool true))] fun K hK => ?_
            simp [push_cast, h1', c1, hk1, hk3, hk2, e1, e2, hp, Run.row]
            repeat (refine And.intro (by clear hK; intros; first | omega | (simp_all; done) | (simp_all <;> omega)) ?_)
            refine hK _ _ (by kernel_rfl) ?_; clear hK K; refine Nav.imp ?_
            refine awp_cond (b := decide (ra ≤ pb)) (by simp [push_cast, hk3]) (fun hb => ?_) (fun hb => ?_) <;> (refine Nav.imp ?_)
            · have h3 : ¬ pb < ra := by simpa using hb
              refine awp_region cx [] fun K hK => ?_
              simp [push_cast]
              repeat (refine And.intro (by clear hK; intros; first | omega | (simp_all; done) | (simp_all <;> omega)) ?_)
              refine hK _ ?_; clear hK K; refine Nav.imp ?_
              simp [push_cast]
              refine all_range_false hlt ?_
              rw [hat]; simp [h1, hk0, h3]
            · have h3 : pb < ra := by simpa using hb
              refine awp_region cx [] fun K hK => ?_
              simp [push_cast, e0]
              repeat (refine And.intro (by clear hK; intros; first | omega | (simp_all; done) | (simp_all <;> omega)) ?_)
              refine hK _ ?_; clear hK K; refine Nav.imp ?_
              refine ⟨k + 1, ⟨hlt, by rw [all_range_succ, hall, hat]; simp [h1, h3]⟩, by omega, ?_⟩
              refine weak_of [] rfl (by simp [upT, up, upL, push_cast]) (by simp [upH, upR, upL, up, push_cast]) (by simp [namesOk, push_cast]) (by simp [olds])
        | false =>
          by_cases hk0 : k = 0
          · subst hk0
            refine awp_region_draw cx mixed [(7, .p (.bool false))] fun K hK => ?_
            simp [push_cast, h1', c1, hr, Run.row]
            repeat (refine And.intro (by clear hK; intros; first | omega | (simp_all; done) | (simp_all <;> omega)) ?_)
            refine hK _ _ (by kernel_rfl) ?_; clear hK K; refine Nav.imp ?_
            refine awp_cond (b := true) (by simp [push_cast]) (fun hb => ?_) (fun hb => ?_) <;> (refine Nav.imp ?_)
            · refine awp_region cx [] fun K hK => ?_
              simp [push_cast]
              repeat (refine And.intro (by clear hK; intros; first | omega | (simp_all; done) | (simp_all <;> omega)) ?_)
              refine hK _ ?_; clear hK K; refine Nav.imp ?_
              simp [push_cast]
              refine all_range_false hlt ?_
              rw [hat]; simp
            · simp at hb
          · have e1 := wrap_i64 (n := (k : Int) - 1) (by omega) (by omega)
            have e2 : ((k : Int) - 1).toNat = k - 1 := by omega
            obtain ⟨pa, pb⟩ := p
            refine awp_region_draw cx mixed [(7, .p (.bool false))] fun K hK => ?_
            simp [push_cast, h1', c1, e1, e2, hp, Run.row]
            repeat (refine And.intro (by clear hK; intros; first | omega | (simp_all; done) | (simp_all <;> omega)) ?_)
            refine hK _ _ (by kernel_rfl) ?_; clear hK K; refine Nav.imp ?_
            refine awp_cond (b := true) (by simp [push_cast]) (fun hb => ?_) (fun hb => ?_) <;> (refine Nav.imp ?_)
            · refine awp_region cx [] fun K hK => ?_
              simp [push_cast]
              repeat (refine And.intro (by clear hK; intros; first | omega | (simp_all; done) | (simp_all <;> omega)) ?_)
              refine hK _ ?_; clear hK K; refine Nav.imp ?_
              simp [push_cast]
              refine all_range_false hlt ?_
              rw [hat]; simp
            · simp at hb
      · have h1' : rb ≤ ra := by omega
        have e1 := wrap_i64 (n := (k : Int) - 1) (by omega) (by omega)
        by_cases hk0 : k = 0
        · subst hk0
          refine awp_region_draw cx mixed [(7, .skip)] fun K hK => ?_
          simp [push_cast, h1', hr, Run.row]
          repeat (refine And.intro (by clear hK; intros; first | omega | (simp_all; done) | (simp_all <;> omega)) ?_)
          refine hK _ _ (by kernel_rfl) ?_; clear hK K; refine Nav.imp ?_
          refine awp_cond (b := true) (by simp [push_cast]) (fun hb => ?_) (fun hb => ?_) <;> (refine Nav.imp ?_)
          · refine awp_region cx [] fun K hK => ?_
            simp [push_cast]
            repeat (refine And.intro (by clear hK; intros; first | omega | (simp_all; done) | (simp_all <;> omega)) ?_)
            refine hK _ ?_; clear hK K; refine Nav.imp ?_
            simp [push_cast]
            refine all_range_false hlt ?_
            rw [hat]; simp [h1]
          · simp at hb
        · have e2 : ((k : Int) - 1).toNat = k - 1 := by omega
          obtain ⟨pa, pb⟩ := p
          refine awp_region_draw cx mixed [(7, .skip)] fun K hK => ?_
          simp [push_cast, h1', e1, e2, hp, Run.row]
          repeat (refine And.intro (by clear hK; intros; first | omega | (simp_all; done) | (simp_all <;> omega)) ?_)
          refine hK _ _ (by kernel_rfl) ?_; clear hK K; refine Nav.imp ?_
          refine awp_cond (b := true) (by simp [push_cast]) (fun hb => ?_) (fun hb => ?_) <;> (refine Nav.imp ?_)
          · refine awp_region cx [] fun K hK => ?_
            simp [push_cast]
            repeat (refine And.intro (by clear hK; intros; first | omega | (simp_all; done) | (simp_all <;> omega)) ?_)
            refine hK _ ?_; clear hK K; refine Nav.imp ?_
            simp [push_cast]
            refine all_range_false hlt ?_
            rw [hat]; simp [h1]
          · simp at hb
    · have hge : k = l.length := by simp at hb; omega
      subst hge
      refine awp_region cx [] fun K hK => ?_
      simp [push_cast]
      repeat (refine And.intro (by clear hK; intros; first | omega | (simp_all; done) | (simp_all <;> omega)) ?_)
      refine hK _ ?_; clear hK K; refine Nav.imp ?_
      simp [push_cast]
      exact hall
theorem rvalid_ok (l : List Run) (hl : l.length ≤ 1000000) : PC Tryz.prog 75 [encRuns l] (.p (.bool (rvalid l))) := rvalid_big l (by omega)
end Go.Proofs.YtagakfaiimaifaaGreat

set_option linter.unusedVariables false
set_option linter.unusedSimpArgs false
set_option maxRecDepth 100000
namespace Go.Proofs.YtagakfaiimaifaaGreat
open Go.Abs

set_option maxRecDepth 100000 in
theorem fine_big (l : List Run) (hl : l.length ≤ 9223372036854775807) : PC Tryz.prog 57 [encRuns l] (.p (.bool (fine l))) := by
  refine pc_of_awp cx (fn := Tryz.f57) (c := _) Tryz.func57 rfl rfl (Nat.le_of_ble_eq_true rfl) ?_
  rw [Tryz.ntmps57]; refine Nav.imp ?_
  refine awp_region cx [] fun K hK => ?_
  simp [push_cast]
  repeat (refine And.intro (by clear hK; intros; first | omega | (simp_all; done) | (simp_all <;> omega)) ?_)
  refine hK _ ?_; clear hK K; refine Nav.imp ?_
  refine awp_region cx [] fun K hK => ?_
  simp [push_cast]
  repeat (refine And.intro (by clear hK; intros; first | omega | (simp_all; done) | (simp_all <;> omega)) ?_)
  refine hK _ ?_; clear hK K; refine Nav.imp ?_
  refine awp_loop (β := Nat) (fun k => ⟨58, [(0, .d (encRuns l)), (3, .d (.int .i64 k))], [], 1⟩) (fun k => k ≤ l.length ∧ (List.range k).all (fnAt l) = true) (fun k => l.length - k) 0 ?_ ⟨Nat.zero_le _, rfl⟩ ?_
  · refine weak_of [] rfl (by simp [upT, up, upL, push_cast]) (by simp [upH, upR, upL, up, push_cast]) (by simp [namesOk, push_cast]) (by simp [olds])
  · intro k ⟨hk, hall⟩
    refine Nav.imp ?_
    refine awp_region cx [] fun K hK => ?_
    simp [push_cast]
    repeat (refine And.intro (by clear hK; intros; first | omega | (simp_all; done) | (simp_all <;> omega)) ?_)
    refine hK _ ?_; clear hK K; refine Nav.imp ?_
    refine awp_cond (b := decide ((k : Int) < l.length)) (by simp [push_cast]) (fun hb => ?_) (fun hb => ?_) <;> (refine Nav.imp ?_)
    · have hlt : k < l.length := by simpa using hb
      obtain ⟨r, hr⟩ := getq hlt
      obtain ⟨p, hp⟩ : ∃ p, l[k - 1]? = some p := getq (by omega)
      have e0 := wrap_i64 (n := (k : Int) + 1) (by omega) (by omega)
      have hat := fnAt_some hr hp
      obtain ⟨ra, rb⟩ := r
      by_cases hk0 : k = 0
      · subst hk0
        refine awp_region_draw cx mixed [] fun K hK => ?_
        simp [push_cast, hr, Run.row]
        repeat (refine And.intro (by clear hK; intros; first | omega | (simp_all; done) | (simp_all <;> omega)) ?_)
        refine hK _ _ (by kernel_rfl) ?_; clear hK K; refine Nav.imp ?_
        refine awp_cond (by simp [push_cast] <;> exact rfl) (fun hb => ?_) (fun hb => ?_) <;> (refine Nav.imp ?_)
        · simp at hb
          refine awp_region cx [] fun K hK => ?_
          simp [push_cast]
          repeat (refine And.intro (by clear hK; intros; first | omega | (simp_all; done) | (simp_all <;> omega)) ?_)
          refine hK _ ?_; clear hK K; refine Nav.imp ?_
          simp [push_cast]
          simp only [fine, Bool.and_eq_false_iff]
          refine .inl (all_range_false hlt ?_)
          rw [hat]; simp; omega
        · simp at hb
          refine awp_region cx [] fun K hK => ?_
          simp [push_cast, e0]
          repeat (refine And.intro (by clear hK; intros; first | omega | (simp_all; done) | (simp_all <;> omega)) ?_)
          refine hK _ ?_; clear hK K; refine Nav.imp ?_
          refine ⟨1, ⟨hlt, by rw [all_range_succ, hall, hat]; simp; omega⟩, by omega, ?_⟩
          refine weak_of [] rfl (by simp [upT, up, upL, push_cast]) (by simp [upH, upR, upL, up, push_cast]) (by simp [namesOk, push_cast]) (by simp [olds])
      · have e1 := wrap_i64 (n := (k : Int) - 1) (by omega) (by omega)
        have e2 : ((k : Int) - 1).toNat = k - 1 := by omega
        have hk1 : (0 : Int) < k := by omega
        have hk2 : (0 : Int) ≤ k - 1 := by omega
        have hk3 : 0 < k := by omega
        obtain ⟨pa, pb⟩ := p
        refine awp_region_draw cx mixed [] fun K hK => ?_
        simp [push_cast, hr, hp, Run.row, e1, e2, hk1, hk2, hk3]
        repeat (refine And.intro (by clear hK; intros; first | omega | (simp_all; done) | (simp_all <;> omega)) ?_)
        refine hK _ _ (by kernel_rfl) ?_; clear hK K; refine Nav.imp ?_
        refine awp_cond (by simp [push_cast] <;> exact rfl) (fun hb => ?_) (fun hb => ?_) <;> (refine Nav.imp ?_)
        · simp [hk3] at hb
          refine awp_region cx [] fun K hK => ?_
          simp [push_cast]
          repeat (refine And.intro (by clear hK; intros; first | omega | (simp_all; done) | (simp_all <;> omega)) ?_)
          refine hK _ ?_; clear hK K; refine Nav.imp ?_
          simp [push_cast]
          simp only [fine, Bool.and_eq_false_iff]
          refine .inl (all_range_false hlt ?_)
          rw [hat]; simp [hk0]; omega
        · simp [hk3] at hb
          refine awp_region cx [] fun K hK => ?_
          simp [push_cast, e0]
          repeat (refine And.intro (by clear hK; intros; first | omega | (simp_all; done) | (simp_all <;> omega)) ?_)
          refine hK _ ?_; clear hK K; refine Nav.imp ?_
          refine ⟨k + 1, ⟨hlt, by rw [all_range_succ, hall, hat]; simp [hk0]; omega⟩, by omega, ?_⟩
          refine weak_of [] rfl (by simp [upT, up, upL, push_cast]) (by simp [upH, upR, upL, up, push_cast]) (by simp [namesOk, push_cast]) (by simp [olds])
    · have hge : k = l.length := by simp at hb; omega
      subst hge
      refine awp_region cx [] fun K hK => ?_
      simp [push_cast]
      repeat (refine And.intro (by clear hK; intros; first | omega | (simp_all; done) | (simp_all <;> omega)) ?_)
      refine hK _ ?_; clear hK K; refine Nav.imp ?_
      simp [push_cast, fine, hall]

def smallR (R : List Row) : Prop := R.length ≤ 1000000 ∧ ∀ w ∈ R, w.runs.length ≤ 1000000
/-- Whatever a machine may hand over. -/
def bigR (R : List Row) : Prop := R.length ≤ 9223372036854775807 ∧ ∀ w ∈ R, w.runs.length ≤ 9223372036854775807
theorem big_of {R : List Row} (h : smallR R) : bigR R := ⟨by have := h.1; omega, fun w hw => by have := h.2 w hw; omega⟩

theorem validR_big (R : List Row) (hR : bigR R) : PC Tryz.prog 24 [.agg (regRow R)] (.p (.bool (validR R))) := by
  have hl := hR.1
  refine pc_of_awp cx (fn := Tryz.f24) (c := _) Tryz.func24 rfl rfl (Nat.le_of_ble_eq_true rfl) ?_
  rw [Tryz.ntmps24]; refine Nav.imp ?_
  refine awp_region cx [] fun K hK => ?_
  simp [push_cast]
  repeat (refine And.intro (by clear hK; intros; first | omega | (simp_all; done) | (simp_all <;> omega)) ?_)
  refine hK _ ?_; clear hK K; refine Nav.imp ?_
  refine awp_region cx [] fun K hK => ?_
  simp [push_cast]
  repeat (refine And.intro (by clear hK; intros; first | omega | (simp_all; done) | (simp_all <;> omega)) ?_)
  refine hK _ ?_; clear hK K; refine Nav.imp ?_
  refine awp_loop (β := Nat) (fun k => ⟨49, [(1, .ptr 0 0 0), (3, .d (.int .i64 k))], [(0, some ⟨24, 1, [(regRow R).map .d]⟩)], 1⟩) (fun k => k ≤ R.length ∧ (List.range k).all (rowAt R) = true) (fun k => R.length - k) 0 ?_ ⟨Nat.zero_le _, rfl⟩ ?_
  · refine weak_of [(0, some 0)] rfl (by simp [upT, up, upL, push_cast]) (by simp [upH, upR, upL, up, push_cast]) (by simp [namesOk, push_cast]) (by simp [olds])
  · intro k ⟨hk, hall⟩
    refine Nav.imp ?_
    refine awp_region cx [] fun K hK => ?_
    simp [push_cast]
    repeat (refine And.intro (by clear hK; intros; first | omega | (simp_all; done) | (simp_all <;> omega)) ?_)
    refine hK _ ?_; clear hK K; refine Nav.imp ?_
    refine awp_cond (b := decide ((k : Int) < R.length)) (by simp [push_cast]) (fun hb => ?_) (fun hb => ?_) <;> (refine Nav.imp ?_)
    · have hlt : k < R.length := by simpa using hb
      obtain ⟨r, hr⟩ := getq hlt
      obtain ⟨p, hp⟩ : ∃ p, R[k - 1]? = some p := getq (by omega)
      have e0 := wrap_i64 (n := (k : Int) + 1) (by omega) (by omega)
      have hat := rowAt_some hr hp
      have c1 := fine_big r.runs (hR.2 r (List.mem_of_getElem? hr))
      obtain ⟨y, ru⟩ := r
      simp only at c1 hat
      generalize hv : fine ru = v at c1
      rw [hv] at hat
      refine awp_region cx [] fun K hK => ?_
      simp [push_cast, hr, Row.row]
      repeat (refine And.intro (by clear hK; intros; first | omega | (simp_all; done) | (simp_all <;> omega)) ?_)
      refine hK _ ?_; clear hK K; refine Nav.imp ?_
      by_cases h1 : okB y = true
      · simp [okB] at h1
        have h1a : ¬ y < -4096 := by omega
        have h1b : ¬ (4096 ≤ y) := by omega
        have h1c : okB y = true := by simp [okB]; omega
        by_cases hk0 : k = 0
        · subst hk0
          refine awp_region cx [(28, .p (.bool v))] fun K hK => ?_
          simp [push_cast, h1a, h1b, hr, Row.row, c1]
          repeat (refine And.intro (by clear hK; intros; first | omega | (simp_all; done) | (simp_all <;> omega)) ?_)
          refine hK _ ?_; clear hK K; refine Nav.imp ?_
          refine awp_cond (b := !v) (by simp [push_cast]) (fun hb => ?_) (fun hb => ?_) <;> (refine Nav.imp ?_)
          · simp at hb
            refine awp_region cx [] fun K hK => ?_
            simp [push_cast]
            repeat (refine And.intro (by clear hK; intros; first | omega | (simp_all; done) | (simp_all <;> omega)) ?_)
            refine hK _ ?_; clear hK K; refine Nav.imp ?_
            simp [push_cast]
            exact all_range_false hlt (by rw [hat, hb]; simp)
          · simp at hb
            refine awp_region cx [] fun K hK => ?_
            simp [push_cast, e0]
            repeat (refine And.intro (by clear hK; intros; first | omega | (simp_all; done) | (simp_all <;> omega)) ?_)
            refine hK _ ?_; clear hK K; refine Nav.imp ?_
            refine ⟨1, ⟨hlt, by rw [all_range_succ, hall, hat]; simp [h1c, hb]⟩, by omega, ?_⟩
            refine weak_of [(0, some 0)] rfl (by simp [upT, up, upL, push_cast]) (by simp [upH, upR, upL, up, push_cast]) (by simp [namesOk, push_cast]) (by simp [olds])
        · have e1 := wrap_i64 (n := (k : Int) - 1) (by omega) (by omega)
          have e2 : ((k : Int) - 1).toNat = k - 1 := by omega
          have hk1 : (0 : Int) < k := by omega
          have hk2 : (0 : Int) ≤ k - 1 := by omega
          have hk3 : 0 < k := by omega
          obtain ⟨py, pr⟩ := p
          by_cases h2 : py < y
          · have h2' : ¬ (y ≤ py) := by omega
            refine awp_region cx [(28, .p (.bool v))] fun K hK => ?_
            simp [push_cast, h1a, h1b, hr, hp, Row.row, c1, hk1, hk3, e1, e2, hk2, h2']
            repeat (refine And.intro (by clear hK; intros; first | omega | (simp_all; done) | (simp_all <;> omega)) ?_)
            refine hK _ ?_; clear hK K; refine Nav.imp ?_
            refine awp_cond (b := !v) (by simp [push_cast]) (fun hb => ?_) (fun hb => ?_) <;> (refine Nav.imp ?_)
            · simp at hb
              refine awp_region cx [] fun K hK => ?_
              simp [push_cast]
              repeat (refine And.intro (by clear hK; intros; first | omega | (simp_all; done) | (simp_all <;> omega)) ?_)
              refine hK _ ?_; clear hK K; refine Nav.imp ?_
              simp [push_cast]
              exact all_range_false hlt (by rw [hat, hb]; simp)
            · simp at hb
              refine awp_region cx [] fun K hK => ?_
              simp [push_cast, e0]
              repeat (refine And.intro (by clear hK; intros; first | omega | (simp_all; done) | (simp_all <;> omega)) ?_)
              refine hK _ ?_; clear hK K; refine Nav.imp ?_
              refine ⟨k + 1, ⟨hlt, by rw [all_range_succ, hall, hat]; simp [h1c, hb, h2]⟩, by omega, ?_⟩
              refine weak_of [(0, some 0)] rfl (by simp [upT, up, upL, push_cast]) (by simp [upH, upR, upL, up, push_cast]) (by simp [namesOk, push_cast]) (by simp [olds])
          · have h2' : y ≤ py := by omega
            refine awp_region cx [(28, .skip)] fun K hK => ?_
            simp [push_cast, h1a, h1b, hr, hp, Row.row, c1, hk1, hk3, e1, e2, hk2, h2']
            repeat (refine And.intro (by clear hK; intros; first | omega | (simp_all; done) | (simp_all <;> omega)) ?_)
            refine hK _ ?_; clear hK K; refine Nav.imp ?_
            refine awp_cond (b := true) (by simp [push_cast]) (fun hb => ?_) (fun hb => ?_) <;> (refine Nav.imp ?_)
            · refine awp_region cx [] fun K hK => ?_
              simp [push_cast]
              repeat (refine And.intro (by clear hK; intros; first | omega | (simp_all; done) | (simp_all <;> omega)) ?_)
              refine hK _ ?_; clear hK K; refine Nav.imp ?_
              simp [push_cast]
              exact all_range_false hlt (by rw [hat]; simp [h2, hk0])
            · simp at hb
      · have hF : rowAt R k = false := by rw [hat]; simp [h1]
        by_cases h1a : y < -4096
        · by_cases hk0 : k = 0
          · subst hk0
            refine awp_region cx [(28, .skip)] fun K hK => ?_
            simp [push_cast, h1a, hr, Row.row]
            repeat (refine And.intro (by clear hK; intros; first | omega | (simp_all; done) | (simp_all <;> omega)) ?_)
            refine hK _ ?_; clear hK K; refine Nav.imp ?_
            refine awp_cond (b := true) (by simp [push_cast]) (fun hb => ?_) (fun hb => ?_) <;> (refine Nav.imp ?_)
            · refine awp_region cx [] fun K hK => ?_
              simp [push_cast]
              repeat (refine And.intro (by clear hK; intros; first | omega | (simp_all; done) | (simp_all <;> omega)) ?_)
              refine hK _ ?_; clear hK K; refine Nav.imp ?_
              simp [push_cast]
              exact all_range_false hlt hF
            · simp at hb
          · have e1 := wrap_i64 (n := (k : Int) - 1) (by omega) (by omega)
            have e2 : ((k : Int) - 1).toNat = k - 1 := by omega
            obtain ⟨py, pr⟩ := p
            refine awp_region cx [(28, .skip)] fun K hK => ?_
            simp [push_cast, h1a, hr, hp, e1, e2, Row.row]
            repeat (refine And.intro (by clear hK; intros; first | omega | (simp_all; done) | (simp_all <;> omega)) ?_)
            refine hK _ ?_; clear hK K; refine Nav.imp ?_
            refine awp_cond (b := true) (by simp [push_cast]) (fun hb => ?_) (fun hb => ?_) <;> (refine Nav.imp ?_)
            · refine awp_region cx [] fun K hK => ?_
              simp [push_cast]
              repeat (refine And.intro (by clear hK; intros; first | omega | (simp_all; done) | (simp_all <;> omega)) ?_)
              refine hK _ ?_; clear hK K; refine Nav.imp ?_
              simp [push_cast]
              exact all_range_false hlt hF
            · simp at hb
        · have h1b : 4096 ≤ y := by simp [okB] at h1; omega
          by_cases hk0 : k = 0
          · subst hk0
            refine awp_region cx [(28, .skip)] fun K hK => ?_
            simp [push_cast, h1a, h1b, hr, Row.row]
            repeat (refine And.intro (by clear hK; intros; first | omega | (simp_all; done) | (simp_all <;> omega)) ?_)
            refine hK _ ?_; clear hK K; refine Nav.imp ?_
            refine awp_cond (b := true) (by simp [push_cast]) (fun hb => ?_) (fun hb => ?_) <;> (refine Nav.imp ?_)
            · refine awp_region cx [] fun K hK => ?_
              simp [push_cast]
              repeat (refine And.intro (by clear hK; intros; first | omega | (simp_all; done) | (simp_all <;> omega)) ?_)
              refine hK _ ?_; clear hK K; refine Nav.imp ?_
              simp [push_cast]
              exact all_range_false hlt hF
            · simp at hb
          · have e1 := wrap_i64 (n := (k : Int) - 1) (by omega) (by omega)
            have e2 : ((k : Int) - 1).toNat = k - 1 := by omega
            obtain ⟨py, pr⟩ := p
            refine awp_region cx [(28, .skip)] fun K hK => ?_
            simp [push_cast, h1a, h1b, hr, hp, e1, e2, Row.row]
            repeat (refine And.intro (by clear hK; intros; first | omega | (simp_all; done) | (simp_all <;> omega)) ?_)
            refine hK _ ?_; clear hK K; refine Nav.imp ?_
            refine awp_cond (b := true) (by simp [push_cast]) (fun hb => ?_) (fun hb => ?_) <;> (refine Nav.imp ?_)
            · refine awp_region cx [] fun K hK => ?_
              simp [push_cast]
              repeat (refine And.intro (by clear hK; intros; first | omega | (simp_all; done) | (simp_all <;> omega)) ?_)
              refine hK _ ?_; clear hK K; refine Nav.imp ?_
              simp [push_cast]
              exact all_range_false hlt hF
            · simp at hb
    · have hge : k = R.length := by simp at hb; omega
      subst hge
      refine awp_region cx [] fun K hK => ?_
      simp [push_cast]
      repeat (refine And.intro (by clear hK; intros; first | omega | (simp_all; done) | (simp_all <;> omega)) ?_)
      refine hK _ ?_; clear hK K; refine Nav.imp ?_
      simp [push_cast, validR, hall]

theorem rows_at (R : List Row) {k : Nat} {r p : Row} {f z : Run} (hr : R[k]? = some r) (hp : R[k - 1]? = some p) (hf : r.runs[0]? = some f) (hz : r.runs[r.runs.length - 1]? = some z) :
    rowAt R k = (okB r.y && (k == 0 || decide (p.y < r.y)) && rvalid r.runs && okB f.a && okB (z.b - 1)) := by
  rw [rowAt_some hr hp, fine_iff hf hz]
  simp only [Bool.and_assoc]
theorem rows_nil (R : List Row) {k : Nat} {r : Row} (hr : R[k]? = some r) (h : r.runs = []) : rowAt R k = false := by
  have := (List.getElem?_eq_some_iff.1 hr).1
  obtain ⟨p, hp⟩ : ∃ p, R[k - 1]? = some p := getq (by omega)
  rw [rowAt_some hr hp, h]; simp [fine]

set_option maxHeartbeats 1000000 in
theorem valid_big (R : List Row) (hR : bigR R) : PC Tryz.prog 35 [.agg (regRow R)] (.p (.bool (validR R))) := by
  have hl := hR.1
  refine pc_of_awp cx (fn := Tryz.f35) (c := _) Tryz.func35 rfl rfl (Nat.le_of_ble_eq_true rfl) ?_
  rw [Tryz.ntmps35]; refine Nav.imp ?_
  refine awp_region cx [] fun K hK => ?_
  simp [push_cast]
  repeat (refine And.intro (by clear hK; intros; first | omega | (simp_all; done) | (simp_all <;> omega)) ?_)
  refine hK _ ?_; clear hK K; refine Nav.imp ?_
  refine awp_region cx [] fun K hK => ?_
  simp [push_cast]
  repeat (refine And.intro (by clear hK; intros; first | omega | (simp_all; done) | (simp_all <;> omega)) ?_)
  refine hK _ ?_; clear hK K; refine Nav.imp ?_
  refine awp_loop (β := Nat) (fun k => ⟨67, [(1, .ptr 0 0 0), (6, .d (encRows R)), (7, .d (.int .i64 R.length)), (8, .d (.int .i64 k))], [(0, some ⟨24, 1, [(regRow R).map .d]⟩)], 1⟩) (fun k => k ≤ R.length ∧ (List.range k).all (rowAt R) = true) (fun k => R.length - k) 0 ?_ ⟨Nat.zero_le _, rfl⟩ ?_
  · refine weak_of [(0, some 0)] rfl (by simp [upT, up, upL, push_cast]) (by simp [upH, upR, upL, up, push_cast]) (by simp [namesOk, push_cast]) (by simp [olds])
  · intro k ⟨hk, hall⟩
    refine Nav.imp ?_
    refine awp_region cx [] fun K hK => ?_
    simp [push_cast]
    repeat (refine And.intro (by clear hK; intros; first | omega | (simp_all; done) | (simp_all <;> omega)) ?_)
    refine hK _ ?_; clear hK K; refine Nav.imp ?_
    refine awp_cond (b := decide ((k : Int) < R.length)) (by simp [push_cast]) (fun hb => ?_) (fun hb => ?_) <;> (refine Nav.imp ?_)
    · have hlt : k < R.length := by simpa using hb
      obtain ⟨r, hr⟩ := getq hlt
      obtain ⟨p, hp⟩ : ∃ p, R[k - 1]? = some p := getq (by omega)
      have e0 := wrap_i64 (n := (k : Int) + 1) (by omega) (by omega)
      have e1 := wrap_i64 (n := (k : Int) - 1) (by omega) (by omega)
      have hrl := hR.2 r (List.mem_of_getElem? hr)
      have c1 := ok_ok r.y
      have c2 := rvalid_big r.runs hrl
      have hnil := rows_nil R hr
      have hcons := fun f z => @rows_at R k r p f z hr hp
      obtain ⟨y, ru⟩ := r
      obtain ⟨py, pr⟩ := p
      simp only at c1 c2 hnil hcons hrl
      have hno : rowAt R k = false → validR R = false := fun h => all_range_false hlt h
      have hy : okB y = false → rowAt R k = false := fun h => by rw [rowAt_some hr hp]; simp [h]
      have hpy : k ≠ 0 → y ≤ py → rowAt R k = false := fun h0 h => by rw [rowAt_some hr hp]; simp [h0, show ¬ py < y by omega]
      have hrv : rvalid ru = false → rowAt R k = false := fun h => by
        cases hru : ru with
        | nil => exact hnil hru
        | cons a b =>
          obtain ⟨f, hf⟩ : ∃ f, ru[0]? = some f := getq (by rw [hru]; simp)
          obtain ⟨z, hz⟩ : ∃ f, ru[ru.length - 1]? = some f := getq (by rw [hru]; simp)
          rw [hcons f z hf hz, h]; simp
      generalize okB y = oy at *
      generalize hrvd : rvalid ru = rv at c2 hrv hcons
      refine awp_region cx [] fun K hK => ?_
      simp [push_cast, hr, Row.row]
      repeat (refine And.intro (by clear hK; intros; first | omega | (simp_all; done) | (simp_all <;> omega)) ?_)
      refine hK _ ?_; clear hK K; refine Nav.imp ?_
      cases oy with
      | false =>
        by_cases hk0 : k = 0
        · subst hk0
          refine awp_region_draw cx mixed [(2, .p (.bool false)), (29, .skip)] fun K hK => ?_
          simp [push_cast, c1, hr, Row.row]
          repeat (refine And.intro (by clear hK; intros; first | omega | (simp_all; done) | (simp_all <;> omega)) ?_)
          refine hK _ _ (by kernel_rfl) ?_; clear hK K; refine Nav.imp ?_
          refine awp_cond (b := true) (by simp [push_cast]) (fun hb => ?_) (fun hb => ?_) <;> (refine Nav.imp ?_)
          · refine awp_region cx [] fun K hK => ?_
            simp [push_cast]
            repeat (refine And.intro (by clear hK; intros; first | omega | (simp_all; done) | (simp_all <;> omega)) ?_)
            refine hK _ ?_; clear hK K; refine Nav.imp ?_
            simp [push_cast]
            exact hno (hy rfl)
          · simp at hb
        · have e2 : ((k : Int) - 1).toNat = k - 1 := by omega
          refine awp_region_draw cx mixed [(2, .p (.bool false)), (29, .skip)] fun K hK => ?_
          simp [push_cast, c1, hp, e1, e2, Row.row]
          repeat (refine And.intro (by clear hK; intros; first | omega | (simp_all; done) | (simp_all <;> omega)) ?_)
          refine hK _ _ (by kernel_rfl) ?_; clear hK K; refine Nav.imp ?_
          refine awp_cond (b := true) (by simp [push_cast]) (fun hb => ?_) (fun hb => ?_) <;> (refine Nav.imp ?_)
          · refine awp_region cx [] fun K hK => ?_
            simp [push_cast]
            repeat (refine And.intro (by clear hK; intros; first | omega | (simp_all; done) | (simp_all <;> omega)) ?_)
            refine hK _ ?_; clear hK K; refine Nav.imp ?_
            simp [push_cast]
            exact hno (hy rfl)
          · simp at hb
      | true =>
        cases hru : ru with
        | nil =>
          subst hru
          by_cases hk0 : k = 0
          · subst hk0
            refine awp_region_draw cx mixed [(2, .p (.bool true)), (29, .skip)] fun K hK => ?_
            simp [push_cast, c1, hr, Row.row]
            repeat (refine And.intro (by clear hK; intros; first | omega | (simp_all; done) | (simp_all <;> omega)) ?_)
            refine hK _ _ (by kernel_rfl) ?_; clear hK K; refine Nav.imp ?_
            refine awp_cond (b := true) (by simp [push_cast]) (fun hb => ?_) (fun hb => ?_) <;> (refine Nav.imp ?_)
            · refine awp_region cx [] fun K hK => ?_
              simp [push_cast]
              repeat (refine And.intro (by clear hK; intros; first | omega | (simp_all; done) | (simp_all <;> omega)) ?_)
              refine hK _ ?_; clear hK K; refine Nav.imp ?_
              simp [push_cast]
              exact hno (hnil rfl)
            · simp at hb
          · have e2 : ((k : Int) - 1).toNat = k - 1 := by omega
            have hk1 : (0 : Int) < k := by omega
            have hk2 : (0 : Int) ≤ k - 1 := by omega
            have hk3 : 0 < k := by omega
            by_cases h2 : y ≤ py
            · refine awp_region_draw cx mixed [(2, .p (.bool true)), (29, .skip)] fun K hK => ?_
              simp [push_cast, c1, hp, e1, e2, hk1, hk2, hk3, h2, Row.row]
              repeat (refine And.intro (by clear hK; intros; first | omega | (simp_all; done) | (simp_all <;> omega)) ?_)
              refine hK _ _ (by kernel_rfl) ?_; clear hK K; refine Nav.imp ?_
              refine awp_cond (b := true) (by simp [push_cast]) (fun hb => ?_) (fun hb => ?_) <;> (refine Nav.imp ?_)
              · refine awp_region cx [] fun K hK => ?_
                simp [push_cast]
                repeat (refine And.intro (by clear hK; intros; first | omega | (simp_all; done) | (simp_all <;> omega)) ?_)
                refine hK _ ?_; clear hK K; refine Nav.imp ?_
                simp [push_cast]
                exact hno (hnil rfl)
              · simp at hb
            · refine awp_region_draw cx mixed [(2, .p (.bool true)), (29, .skip)] fun K hK => ?_
              simp [push_cast, c1, hp, e1, e2, hk1, hk2, hk3, h2, Row.row]
              repeat (refine And.intro (by clear hK; intros; first | omega | (simp_all; done) | (simp_all <;> omega)) ?_)
              refine hK _ _ (by kernel_rfl) ?_; clear hK K; refine Nav.imp ?_
              refine awp_cond (b := true) (by simp [push_cast]) (fun hb => ?_) (fun hb => ?_) <;> (refine Nav.imp ?_)
              · refine awp_region cx [] fun K hK => ?_
                simp [push_cast]
                repeat (refine And.intro (by clear hK; intros; first | omega | (simp_all; done) | (simp_all <;> omega)) ?_)
                refine hK _ ?_; clear hK K; refine Nav.imp ?_
                simp [push_cast]
                exact hno (hnil rfl)
              · simp at hb
        | cons x0 xr =>
          have hne : ru ≠ [] := by rw [hru]; simp
          rw [← hru]
          have hnb : ((ru.length : Int) == 0) = false := by simp [hne]
          obtain ⟨f, hf⟩ : ∃ f, ru[0]? = some f := getq (by rw [hru]; simp)
          obtain ⟨z, hz⟩ : ∃ f, ru[ru.length - 1]? = some f := getq (by rw [hru]; simp)
          have hcons' := hcons f z hf hz
          have hzb : rv = true → fitsB z = true := fun h => (rvalid_at (by rw [hrvd, h]) hz).2
          have hrp : 1 ≤ ru.length := by rw [hru]; simp
          clear hru hcons
          cases rv with
          | false =>
            by_cases hk0 : k = 0
            · subst hk0
              refine awp_region_draw cx mixed [(2, .p (.bool true)), (29, .p (.bool false))] fun K hK => ?_
              simp [push_cast, c1, c2, hr, hnb, Row.row]
              repeat (refine And.intro (by clear hK; intros; first | omega | (simp_all; done) | (simp_all <;> omega)) ?_)
              refine hK _ _ (by kernel_rfl) ?_; clear hK K; refine Nav.imp ?_
              refine awp_cond (b := true) (by simp [push_cast]) (fun hb => ?_) (fun hb => ?_) <;> (refine Nav.imp ?_)
              · refine awp_region cx [] fun K hK => ?_
                simp [push_cast]
                repeat (refine And.intro (by clear hK; intros; first | omega | (simp_all; done) | (simp_all <;> omega)) ?_)
                refine hK _ ?_; clear hK K; refine Nav.imp ?_
                simp [push_cast]
                exact hno (hrv rfl)
              · simp at hb
            · have e2 : ((k : Int) - 1).toNat = k - 1 := by omega
              have hk1 : (0 : Int) < k := by omega
              have hk2 : (0 : Int) ≤ k - 1 := by omega
              have hk3 : 0 < k := by omega
              by_cases h2 : y ≤ py
              · refine awp_region_draw cx mixed [(2, .p (.bool true)), (29, .skip)] fun K hK => ?_
                simp [push_cast, c1, hp, e1, e2, hk1, hk2, hk3, h2, Row.row]
                repeat (refine And.intro (by clear hK; intros; first | omega | (simp_all; done) | (simp_all <;> omega)) ?_)
                refine hK _ _ (by kernel_rfl) ?_; clear hK K; refine Nav.imp ?_
                refine awp_cond (b := true) (by simp [push_cast]) (fun hb => ?_) (fun hb => ?_) <;> (refine Nav.imp ?_)
                · refine awp_region cx [] fun K hK => ?_
                  simp [push_cast]
                  repeat (refine And.intro (by clear hK; intros; first | omega | (simp_all; done) | (simp_all <;> omega)) ?_)
                  refine hK _ ?_; clear hK K; refine Nav.imp ?_
                  simp [push_cast]
                  exact hno (hrv rfl)
                · simp at hb
              · refine awp_region_draw cx mixed [(2, .p (.bool true)), (29, .p (.bool false))] fun K hK => ?_
                simp [push_cast, c1, c2, hp, e1, e2, hk1, hk2, hk3, h2, hnb, Row.row]
                repeat (refine And.intro (by clear hK; intros; first | omega | (simp_all; done) | (simp_all <;> omega)) ?_)
                refine hK _ _ (by kernel_rfl) ?_; clear hK K; refine Nav.imp ?_
                refine awp_cond (b := true) (by simp [push_cast]) (fun hb => ?_) (fun hb => ?_) <;> (refine Nav.imp ?_)
                · refine awp_region cx [] fun K hK => ?_
                  simp [push_cast]
                  repeat (refine And.intro (by clear hK; intros; first | omega | (simp_all; done) | (simp_all <;> omega)) ?_)
                  refine hK _ ?_; clear hK K; refine Nav.imp ?_
                  simp [push_cast]
                  exact hno (hrv rfl)
                · simp at hb
          | true =>
            by_cases hq : k ≠ 0 ∧ y ≤ py
            · obtain ⟨hk0, h2⟩ := hq
              have e2 : ((k : Int) - 1).toNat = k - 1 := by omega
              have hk1 : (0 : Int) < k := by omega
              have hk2 : (0 : Int) ≤ k - 1 := by omega
              have hk3 : 0 < k := by omega
              refine awp_region_draw cx mixed [(2, .p (.bool true)), (29, .skip)] fun K hK => ?_
              simp [push_cast, c1, hp, e1, e2, hk1, hk2, hk3, h2, Row.row]
              repeat (refine And.intro (by clear hK; intros; first | omega | (simp_all; done) | (simp_all <;> omega)) ?_)
              refine hK _ _ (by kernel_rfl) ?_; clear hK K; refine Nav.imp ?_
              refine awp_cond (b := true) (by simp [push_cast]) (fun hb => ?_) (fun hb => ?_) <;> (refine Nav.imp ?_)
              · refine awp_region cx [] fun K hK => ?_
                simp [push_cast]
                repeat (refine And.intro (by clear hK; intros; first | omega | (simp_all; done) | (simp_all <;> omega)) ?_)
                refine hK _ ?_; clear hK K; refine Nav.imp ?_
                simp [push_cast]
                exact hno (hpy hk0 h2)
              · simp at hb
            · have hat : rowAt R k = (okB f.a && okB (z.b - 1)) := by
                rw [hcons']
                by_cases h : k = 0
                · simp [h]
                · have : py < y := by
                    apply Int.not_le.1
                    exact fun h2 => hq ⟨h, h2⟩
                  simp [h, this]
              apply cut_
              · intro key
                by_cases hk0 : k ≠ 0
                · have e2 : ((k : Int) - 1).toNat = k - 1 := by omega
                  have hk1 : (0 : Int) < k := by omega
                  have hk2 : (0 : Int) ≤ k - 1 := by omega
                  have hk3 : 0 < k := by omega
                  have h2 : ¬ y ≤ py := fun h => hq ⟨hk0, h⟩
                  refine awp_region_draw cx mixed [(2, .p (.bool true)), (29, .p (.bool true))] fun K hK => ?_
                  simp [push_cast, c1, c2, hp, e1, e2, hk1, hk2, hk3, h2, hnb, Row.row]
                  repeat (refine And.intro (by clear hK; intros; first | omega | (simp_all; done) | (simp_all <;> omega)) ?_)
                  refine hK _ _ (by kernel_rfl) ?_; clear hK K; refine Nav.imp ?_
                  refine awp_cond (b := false) (by simp [push_cast]) (fun hb => ?_) (fun hb => ?_) <;> (refine Nav.imp ?_)
                  · simp at hb
                  · refine awp_weak (s' := ⟨67, [(1, .ptr 0 0 0), (4, .ptr 1 0 0), (6, .d (encRows R)), (7, .d (.int .i64 R.length)), (8, .d (.int .i64 k))], [(0, some ⟨24, 1, [(regRow R).map .d]⟩), (1, some ⟨52, 2, [(Row.row ⟨y, ru⟩).map .d]⟩)], 2⟩) ?_ key.h
                    refine weak_of [(0, some 0), (1, some 5)] rfl (by simp [upT, up, upL, push_cast, Row.row]) (by simp [upH, upR, upL, up, push_cast, Row.row]) (by simp [namesOk, push_cast]) (by simp [olds])
                · have hk0 := Classical.not_not.1 hk0
                  subst hk0
                  refine awp_region_draw cx mixed [(2, .p (.bool true)), (29, .p (.bool true))] fun K hK => ?_
                  simp [push_cast, c1, c2, hr, hnb, Row.row]
                  repeat (refine And.intro (by clear hK; intros; first | omega | (simp_all; done) | (simp_all <;> omega)) ?_)
                  refine hK _ _ (by kernel_rfl) ?_; clear hK K; refine Nav.imp ?_
                  refine awp_cond (b := false) (by simp [push_cast]) (fun hb => ?_) (fun hb => ?_) <;> (refine Nav.imp ?_)
                  · simp at hb
                  · refine awp_weak (s' := ⟨67, [(1, .ptr 0 0 0), (4, .ptr 1 0 0), (6, .d (encRows R)), (7, .d (.int .i64 R.length)), (8, .d (.int .i64 (0 : Nat)))], [(0, some ⟨24, 1, [(regRow R).map .d]⟩), (1, some ⟨52, 2, [(Row.row ⟨y, ru⟩).map .d]⟩)], 2⟩) ?_ key.h
                    refine weak_of [(0, some 0), (1, some 5)] rfl (by simp [upT, up, upL, push_cast, Row.row]) (by simp [upH, upR, upL, up, push_cast, Row.row]) (by simp [namesOk, push_cast]) (by simp [olds])
              · refine Nav.imp ?_
                have d1 := ok_ok f.a
                have d2 := ok_ok (z.b - 1)
                have hzf := fitsB_bd (hzb rfl)
                have e3 := wrap_i64 (n := (ru.length : Int) - 1) (by omega) (by omega)
                have e4 : ((ru.length : Int) - 1).toNat = ru.length - 1 := by omega
                have e5 : (0 : Int) ≤ (ru.length : Int) - 1 := by omega
                have e6 := wrap_i64 (n := z.b - 1) (by omega) (by omega)
                obtain ⟨fa, fb⟩ := f
                obtain ⟨za, zb⟩ := z
                simp only at d1 d2 hat e6
                generalize okB fa = p1 at *
                generalize okB (zb - 1) = p2 at *
                cases p1 with
                | false =>
                  refine awp_region cx [(5, .p (.bool false)), (18, .skip)] fun K hK => ?_
                  simp [push_cast, hf, hz, Row.row, Run.row, d1, e3, e4, e5, e6]
                  repeat (refine And.intro (by clear hK; intros; first | omega | (simp_all; done) | (simp_all <;> omega)) ?_)
                  refine hK _ ?_; clear hK K; refine Nav.imp ?_
                  refine awp_cond (b := true) (by simp [push_cast]) (fun hb => ?_) (fun hb => ?_) <;> (refine Nav.imp ?_)
                  · refine awp_region cx [] fun K hK => ?_
                    simp [push_cast]
                    repeat (refine And.intro (by clear hK; intros; first | omega | (simp_all; done) | (simp_all <;> omega)) ?_)
                    refine hK _ ?_; clear hK K; refine Nav.imp ?_
                    simp [push_cast]
                    exact hno (by rw [hat]; rfl)
                  · simp at hb
                | true =>
                  refine awp_region cx [(5, .p (.bool true)), (18, .p (.bool p2))] fun K hK => ?_
                  simp [push_cast, hf, hz, Row.row, Run.row, d1, d2, e3, e4, e5, e6]
                  repeat (refine And.intro (by clear hK; intros; first | omega | (simp_all; done) | (simp_all <;> omega)) ?_)
                  refine hK _ ?_; clear hK K; refine Nav.imp ?_
                  refine awp_cond (b := !p2) (by simp [push_cast]) (fun hb => ?_) (fun hb => ?_) <;> (refine Nav.imp ?_)
                  · simp at hb
                    refine awp_region cx [] fun K hK => ?_
                    simp [push_cast]
                    repeat (refine And.intro (by clear hK; intros; first | omega | (simp_all; done) | (simp_all <;> omega)) ?_)
                    refine hK _ ?_; clear hK K; refine Nav.imp ?_
                    simp [push_cast]
                    exact hno (by rw [hat, hb]; rfl)
                  · simp at hb
                    refine awp_region cx [] fun K hK => ?_
                    simp [push_cast, e0]
                    repeat (refine And.intro (by clear hK; intros; first | omega | (simp_all; done) | (simp_all <;> omega)) ?_)
                    refine hK _ ?_; clear hK K; refine Nav.imp ?_
                    refine ⟨k + 1, ⟨hlt, by rw [all_range_succ, hall, hat, hb]; rfl⟩, by omega, ?_⟩
                    refine weak_of [(0, some 0)] rfl (by simp [upT, up, upL, push_cast]) (by simp [upH, upR, upL, up, push_cast]) (by simp [namesOk, push_cast]) (by simp [olds])
    · have hge : k = R.length := by simp at hb; omega
      subst hge
      refine awp_region cx [] fun K hK => ?_
      simp [push_cast]
      repeat (refine And.intro (by clear hK; intros; first | omega | (simp_all; done) | (simp_all <;> omega)) ?_)
      refine hK _ ?_; clear hK K; refine Nav.imp ?_
      simp [push_cast, validR, hall]
theorem fine_ok (l : List Run) (hl : l.length ≤ 1000000) : PC Tryz.prog 57 [encRuns l] (.p (.bool (fine l))) := fine_big l (by omega)
theorem validR_ok (R : List Row) (hR : smallR R) : PC Tryz.prog 24 [.agg (regRow R)] (.p (.bool (validR R))) := validR_big R (big_of hR)
theorem valid_ok (R : List Row) (hR : smallR R) : PC Tryz.prog 35 [.agg (regRow R)] (.p (.bool (validR R))) := valid_big R (big_of hR)
end Go.Proofs.YtagakfaiimaifaaGreat

set_option linter.unusedVariables false
set_option linter.unusedSimpArgs false
set_option maxRecDepth 100000
namespace Go.Proofs.YtagakfaiimaifaaGreat
open Go.Abs

/-! Tracks: equality; the tracks of package thin. -/



theorem free_cells : ∀ l : List Cell, D.freess (l.map Cell.row) = true
  | [] => rfl
  | c :: l => by simp [D.freess, D.frees, D.free, free_cells l]

theorem path_ok (l : List Cell) (hl : l.length ≤ 1000000) : PC Tryz.prog 72 [encCells l] (.f (.agg (Track.row ⟨2, false, l⟩))) := by
  have m1 : 16 * (l.length : Int) ≤ 281474976710656 := by omega
  have m2 : (l.length : Int) ≤ 9223372036854775807 := by omega
  have m3 : List.drop l.length (List.replicate l.length [AV.d (.int .i64 0), AV.d (.int .i64 0)]) = [] := List.drop_of_length_le (by simp)
  refine pc_of_awp cx (fn := Tryz.f72) (c := _) Tryz.func72 rfl rfl (Nat.le_of_ble_eq_true rfl) ?_
  rw [Tryz.ntmps72]; refine Nav.imp ?_
  refine awp_region cx [] fun K hK => ?_
  simp [push_cast]
  repeat (refine And.intro (by clear hK; intros; first | omega | (simp_all; done) | (simp_all <;> omega)) ?_)
  refine hK _ ?_; clear hK K; refine Nav.imp ?_
  refine awp_region cx [] fun K hK => ?_
  simp [push_cast, m1, m2]
  repeat (refine And.intro (by clear hK; intros; first | omega | (simp_all; done) | (simp_all <;> omega)) ?_)
  refine hK _ ?_; clear hK K; refine Nav.imp ?_
  have m4 : List.take l.length (l.map Cell.row) = l.map Cell.row := List.take_of_length_le (by simp)
  refine awp_region cx [] fun K hK => ?_
  simp [push_cast, m3, Cell.row_len]
  repeat (refine And.intro (by clear hK; intros; first | omega | (simp_all; done) | (simp_all <;> omega)) ?_)
  refine hK _ ?_; clear hK K; refine Nav.imp ?_
  refine awp_region cx [] fun K hK => ?_
  simp [push_cast]
  repeat (refine And.intro (by clear hK; intros; first | omega | (simp_all; done) | (simp_all <;> omega)) ?_)
  refine hK _ ?_; clear hK K; refine Nav.imp ?_
  simp [push_cast, m4, free_cells]
end Go.Proofs.YtagakfaiimaifaaGreat

set_option linter.unusedVariables false
set_option linter.unusedSimpArgs false
set_option maxRecDepth 100000
namespace Go.Proofs.YtagakfaiimaifaaGreat
open Go.Abs

/-! The cells of a region. -/
def runCells (y : Int) (r : Run) : List Cell := (List.range (r.b - r.a).toNat).map fun k : Nat => ⟨r.a + k, y⟩
def rowCells (w : Row) : List Cell := w.runs.flatMap (runCells w.y)
def regCells (R : List Row) : List Cell := R.flatMap rowCells
def cellsOf (R : List Row) : List Cell := if validR R then regCells R else []

theorem flat_take {α β : Type} (f : α → List β) {l : List α} {i : Nat} {x : α} (h : l[i]? = some x) : (l.take (i + 1)).flatMap f = (l.take i).flatMap f ++ f x := by
  rw [take_get h]; simp
theorem flat_split {α β : Type} (f : α → List β) {l : List α} {i : Nat} {x : α} (h : l[i]? = some x) : l.flatMap f = (l.take i).flatMap f ++ f x ++ (l.drop (i + 1)).flatMap f := by
  conv => lhs; rw [← List.take_append_drop (i + 1) l, List.flatMap_append, flat_take f h]
theorem runCells_take (y : Int) (r : Run) {j : Nat} (hj : j < (r.b - r.a).toNat) : (runCells y r).take (j + 1) = (runCells y r).take j ++ [⟨r.a + j, y⟩] :=
  take_get (by simp [runCells, hj])
theorem runCells_len (y : Int) (r : Run) : (runCells y r).length = (r.b - r.a).toNat := by simp [runCells]

def rowsTo (R : List Row) (i : Nat) : List Cell := (R.take i).flatMap rowCells
def runsTo (w : Row) (k : Nat) : List Cell := (w.runs.take k).flatMap (runCells w.y)
theorem rowsTo_zero (R : List Row) : rowsTo R 0 = [] := by simp [rowsTo]
theorem runsTo_zero (w : Row) : runsTo w 0 = [] := by simp [runsTo]
theorem rowsTo_all (R : List Row) : rowsTo R R.length = regCells R := by simp [rowsTo, regCells]
theorem runsTo_all (w : Row) : runsTo w w.runs.length = rowCells w := by simp [runsTo, rowCells]
theorem rowsTo_next {R : List Row} {i : Nat} {w : Row} (h : R[i]? = some w) : rowsTo R (i + 1) = rowsTo R i ++ rowCells w := flat_take rowCells h
theorem runsTo_next {w : Row} {k : Nat} {r : Run} (h : w.runs[k]? = some r) : runsTo w (k + 1) = runsTo w k ++ runCells w.y r := flat_take (runCells w.y) h
theorem cells_big {R : List Row} {i k : Nat} {w : Row} {r : Run} (hw : R[i]? = some w) (hr : w.runs[k]? = some r) : (rowsTo R i).length + (runsTo w k).length + (r.b - r.a).toNat ≤ (regCells R).length := by
  have h1 := flat_split rowCells hw
  have h2 := flat_split (runCells w.y) hr
  unfold regCells
  rw [h1, show rowCells w = _ from h2]
  simp only [List.length_append, rowsTo, runsTo, runCells_len]
  omega

theorem fine_at {l : List Run} (h : fine l = true) {k : Nat} {r : Run} (hr : l[k]? = some r) : -4096 ≤ r.a ∧ r.a < r.b ∧ r.b ≤ 4096 := by
  simp only [fine, Bool.and_eq_true] at h
  have hk := (List.getElem?_eq_some_iff.1 hr).1
  obtain ⟨p, hp⟩ : ∃ p, l[k - 1]? = some p := getq (by omega)
  have := all_range_at h.1 hk
  rw [fnAt_some hr hp] at this
  simp at this
  omega
theorem fine_ends {l : List Run} (h : fine l = true) : ∃ f z, l[0]? = some f ∧ l[l.length - 1]? = some z ∧ (-4096 ≤ f.a ∧ f.a < f.b ∧ f.b ≤ 4096) ∧ (-4096 ≤ z.a ∧ z.a < z.b ∧ z.b ≤ 4096) ∧ 0 < l.length := by
  have hp : 0 < l.length := by
    cases l with
    | nil => simp [fine] at h
    | cons a l => simp
  obtain ⟨f, hf⟩ : ∃ f, l[0]? = some f := getq hp
  obtain ⟨z, hz⟩ : ∃ f, l[l.length - 1]? = some f := getq (by omega)
  have h1 := fine_at h hf
  have h2 := fine_at h hz
  exact ⟨f, z, hf, hz, by omega, by omega, hp⟩

theorem fine_gap {l : List Run} (h : fine l = true) {k : Nat} {r p : Run} (hr : l[k + 1]? = some r) (hp : l[k]? = some p) : p.b < r.a := by
  simp only [fine, Bool.and_eq_true] at h
  have hk := (List.getElem?_eq_some_iff.1 hr).1
  have := all_range_at h.1 hk
  rw [fnAt_some hr (by simpa using hp)] at this
  simp at this
  omega
theorem validR_at {R : List Row} (h : validR R = true) {i : Nat} {w : Row} (hw : R[i]? = some w) : (-4096 ≤ w.y ∧ w.y < 4096) ∧ fine w.runs = true := by
  have hk := (List.getElem?_eq_some_iff.1 hw).1
  obtain ⟨p, hp⟩ : ∃ p, R[i - 1]? = some p := getq (by omega)
  have := all_range_at h hk
  rw [rowAt_some hw hp] at this
  simp [okB] at this
  exact ⟨this.1.1, this.2⟩
theorem validR_gap {R : List Row} (h : validR R = true) {i : Nat} {w p : Row} (hw : R[i + 1]? = some w) (hp : R[i]? = some p) : p.y < w.y := by
  have hk := (List.getElem?_eq_some_iff.1 hw).1
  have := all_range_at h hk
  rw [rowAt_some hw (by simpa using hp)] at this
  simp at this
  omega

set_option maxHeartbeats 4000000 in
theorem rcells_ok (R : List Row) (hR : smallR R) (hn : validR R = true → (regCells R).length ≤ 1000000) : PC Tryz.prog 84 [.agg (regRow R)] (.p (encCells (cellsOf R))) := by
  have c1 := validR_ok R hR
  have hl := hR.1
  have hC : cellsOf R = if validR R then regCells R else [] := rfl
  generalize hv : validR R = v at *
  refine pc_of_awp cx (fn := Tryz.f84) (c := _) Tryz.func84 rfl rfl (Nat.le_of_ble_eq_true rfl) ?_
  rw [Tryz.ntmps84]; refine Nav.imp ?_
  refine awp_region cx [] fun K hK => ?_
  simp [push_cast]
  repeat (refine And.intro (by clear hK; intros; first | omega | (simp_all; done) | (simp_all <;> omega)) ?_)
  refine hK _ ?_; clear hK K; refine Nav.imp ?_
  refine awp_region cx [] fun K hK => ?_
  simp [push_cast]
  repeat (refine And.intro (by clear hK; intros; first | omega | (simp_all; done) | (simp_all <;> omega)) ?_)
  refine hK _ ?_; clear hK K; refine Nav.imp ?_
  refine awp_region cx [(1, .p (.bool v))] fun K hK => ?_
  simp [push_cast, c1]
  repeat (refine And.intro (by clear hK; intros; first | omega | (simp_all; done) | (simp_all <;> omega)) ?_)
  refine hK _ ?_; clear hK K; refine Nav.imp ?_
  refine awp_cond (b := !v) (by simp [push_cast]) (fun hb => ?_) (fun hb => ?_) <;> (refine Nav.imp ?_)
  · simp at hb
    rw [hC, hb]
    refine awp_region cx [] fun K hK => ?_
    simp [push_cast]
    repeat (refine And.intro (by clear hK; intros; first | omega | (simp_all; done) | (simp_all <;> omega)) ?_)
    refine hK _ ?_; clear hK K; refine Nav.imp ?_
    simp [push_cast]
  · simp at hb
    rw [hb] at hC hv
    have hn := hn hb
    rw [hC, if_pos rfl]
    clear hC
    refine awp_region cx [] fun K hK => ?_
    simp [push_cast]
    repeat (refine And.intro (by clear hK; intros; first | omega | (simp_all; done) | (simp_all <;> omega)) ?_)
    refine hK _ ?_; clear hK K; refine Nav.imp ?_
    refine awp_loop (β := Nat) (fun i => ⟨65, [(1, .ptr 0 0 0), (3, .hs 1 0 (rowsTo R i).length), (4, .d (.int .i64 i))], [(0, some ⟨24, 1, [(regRow R).map .d]⟩), (1, some ⟨62, 2, dr ((rowsTo R i).map Cell.row)⟩)], 2⟩) (fun i => i ≤ R.length) (fun i => R.length - i) 0 ?_ (Nat.zero_le _) ?_
    · refine weak_of [(0, some 0), (1, none)] rfl (by simp [upT, up, upL, push_cast, rowsTo_zero]) (by simp [upH, upR, upL, up, push_cast, rowsTo_zero]) (by simp [namesOk, push_cast]) (by simp [olds])
    · intro i hi
      refine Nav.imp ?_
      refine awp_region cx [] fun K hK => ?_
      simp [push_cast]
      repeat (refine And.intro (by clear hK; intros; first | omega | (simp_all; done) | (simp_all <;> omega)) ?_)
      refine hK _ ?_; clear hK K; refine Nav.imp ?_
      refine awp_cond (b := decide ((i : Int) < R.length)) (by simp [push_cast]) (fun hb => ?_) (fun hb => ?_) <;> (refine Nav.imp ?_)
      · have hlt : i < R.length := by simpa using hb
        obtain ⟨w, hw⟩ := getq hlt
        have e0 := wrap_i64 (n := (i : Int) + 1) (by omega) (by omega)
        have hwl := hR.2 w (List.mem_of_getElem? hw)
        have hft := rowsTo_next hw
        have hfine := (validR_at hv hw).2
        have hsum : ∀ k r, w.runs[k]? = some r → (rowsTo R i).length + (runsTo w k).length + (r.b - r.a).toNat ≤ 1000000 := fun k r hr => Nat.le_trans (cells_big hw hr) hn
        generalize rowsTo R i = X at *
        refine awp_region cx [] fun K hK => ?_
        simp [push_cast]
        repeat (refine And.intro (by clear hK; intros; first | omega | (simp_all; done) | (simp_all <;> omega)) ?_)
        refine hK _ ?_; clear hK K; refine Nav.imp ?_
        refine awp_loop (β := Nat) (fun k => ⟨65, [(1, .ptr 0 0 0), (3, .hs 1 0 (X ++ runsTo w k).length), (4, .d (.int .i64 i)), (5, .d (.int .i64 k))], [(0, some ⟨24, 1, [(regRow R).map .d]⟩), (1, some ⟨62, 2, dr ((X ++ runsTo w k).map Cell.row)⟩)], 2⟩) (fun k => k ≤ w.runs.length) (fun k => w.runs.length - k) 0 ?_ (Nat.zero_le _) ?_
        · refine weak_of [(0, some 0), (1, some 1)] rfl (by simp [upT, up, upL, push_cast, runsTo_zero]) (by simp [upH, upR, upL, up, push_cast, runsTo_zero]) (by simp [namesOk, push_cast]) (by simp [olds])
        · intro k hk
          refine Nav.imp ?_
          refine awp_region cx [] fun K hK => ?_
          simp [push_cast, hw, Row.row]
          repeat (refine And.intro (by clear hK; intros; first | omega | (simp_all; done) | (simp_all <;> omega)) ?_)
          refine hK _ ?_; clear hK K; refine Nav.imp ?_
          refine awp_cond (b := decide ((k : Int) < w.runs.length)) (by simp [push_cast]) (fun hb => ?_) (fun hb => ?_) <;> (refine Nav.imp ?_)
          · have hlk : k < w.runs.length := by simpa using hb
            obtain ⟨r, hr⟩ := getq hlk
            have e1 := wrap_i64 (n := (k : Int) + 1) (by omega) (by omega)
            have hft2 := runsTo_next hr
            have hbig := hsum k r hr
            have hrb := fine_at hfine hr
            have hrl := runCells_len w.y r
            generalize runsTo w k = Y at *
            obtain ⟨ra, rb⟩ := r
            simp only at hbig hrl hrb
            refine awp_region cx [] fun K hK => ?_
            simp [push_cast, hw, hr, Row.row, Run.row]
            repeat (refine And.intro (by clear hK; intros; first | omega | (simp_all; done) | (simp_all <;> omega)) ?_)
            refine hK _ ?_; clear hK K; refine Nav.imp ?_
            refine awp_loop (β := Nat × List Cell) (fun b => ⟨65, [(1, .ptr 0 0 0), (3, .hs 1 0 b.2.length), (4, .d (.int .i64 i)), (5, .d (.int .i64 k)), (6, .d (.int .i64 (ra + b.1)))], [(0, some ⟨24, 1, [(regRow R).map .d]⟩), (1, some ⟨62, 2, dr (b.2.map Cell.row)⟩)], 2⟩) (fun b => b.1 ≤ (rb - ra).toNat ∧ b.2 = X ++ (Y ++ (runCells w.y ⟨ra, rb⟩).take b.1)) (fun b => (rb - ra).toNat - b.1) (0, X ++ Y) ?_ ⟨Nat.zero_le _, by simp⟩ ?_
            · refine weak_of [(0, some 0), (1, some 1)] rfl (by simp [upT, up, upL, push_cast]) (by simp [upH, upR, upL, up, push_cast]) (by simp [namesOk, push_cast]) (by simp [olds])
            · rintro ⟨j, W⟩ ⟨hj, hW⟩
              simp only at hj hW
              refine Nav.imp ?_
              by_cases hjl : j < (rb - ra).toNat
              · have hcd : ra + (j : Int) < rb := by omega
                have e2 := wrap_i64 (n := ra + (j : Int) + 1) (by omega) (by omega)
                have htk := runCells_take w.y ⟨ra, rb⟩ hjl
                have hZl : ((runCells w.y ⟨ra, rb⟩).take j).length = j := by rw [List.length_take, hrl]; omega
                have hWl : W.length = X.length + (Y.length + j) := by rw [hW, List.length_append, List.length_append, hZl]
                have hap : (W.length + 1) * 16 ≤ 140737488355328 := by omega
                refine awp_region cx [] fun K hK => ?_
                simp [push_cast, hw, hr, Row.row, Run.row]
                repeat (refine And.intro (by clear hK; intros; first | omega | (simp_all; done) | (simp_all <;> omega)) ?_)
                refine hK _ ?_; clear hK K; refine Nav.imp ?_
                refine awp_cond (b := true) (by simp [push_cast, hcd]) (fun hb => ?_) (fun hb => ?_) <;> (refine Nav.imp ?_)
                · refine awp_region cx [] fun K hK => ?_
                  simp [push_cast, hw, hr, Row.row, Run.row, hap]
                  repeat (refine And.intro (by clear hK; intros; first | omega | (simp_all; done) | (simp_all <;> omega)) ?_)
                  refine hK _ ?_; clear hK K; refine Nav.imp ?_
                  refine awp_region cx [] fun K hK => ?_
                  simp [push_cast, e2]
                  repeat (refine And.intro (by clear hK; intros; first | omega | (simp_all; done) | (simp_all <;> omega)) ?_)
                  refine hK _ ?_; clear hK K; refine Nav.imp ?_
                  refine ⟨(j + 1, W ++ [⟨ra + j, w.y⟩]), ⟨hjl, by rw [hW, htk]; simp⟩, by simp only; omega, ?_⟩
                  refine weak_of [(0, some 0), (1, some 24)] rfl (by simp [upT, up, upL, push_cast, Int.add_assoc]) (by simp [upH, upR, upL, up, push_cast, Int.add_assoc]) (by simp [namesOk, push_cast]) (by simp [olds])
                · simp at hb
              · have hje : j = (rb - ra).toNat := by omega
                have hcd : ¬ ra + (j : Int) < rb := by omega
                have hfull : (runCells w.y ⟨ra, rb⟩).take j = runCells w.y ⟨ra, rb⟩ := List.take_of_length_le (by rw [hrl]; omega)
                rw [hfull, ← hft2] at hW
                refine awp_region cx [] fun K hK => ?_
                simp [push_cast, hw, hr, Row.row, Run.row]
                repeat (refine And.intro (by clear hK; intros; first | omega | (simp_all; done) | (simp_all <;> omega)) ?_)
                refine hK _ ?_; clear hK K; refine Nav.imp ?_
                refine awp_cond (b := false) (by simp [push_cast, hcd]) (fun hb => ?_) (fun hb => ?_) <;> (refine Nav.imp ?_)
                · simp at hb
                · refine awp_region cx [] fun K hK => ?_
                  simp [push_cast, e1]
                  repeat (refine And.intro (by clear hK; intros; first | omega | (simp_all; done) | (simp_all <;> omega)) ?_)
                  refine hK _ ?_; clear hK K; refine Nav.imp ?_
                  refine ⟨k + 1, hlk, by omega, ?_⟩
                  rw [← hW]
                  refine weak_of [(0, some 0), (1, some 1)] rfl (by simp [upT, up, upL, push_cast]) (by simp [upH, upR, upL, up, push_cast]) (by simp [namesOk, push_cast]) (by simp [olds])
          · have hkn : k = w.runs.length := by simp at hb; omega
            subst hkn
            rw [runsTo_all]
            refine awp_region cx [] fun K hK => ?_
            simp [push_cast, e0]
            repeat (refine And.intro (by clear hK; intros; first | omega | (simp_all; done) | (simp_all <;> omega)) ?_)
            refine hK _ ?_; clear hK K; refine Nav.imp ?_
            refine ⟨i + 1, hlt, by omega, ?_⟩
            rw [hft]
            refine weak_of [(0, some 0), (1, some 1)] rfl (by simp [upT, up, upL, push_cast]) (by simp [upH, upR, upL, up, push_cast]) (by simp [namesOk, push_cast]) (by simp [olds])
      · have hin : i = R.length := by simp at hb; omega
        subst hin
        rw [rowsTo_all]
        generalize regCells R = X at *
        refine awp_region cx [] fun K hK => ?_
        simp [push_cast]
        repeat (refine And.intro (by clear hK; intros; first | omega | (simp_all; done) | (simp_all <;> omega)) ?_)
        refine hK _ ?_; clear hK K; refine Nav.imp ?_
        have ht : List.take X.length (X.map Cell.row) = X.map Cell.row := List.take_of_length_le (by simp)
        simp [push_cast, ht]
end Go.Proofs.YtagakfaiimaifaaGreat

set_option linter.unusedVariables false
set_option linter.unusedSimpArgs false
set_option maxRecDepth 100000
namespace Go.Proofs.YtagakfaiimaifaaGreat
open Go.Abs

/-! The horizontal tracks of a region, and the other cells. -/
def trkOf (y : Int) (r : Run) : List Track := if r.b = r.a + 1 then [] else [⟨2, false, runCells y r⟩]
def sngOf (y : Int) (r : Run) : List Cell := if r.b = r.a + 1 then [⟨r.a, y⟩] else []
def rowTrk (w : Row) : List Track := w.runs.flatMap (trkOf w.y)
def rowSng (w : Row) : List Cell := w.runs.flatMap (sngOf w.y)
def regTrk (R : List Row) : List Track := R.flatMap rowTrk
def regSng (R : List Row) : List Cell := R.flatMap rowSng

theorem flat_le {α β γ : Type} {f : α → List β} {g : α → List γ} : ∀ {l : List α}, (∀ x ∈ l, (f x).length ≤ (g x).length) → (l.flatMap f).length ≤ (l.flatMap g).length
  | [], _ => by simp
  | x :: l, h => by
    have h1 := h x (by simp)
    have h2 := flat_le (f := f) (g := g) (l := l) fun y hy => h y (by simp [hy])
    rw [List.flatMap_cons, List.flatMap_cons, List.length_append, List.length_append]
    omega
theorem flat_sub {α β : Type} (f : α → List β) {l l' : List α} (h : l'.length ≤ l.length) (hp : l' = l.take l'.length) : (l'.flatMap f).length ≤ (l.flatMap f).length := by
  conv => rhs; rw [← List.take_append_drop l'.length l, List.flatMap_append, List.length_append]
  rw [← hp]; omega

theorem run_one {r : Run} (y : Int) (h : r.a < r.b) : (trkOf y r).length ≤ (runCells y r).length ∧ (sngOf y r).length ≤ (runCells y r).length := by
  rw [runCells_len]
  unfold trkOf sngOf
  split <;> simp <;> omega
theorem row_runs {R : List Row} (h : validR R = true) {w : Row} (hw : w ∈ R) {r : Run} (hr : r ∈ w.runs) : -4096 ≤ r.a ∧ r.a < r.b ∧ r.b ≤ 4096 := by
  obtain ⟨i, hi⟩ := List.mem_iff_getElem?.1 hw
  obtain ⟨k, hk⟩ := List.mem_iff_getElem?.1 hr
  exact fine_at (validR_at h hi).2 hk
theorem row_le {R : List Row} (h : validR R = true) {w : Row} (hw : w ∈ R) : (rowTrk w).length ≤ (rowCells w).length ∧ (rowSng w).length ≤ (rowCells w).length :=
  ⟨flat_le fun r hr => (run_one w.y (row_runs h hw hr).2.1).1, flat_le fun r hr => (run_one w.y (row_runs h hw hr).2.1).2⟩
theorem reg_le {R : List Row} (h : validR R = true) : (regTrk R).length ≤ (regCells R).length ∧ (regSng R).length ≤ (regCells R).length :=
  ⟨flat_le fun w hw => (row_le h hw).1, flat_le fun w hw => (row_le h hw).2⟩

/-- What lies before run k of row i is a part. -/
theorem part_le {α : Type} (f : Int → Run → List α) {R : List Row} {i k : Nat} {w : Row} {r : Run} (hw : R[i]? = some w) (hr : w.runs[k]? = some r) : ((R.take i).flatMap fun w => w.runs.flatMap (f w.y)).length + ((w.runs.take k).flatMap (f w.y)).length + (f w.y r).length ≤ (R.flatMap fun w => w.runs.flatMap (f w.y)).length := by
  rw [flat_split (fun w : Row => w.runs.flatMap (f w.y)) hw, List.length_append, List.length_append, flat_split (f w.y) hr, List.length_append, List.length_append]
  omega

set_option maxHeartbeats 4000000 in
theorem wide_ok (R : List Row) (hR : smallR R) (hv : validR R = true) (hn : (regCells R).length ≤ 1000000) : PX Tryz.prog 69 [.d (.agg (regRow R))] [] [] [(1, ⟨61, 3, dr ((regTrk R).map Track.row)⟩), (2, ⟨62, 2, dr ((regSng R).map Cell.row)⟩)] (.tup [.hs 1 0 (regTrk R).length, .hs 2 0 (regSng R).length]) := by
  have hl := hR.1
  refine px_of_awp cx (fn := Tryz.f69) (c := _) 0 Tryz.func69 rfl rfl (Nat.le_of_ble_eq_true rfl) rfl rfl fun Ls => ?_
  rw [Tryz.ntmps69]; refine Nav.imp ?_
  refine awp_region cx [] fun K hK => ?_
  simp [push_cast]
  repeat (refine And.intro (by clear hK; intros; first | omega | (simp_all; done) | (simp_all <;> omega)) ?_)
  refine hK _ ?_; clear hK K; refine Nav.imp ?_
  refine awp_region cx [] fun K hK => ?_
  simp [push_cast]
  repeat (refine And.intro (by clear hK; intros; first | omega | (simp_all; done) | (simp_all <;> omega)) ?_)
  refine hK _ ?_; clear hK K; refine Nav.imp ?_
  refine awp_region cx [] fun K hK => ?_
  simp [push_cast]
  repeat (refine And.intro (by clear hK; intros; first | omega | (simp_all; done) | (simp_all <;> omega)) ?_)
  refine hK _ ?_; clear hK K; refine Nav.imp ?_
  refine awp_region cx [] fun K hK => ?_
  simp [push_cast]
  repeat (refine And.intro (by clear hK; intros; first | omega | (simp_all; done) | (simp_all <;> omega)) ?_)
  refine hK _ ?_; clear hK K; refine Nav.imp ?_
  refine awp_region cx [] fun K hK => ?_
  simp [push_cast]
  repeat (refine And.intro (by clear hK; intros; first | omega | (simp_all; done) | (simp_all <;> omega)) ?_)
  refine hK _ ?_; clear hK K; refine Nav.imp ?_
  refine awp_loop (β := Nat × List Track × List Cell × List Cell) (fun b => ⟨66, [(4, .hs 1 0 b.2.1.length), (5, .hs 2 0 b.2.2.1.length), (6, .hs 3 0 b.2.2.2.length), (13, .d (encRows R)), (14, .d (.int .i64 R.length)), (15, .d (.int .i64 b.1))], [(1, some ⟨61, 3, dr (b.2.1.map Track.row)⟩), (2, some ⟨62, 2, dr (b.2.2.1.map Cell.row)⟩), (3, some ⟨62, 2, dr (b.2.2.2.map Cell.row)⟩)], 4⟩)
    (fun b => b.1 ≤ R.length ∧ b.2.1 = (R.take b.1).flatMap rowTrk ∧ b.2.2.1 = (R.take b.1).flatMap rowSng) (fun b => R.length - b.1) (0, [], [], []) ?_ ⟨Nat.zero_le _, by simp, by simp⟩ ?_
  · refine weak_of [(1, none), (2, none), (3, none)] rfl (by simp [upT, up, upL, push_cast]) (by simp [upH, upR, upL, up, push_cast]) (by simp [namesOk, push_cast]) (by simp [olds])
  · rintro ⟨i, A, B, C⟩ ⟨hi, hA, hB⟩
    simp only at hi hA hB
    refine Nav.imp ?_
    refine awp_region cx [] fun K hK => ?_
    simp [push_cast]
    repeat (refine And.intro (by clear hK; intros; first | omega | (simp_all; done) | (simp_all <;> omega)) ?_)
    refine hK _ ?_; clear hK K; refine Nav.imp ?_
    refine awp_cond (b := decide ((i : Int) < R.length)) (by simp [push_cast]) (fun hb => ?_) (fun hb => ?_) <;> (refine Nav.imp ?_)
    · have hlt : i < R.length := by simpa using hb
      obtain ⟨w, hw⟩ := getq hlt
      have e0 := wrap_i64 (n := (i : Int) + 1) (by omega) (by omega)
      have hwl := hR.2 w (List.mem_of_getElem? hw)
      have hwb := (validR_at hv hw).1
      refine awp_region cx [] fun K hK => ?_
      simp [push_cast, hw, Row.row]
      repeat (refine And.intro (by clear hK; intros; first | omega | (simp_all; done) | (simp_all <;> omega)) ?_)
      refine hK _ ?_; clear hK K; refine Nav.imp ?_
      refine awp_region cx [] fun K hK => ?_
      simp [push_cast, hw, Row.row]
      repeat (refine And.intro (by clear hK; intros; first | omega | (simp_all; done) | (simp_all <;> omega)) ?_)
      refine hK _ ?_; clear hK K; refine Nav.imp ?_
      refine awp_loop (β := Nat × List Track × List Cell × List Cell) (fun b => ⟨66, [(4, .hs 1 0 b.2.1.length), (5, .hs 2 0 b.2.2.1.length), (6, .hs 3 0 b.2.2.2.length), (8, .ptr 4 0 0), (13, .d (encRows R)), (14, .d (.int .i64 R.length)), (15, .d (.int .i64 i)), (20, .d (encRuns w.runs)), (21, .d (.int .i64 w.runs.length)), (22, .d (.int .i64 b.1))], [(1, some ⟨61, 3, dr (b.2.1.map Track.row)⟩), (2, some ⟨62, 2, dr (b.2.2.1.map Cell.row)⟩), (3, some ⟨62, 2, dr (b.2.2.2.map Cell.row)⟩), (4, some ⟨52, 2, [w.row.map .d]⟩)], 5⟩)
        (fun b => b.1 ≤ w.runs.length ∧ b.2.1 = A ++ (w.runs.take b.1).flatMap (trkOf w.y) ∧ b.2.2.1 = B ++ (w.runs.take b.1).flatMap (sngOf w.y)) (fun b => w.runs.length - b.1) (0, A, B, C) ?_ ⟨Nat.zero_le _, by simp, by simp⟩ ?_
      · refine weak_of [(1, some 1), (2, some 2), (3, some 3), (4, some 7)] rfl (by simp [upT, up, upL, push_cast, Row.row]) (by simp [upH, upR, upL, up, push_cast, Row.row]) (by simp [namesOk, push_cast]) (by simp [olds])
      · rintro ⟨k, A', B', C'⟩ ⟨hk, hA', hB'⟩
        simp only at hk hA' hB'
        refine Nav.imp ?_
        refine awp_region cx [] fun K hK => ?_
        simp [push_cast]
        repeat (refine And.intro (by clear hK; intros; first | omega | (simp_all; done) | (simp_all <;> omega)) ?_)
        refine hK _ ?_; clear hK K; refine Nav.imp ?_
        refine awp_cond (b := decide ((k : Int) < w.runs.length)) (by simp [push_cast]) (fun hb => ?_) (fun hb => ?_) <;> (refine Nav.imp ?_)
        · have hlk : k < w.runs.length := by simpa using hb
          obtain ⟨r, hr⟩ := getq hlk
          have e1 := wrap_i64 (n := (k : Int) + 1) (by omega) (by omega)
          have hrb := row_runs hv (List.mem_of_getElem? hw) (List.mem_of_getElem? hr)
          have hAl : A'.length ≤ 1000000 := by
            have h1 := part_le trkOf hw hr
            have h2 := (reg_le hv).1
            have h3 : A'.length = ((R.take i).flatMap fun w => w.runs.flatMap (trkOf w.y)).length + ((w.runs.take k).flatMap (trkOf w.y)).length := by rw [hA', hA, List.length_append]; rfl
            have h4 : (regTrk R).length = (R.flatMap fun w => w.runs.flatMap (trkOf w.y)).length := rfl
            omega
          have hBl : B'.length ≤ 1000000 := by
            have h1 := part_le sngOf hw hr
            have h2 := (reg_le hv).2
            have h3 : B'.length = ((R.take i).flatMap fun w => w.runs.flatMap (sngOf w.y)).length + ((w.runs.take k).flatMap (sngOf w.y)).length := by rw [hB', hB, List.length_append]; rfl
            have h4 : (regSng R).length = (R.flatMap fun w => w.runs.flatMap (sngOf w.y)).length := rfl
            omega
          have hcl : (runCells w.y r).length ≤ 1000000 := by rw [runCells_len]; omega
          have hnA : (w.runs.take (k + 1)).flatMap (trkOf w.y) = (w.runs.take k).flatMap (trkOf w.y) ++ trkOf w.y r := flat_take _ hr
          have hnB : (w.runs.take (k + 1)).flatMap (sngOf w.y) = (w.runs.take k).flatMap (sngOf w.y) ++ sngOf w.y r := flat_take _ hr
          have hrl := runCells_len w.y r
          have htk := fun j => @runCells_take w.y r j
          have et : trkOf w.y r = if r.b = r.a + 1 then [] else [⟨2, false, runCells w.y r⟩] := rfl
          have es : sngOf w.y r = if r.b = r.a + 1 then [⟨r.a, w.y⟩] else [] := rfl
          obtain ⟨ra, rb⟩ := r
          simp only at hrb hrl htk et es
          have e2 := wrap_i64 (n := ra + 1) (by omega) (by omega)
          have hA40 : (A'.length + 1) * 40 ≤ 140737488355328 := by omega
          have hB16 : (B'.length + 1) * 16 ≤ 140737488355328 := by omega
          refine awp_region cx [] fun K hK => ?_
          simp [push_cast, hr, Run.row]
          repeat (refine And.intro (by clear hK; intros; first | omega | (simp_all; done) | (simp_all <;> omega)) ?_)
          refine hK _ ?_; clear hK K; refine Nav.imp ?_
          refine awp_region cx [] fun K hK => ?_
          simp [push_cast, e2, Run.row]
          repeat (refine And.intro (by clear hK; intros; first | omega | (simp_all; done) | (simp_all <;> omega)) ?_)
          refine hK _ ?_; clear hK K; refine Nav.imp ?_
          refine awp_cond (by simp [push_cast] <;> exact rfl) (fun hb => ?_) (fun hb => ?_) <;> (refine Nav.imp ?_)
          · simp at hb
            rw [if_pos hb] at et es
            refine awp_region cx [] fun K hK => ?_
            simp [push_cast, Row.row, Run.row, hB16]
            repeat (refine And.intro (by clear hK; intros; first | omega | (simp_all; done) | (simp_all <;> omega)) ?_)
            refine hK _ ?_; clear hK K; refine Nav.imp ?_
            refine awp_region cx [] fun K hK => ?_
            simp [push_cast, e1]
            repeat (refine And.intro (by clear hK; intros; first | omega | (simp_all; done) | (simp_all <;> omega)) ?_)
            refine hK _ ?_; clear hK K; refine Nav.imp ?_
            refine ⟨(k + 1, A', B' ++ [⟨ra, w.y⟩], C'), ⟨hlk, by rw [hA', hnA, et]; simp, by rw [hB', hnB, es]; simp⟩, by simp only; omega, ?_⟩
            refine weak_of [(1, some 1), (2, some 23), (3, some 3), (4, some 4)] rfl (by simp [upT, up, upL, push_cast, Row.row]) (by simp [upH, upR, upL, up, push_cast, Row.row]) (by simp [namesOk, push_cast]) (by simp [olds])
          · simp at hb
            rw [if_neg hb] at et es
            refine awp_region cx [] fun K hK => ?_
            simp [push_cast]
            repeat (refine And.intro (by clear hK; intros; first | omega | (simp_all; done) | (simp_all <;> omega)) ?_)
            refine hK _ ?_; clear hK K; refine Nav.imp ?_
            refine awp_trunc 3 0 rfl (by rfl) fun K hK => ?_
            simp [push_cast]
            refine hK _ ?_; clear hK K; refine Nav.imp ?_
            refine awp_region cx [] fun K hK => ?_
            simp [push_cast, Run.row]
            repeat (refine And.intro (by clear hK; intros; first | omega | (simp_all; done) | (simp_all <;> omega)) ?_)
            refine hK _ ?_; clear hK K; refine Nav.imp ?_
            refine awp_loop (β := Nat × List Cell) (fun b => ⟨66, [(4, .hs 1 0 A'.length), (5, .hs 2 0 B'.length), (6, .hs 3 0 b.2.length), (8, .ptr 4 0 0), (10, .ptr 5 0 0), (11, .d (.int .i64 (ra + b.1))), (13, .d (encRows R)), (14, .d (.int .i64 R.length)), (15, .d (.int .i64 i)), (20, .d (encRuns w.runs)), (21, .d (.int .i64 w.runs.length)), (22, .d (.int .i64 k))], [(1, some ⟨61, 3, dr (A'.map Track.row)⟩), (2, some ⟨62, 2, dr (B'.map Cell.row)⟩), (3, some ⟨62, 2, dr (b.2.map Cell.row)⟩), (4, some ⟨52, 2, [w.row.map .d]⟩), (5, some ⟨54, 2, [(Run.row ⟨ra, rb⟩).map .d]⟩)], 6⟩)
              (fun b => b.1 ≤ (rb - ra).toNat ∧ b.2 = (runCells w.y ⟨ra, rb⟩).take b.1) (fun b => (rb - ra).toNat - b.1) (0, []) ?_ ⟨Nat.zero_le _, by simp⟩ ?_
            · refine weak_of [(1, some 1), (2, some 2), (3, some 3), (4, some 4), (5, some 8)] rfl (by simp [upT, up, upL, push_cast, Row.row, Run.row]) (by simp [upH, upR, upL, up, push_cast, Row.row, Run.row]) (by simp [namesOk, push_cast]) (by simp [olds])
            · rintro ⟨j, W⟩ ⟨hj, hW⟩
              simp only at hj hW
              refine Nav.imp ?_
              have hWl : W.length = j := by rw [hW, List.length_take, hrl]; omega
              by_cases hjl : j < (rb - ra).toNat
              · have hcd : ra + (j : Int) < rb := by omega
                have e3 := wrap_i64 (n := ra + (j : Int) + 1) (by omega) (by omega)
                have hap : (W.length + 1) * 16 ≤ 140737488355328 := by omega
                have htk' := htk j hjl
                refine awp_region cx [] fun K hK => ?_
                simp [push_cast, Run.row]
                repeat (refine And.intro (by clear hK; intros; first | omega | (simp_all; done) | (simp_all <;> omega)) ?_)
                refine hK _ ?_; clear hK K; refine Nav.imp ?_
                refine awp_cond (b := true) (by simp [push_cast, hcd]) (fun hb => ?_) (fun hb => ?_) <;> (refine Nav.imp ?_)
                · refine awp_region cx [] fun K hK => ?_
                  simp [push_cast, Row.row, hap]
                  repeat (refine And.intro (by clear hK; intros; first | omega | (simp_all; done) | (simp_all <;> omega)) ?_)
                  refine hK _ ?_; clear hK K; refine Nav.imp ?_
                  refine awp_region cx [] fun K hK => ?_
                  simp [push_cast, e3]
                  repeat (refine And.intro (by clear hK; intros; first | omega | (simp_all; done) | (simp_all <;> omega)) ?_)
                  refine hK _ ?_; clear hK K; refine Nav.imp ?_
                  refine ⟨(j + 1, W ++ [⟨ra + j, w.y⟩]), ⟨hjl, by rw [hW, htk']⟩, by simp only; omega, ?_⟩
                  refine weak_of [(1, some 1), (2, some 2), (3, some 16), (4, some 4), (5, some 5)] rfl (by simp [upT, up, upL, push_cast, Row.row, Run.row, Int.add_assoc]) (by simp [upH, upR, upL, up, push_cast, Row.row, Run.row, Int.add_assoc]) (by simp [namesOk, push_cast]) (by simp [olds])
                · simp at hb
              · have hje : j = (rb - ra).toNat := by omega
                have hcd : ¬ ra + (j : Int) < rb := by omega
                have hfull : W = runCells w.y ⟨ra, rb⟩ := by rw [hW]; exact List.take_of_length_le (by rw [hrl]; omega)
                have c1 := path_ok W (by rw [hfull]; exact hcl)
                rw [← hfull] at et
                have hWt : List.take W.length (W.map Cell.row) = W.map Cell.row := List.take_of_length_le (by simp)
                refine awp_region cx [] fun K hK => ?_
                simp [push_cast, Run.row]
                repeat (refine And.intro (by clear hK; intros; first | omega | (simp_all; done) | (simp_all <;> omega)) ?_)
                refine hK _ ?_; clear hK K; refine Nav.imp ?_
                refine awp_cond (b := false) (by simp [push_cast, hcd]) (fun hb => ?_) (fun hb => ?_) <;> (refine Nav.imp ?_)
                · simp at hb
                · refine awp_region cx [(2, .f (.agg (Track.row ⟨2, false, W⟩)))] fun K hK => ?_
                  simp [push_cast, c1, hWt, hA40]
                  repeat (refine And.intro (by clear hK; intros; first | omega | (simp_all; done) | (simp_all <;> omega)) ?_)
                  refine hK _ ?_; clear hK K; refine Nav.imp ?_
                  refine awp_region cx [] fun K hK => ?_
                  simp [push_cast, e1]
                  repeat (refine And.intro (by clear hK; intros; first | omega | (simp_all; done) | (simp_all <;> omega)) ?_)
                  refine hK _ ?_; clear hK K; refine Nav.imp ?_
                  refine ⟨(k + 1, A' ++ [⟨2, false, W⟩], B', W), ⟨hlk, by rw [hA', hnA, et]; simp, by rw [hB', hnB, es]; simp⟩, by simp only; omega, ?_⟩
                  refine weak_of [(1, some 14), (2, some 2), (3, some 3), (4, some 4)] rfl (by simp [upT, up, upL, push_cast, Row.row]) (by simp [upH, upR, upL, up, push_cast, Row.row]) (by simp [namesOk, push_cast]) (by simp [olds])
        · have hkn : k = w.runs.length := by simp at hb; omega
          subst hkn
          rw [List.take_length] at hA' hB'
          refine awp_region cx [] fun K hK => ?_
          simp [push_cast, e0]
          repeat (refine And.intro (by clear hK; intros; first | omega | (simp_all; done) | (simp_all <;> omega)) ?_)
          refine hK _ ?_; clear hK K; refine Nav.imp ?_
          refine ⟨(i + 1, A', B', C'), ⟨hlt, by rw [hA', hA, flat_take rowTrk hw]; rfl, by rw [hB', hB, flat_take rowSng hw]; rfl⟩, by simp only; omega, ?_⟩
          refine weak_of [(1, some 1), (2, some 2), (3, some 3)] rfl (by simp [upT, up, upL, push_cast]) (by simp [upH, upR, upL, up, push_cast]) (by simp [namesOk, push_cast]) (by simp [olds])
    · have hin : i = R.length := by simp at hb; omega
      subst hin
      rw [List.take_length] at hA hB
      have hA2 : regTrk R = A := hA.symm
      have hB2 : regSng R = B := hB.symm
      rw [hA2, hB2]
      refine awp_region cx [] fun K hK => ?_
      simp [push_cast]
      repeat (refine And.intro (by clear hK; intros; first | omega | (simp_all; done) | (simp_all <;> omega)) ?_)
      refine hK _ ?_; clear hK K; refine Nav.imp ?_
      first | refine rx_r [(1, 1), (2, 2)] ?_ | refine rx_n [(1, 1), (2, 2)] ?_
      simp [push_cast]
      try decide
end Go.Proofs.YtagakfaiimaifaaGreat

set_option linter.unusedVariables false
set_option linter.unusedSimpArgs false
set_option maxRecDepth 100000
namespace Go.Proofs.YtagakfaiimaifaaGreat
open Go.Abs

/-! Where the cells of a valid region lie. -/
theorem mem_runCells {y : Int} {r : Run} {c : Cell} : c ∈ runCells y r ↔ c.y = y ∧ r.a ≤ c.x ∧ c.x < r.b := by
  simp only [runCells, List.mem_map, List.mem_range]
  constructor
  · rintro ⟨k, hk, rfl⟩
    exact ⟨rfl, by simp only; omega, by simp only; omega⟩
  · rintro ⟨h1, h2, h3⟩
    refine ⟨(c.x - r.a).toNat, by omega, ?_⟩
    cases c
    simp only [Cell.mk.injEq] at *
    exact ⟨by omega, h1.symm⟩
theorem mem_regCells {R : List Row} {c : Cell} : c ∈ regCells R ↔ ∃ w ∈ R, c.y = w.y ∧ ∃ r ∈ w.runs, r.a ≤ c.x ∧ c.x < r.b := by
  simp only [regCells, rowCells, List.mem_flatMap, mem_runCells]
  constructor
  · rintro ⟨w, hw, r, hr, h1, h2, h3⟩
    exact ⟨w, hw, h1, r, hr, h2, h3⟩
  · rintro ⟨w, hw, h1, r, hr, h2, h3⟩
    exact ⟨w, hw, r, hr, h1, h2, h3⟩

theorem rows_lt {R : List Row} (h : validR R = true) : ∀ (j i : Nat) (w p : Row), i < j → R[j]? = some w → R[i]? = some p → p.y < w.y
  | 0, i, w, p, hij, _, _ => by omega
  | j + 1, i, w, p, hij, hw, hp => by
    by_cases e : i = j
    · subst e; exact validR_gap h hw hp
    · have hj := (List.getElem?_eq_some_iff.1 hw).1
      obtain ⟨q, hq⟩ : ∃ q, R[j]? = some q := getq (by omega)
      have h1 := rows_lt h j i q p (by omega) hq hp
      have h2 := validR_gap h hw hq
      omega
theorem rows_eq {R : List Row} (h : validR R = true) {w p : Row} (hw : w ∈ R) (hp : p ∈ R) (he : w.y = p.y) : w = p := by
  obtain ⟨j, hj⟩ := List.mem_iff_getElem?.1 hw
  obtain ⟨i, hi⟩ := List.mem_iff_getElem?.1 hp
  rcases Nat.lt_trichotomy i j with hlt | e | hlt
  · have := rows_lt h j i w p hlt hj hi; omega
  · subst e; rw [hj] at hi; exact Option.some.inj hi
  · have := rows_lt h i j p w hlt hi hj; omega
theorem runs_lt {l : List Run} (h : fine l = true) : ∀ (j i : Nat) (r p : Run), i < j → l[j]? = some r → l[i]? = some p → p.b < r.a
  | 0, i, r, p, hij, _, _ => by omega
  | j + 1, i, r, p, hij, hr, hp => by
    by_cases e : i = j
    · subst e; exact fine_gap h hr hp
    · have hj := (List.getElem?_eq_some_iff.1 hr).1
      obtain ⟨q, hq⟩ : ∃ q, l[j]? = some q := getq (by omega)
      have h1 := runs_lt h j i q p (by omega) hq hp
      have h2 := fine_gap h hr hq
      have h3 := fine_at h hq
      omega
/-- Runs of a row are apart: none ends where another one begins. -/
theorem runs_eq {l : List Run} (h : fine l = true) {r p : Run} (hr : r ∈ l) (hp : p ∈ l) (h1 : p.a ≤ r.b) (h2 : r.a ≤ p.b) : r = p := by
  obtain ⟨j, hj⟩ := List.mem_iff_getElem?.1 hr
  obtain ⟨i, hi⟩ := List.mem_iff_getElem?.1 hp
  rcases Nat.lt_trichotomy i j with hlt | e | hlt
  · have := runs_lt h j i r p hlt hj hi; omega
  · subst e; rw [hj] at hi; exact Option.some.inj hi
  · have := runs_lt h i j p r hlt hi hj; omega
theorem row_fine {R : List Row} (h : validR R = true) {w : Row} (hw : w ∈ R) : (-4096 ≤ w.y ∧ w.y < 4096) ∧ fine w.runs = true := by
  obtain ⟨i, hi⟩ := List.mem_iff_getElem?.1 hw
  exact validR_at h hi
/-- A cell beside a run, in its row, is in the run or in none. -/
theorem mem_near {R : List Row} (h : validR R = true) {w : Row} (hw : w ∈ R) {r : Run} (hr : r ∈ w.runs) {x : Int} (h1 : r.a - 1 ≤ x) (h2 : x ≤ r.b) : (⟨x, w.y⟩ : Cell) ∈ regCells R ↔ r.a ≤ x ∧ x < r.b := by
  rw [mem_regCells]
  constructor
  · rintro ⟨w', hw', hy, r', hr', h3, h4⟩
    simp only at hy h3 h4
    have := rows_eq h hw hw' hy
    subst this
    have := runs_eq (row_fine h hw).2 hr hr' (by omega) (by omega)
    subst this
    exact ⟨h3, h4⟩
  · rintro ⟨h3, h4⟩
    exact ⟨w, hw, rfl, r, hr, h3, h4⟩
theorem cells_on {R : List Row} (h : validR R = true) {c : Cell} (hc : c ∈ regCells R) : onG c = true := by
  obtain ⟨w, hw, hy, r, hr, h1, h2⟩ := mem_regCells.1 hc
  have h3 := row_fine h hw
  have h4 := row_runs h hw hr
  simp [onG]; omega

/-! Tracks through neighbors, as the reference draws them. -/
def rgt (c : Cell) : Cell := ⟨c.x + 1, c.y⟩
def upc (c : Cell) : Cell := ⟨c.x, c.y + 1⟩
def hN (l : List Cell) : Nat → Cell → List Cell
  | 0, _ => []
  | n + 1, c => if c ∈ l then c :: hN l n (rgt c) else []
def hch (l : List Cell) (c : Cell) : List Cell := hN l (4096 - c.x).toNat c
def vN (l : List Cell) : Nat → Cell → List Cell
  | 0, _ => []
  | n + 1, c => if c ∈ l then c :: vN l n (upc c) else []
def vch (l : List Cell) (c : Cell) : List Cell := vN l (4096 - c.y).toNat c
def hst (l : List Cell) (c : Cell) : Bool := !decide ((⟨c.x - 1, c.y⟩ : Cell) ∈ l)
def vst (l : List Cell) (c : Cell) : Bool := !decide ((⟨c.x, c.y - 1⟩ : Cell) ∈ l)
def trk (l : List Cell) : Track := ⟨2, false, l⟩

theorem hch_in {l : List Cell} {c : Cell} (h : c ∈ l) (hx : c.x < 4096) : hch l c = c :: hch l (rgt c) := by
  unfold hch
  obtain ⟨n, hn⟩ : ∃ n, (4096 - c.x).toNat = n + 1 := ⟨(4096 - c.x).toNat - 1, by omega⟩
  have h2 : (4096 - (rgt c).x).toNat = n := by simp only [rgt]; omega
  rw [hn, h2]
  simp [hN, h]
theorem hch_out {l : List Cell} {c : Cell} (h : c ∉ l) : hch l c = [] := by
  unfold hch
  cases (4096 - c.x).toNat <;> simp [hN, h]
theorem vch_in {l : List Cell} {c : Cell} (h : c ∈ l) (hx : c.y < 4096) : vch l c = c :: vch l (upc c) := by
  unfold vch
  obtain ⟨n, hn⟩ : ∃ n, (4096 - c.y).toNat = n + 1 := ⟨(4096 - c.y).toNat - 1, by omega⟩
  have h2 : (4096 - (upc c).y).toNat = n := by simp only [upc]; omega
  rw [hn, h2]
  simp [vN, h]
theorem vch_out {l : List Cell} {c : Cell} (h : c ∉ l) : vch l c = [] := by
  unfold vch
  cases (4096 - c.y).toNat <;> simp [vN, h]
theorem vN_congr {l l' : List Cell} (h : ∀ c, c ∈ l ↔ c ∈ l') : ∀ (n : Nat) (c : Cell), vN l n c = vN l' n c
  | 0, _ => rfl
  | n + 1, c => by simp only [vN, h c, vN_congr h n]
theorem vch_congr {l l' : List Cell} (h : ∀ c, c ∈ l ↔ c ∈ l') (c : Cell) : vch l c = vch l' c := vN_congr h _ c
theorem vst_congr {l l' : List Cell} (h : ∀ c, c ∈ l ↔ c ∈ l') (c : Cell) : vst l c = vst l' c := by simp only [vst, h]

theorem runCells_get (y : Int) (r : Run) {j : Nat} (h : j < (r.b - r.a).toNat) : (runCells y r)[j]? = some ⟨r.a + j, y⟩ := by simp [runCells, h]
theorem flat_congr {α β : Type} {f g : α → List β} : ∀ {l : List α}, (∀ x ∈ l, f x = g x) → l.flatMap f = l.flatMap g
  | [], _ => rfl
  | x :: l, h => by rw [List.flatMap_cons, List.flatMap_cons, h x (by simp), flat_congr fun y hy => h y (by simp [hy])]

/-- Along a run. -/
theorem hch_run {R : List Row} (h : validR R = true) {w : Row} (hw : w ∈ R) {r : Run} (hr : r ∈ w.runs) : ∀ (n j : Nat), n + j = (r.b - r.a).toNat → hch (regCells R) ⟨r.a + j, w.y⟩ = (runCells w.y r).drop j
  | 0, j, hj => by
    have hrb := row_runs h hw hr
    rw [hch_out, List.drop_of_length_le (by rw [runCells_len]; omega)]
    rw [mem_near h hw hr (by omega) (by omega)]
    omega
  | n + 1, j, hj => by
    have hrb := row_runs h hw hr
    have hm : (⟨r.a + j, w.y⟩ : Cell) ∈ regCells R := (mem_near h hw hr (by omega) (by omega)).2 ⟨by omega, by omega⟩
    have ih := hch_run h hw hr n (j + 1) (by omega)
    rw [hch_in hm (by simp only; omega), drop_get (runCells_get w.y r (show j < (r.b - r.a).toNat by omega))]
    congr 1
    rw [← ih]
    simp only [rgt]
    congr 2
    omega
theorem hch_start {R : List Row} (h : validR R = true) {w : Row} (hw : w ∈ R) {r : Run} (hr : r ∈ w.runs) : hch (regCells R) ⟨r.a, w.y⟩ = runCells w.y r := by
  have := hch_run h hw hr (r.b - r.a).toNat 0 (by omega)
  simpa using this

def isLong (l : List Cell) : Bool := decide (1 < l.length)
/-- What the reference makes of a cell: a track, or a cell that is left over. -/
def fT (l : List Cell) (c : Cell) : List Track := if hst l c then (if isLong (hch l c) then [trk (hch l c)] else []) else []
def fS (l : List Cell) (c : Cell) : List Cell := if hst l c then (if isLong (hch l c) then [] else [c]) else []

theorem run_parts {R : List Row} (h : validR R = true) {w : Row} (hw : w ∈ R) {r : Run} (hr : r ∈ w.runs) : (runCells w.y r).flatMap (fT (regCells R)) = trkOf w.y r ∧ (runCells w.y r).flatMap (fS (regCells R)) = sngOf w.y r := by
  have hrb := row_runs h hw hr
  have hc := hch_start h hw hr
  have hrl := runCells_len w.y r
  obtain ⟨n, hn⟩ : ∃ n, (r.b - r.a).toNat = n + 1 := ⟨(r.b - r.a).toNat - 1, by omega⟩
  have hcons : runCells w.y r = ⟨r.a, w.y⟩ :: (List.range n).map fun k : Nat => (⟨r.a + (k + 1), w.y⟩ : Cell) := by
    unfold runCells
    rw [hn, List.range_succ_eq_map, List.map_cons, List.map_map]
    congr 1
    simp
  have h0 : hst (regCells R) ⟨r.a, w.y⟩ = true := by
    simp only [hst, Bool.not_eq_true', decide_eq_false_iff_not]
    rw [mem_near h hw hr (by omega) (by omega)]
    omega
  have h1 : ∀ c ∈ (List.range n).map fun k : Nat => (⟨r.a + (k + 1), w.y⟩ : Cell), hst (regCells R) c = false := by
    intro c hc
    obtain ⟨k, hk, rfl⟩ := List.mem_map.1 hc
    have hk : k < n := by simpa using hk
    simp only [hst, Bool.not_eq_false', decide_eq_true_eq]
    rw [mem_near h hw hr (by omega) (by omega)]
    omega
  have e0 : ∀ {β : Type} (f : Cell → List β), (∀ c, hst (regCells R) c = false → f c = []) → ((List.range n).map fun k : Nat => (⟨r.a + (k + 1), w.y⟩ : Cell)).flatMap f = [] := fun f hf => by
    rw [List.flatMap_eq_nil_iff]
    exact fun c hc => hf c (h1 c hc)
  have hl : isLong (runCells w.y r) = !decide (r.b = r.a + 1) := by
    simp only [isLong, hrl]
    by_cases e : r.b = r.a + 1
    · simp [e]; omega
    · simp [e]; omega
  constructor
  · conv => lhs; rw [hcons, List.flatMap_cons, e0 (fT (regCells R)) fun c hc => by simp [fT, hc]]
    simp only [fT, h0, hc, hl, if_true, trkOf, trk]
    by_cases e : r.b = r.a + 1 <;> simp [e]
  · conv => lhs; rw [hcons, List.flatMap_cons, e0 (fS (regCells R)) fun c hc => by simp [fS, hc]]
    simp only [fS, h0, hc, hl, if_true, sngOf]
    by_cases e : r.b = r.a + 1 <;> simp [e]

theorem cells_flat {β : Type} (R : List Row) (F : Cell → List β) : (regCells R).flatMap F = R.flatMap fun w => w.runs.flatMap fun r => (runCells w.y r).flatMap F := by
  unfold regCells
  rw [List.flatMap_assoc]
  refine flat_congr fun w _ => ?_
  unfold rowCells
  rw [List.flatMap_assoc]
theorem ref_trk {R : List Row} (h : validR R = true) : (regCells R).flatMap (fT (regCells R)) = regTrk R ∧ (regCells R).flatMap (fS (regCells R)) = regSng R := by
  constructor
  · rw [cells_flat]
    exact flat_congr fun w hw => flat_congr fun r hr => (run_parts h hw hr).1
  · rw [cells_flat]
    exact flat_congr fun w hw => flat_congr fun r hr => (run_parts h hw hr).2
theorem sng_mem {R : List Row} (h : validR R = true) {c : Cell} (hc : c ∈ regSng R) : c ∈ regCells R := by
  rw [← (ref_trk h).2] at hc
  obtain ⟨d, hd, hcd⟩ := List.mem_flatMap.1 hc
  simp only [fS] at hcd
  split at hcd
  · split at hcd
    · simp at hcd
    · simp at hcd; rw [hcd]; exact hd
  · simp at hcd
end Go.Proofs.YtagakfaiimaifaaGreat

set_option linter.unusedVariables false
set_option linter.unusedSimpArgs false
set_option maxRecDepth 100000
namespace Go.Proofs.YtagakfaiimaifaaGreat
open Go.Abs

/-! The orders of cells. -/
def ltY (a b : Cell) : Prop := a.y < b.y ∨ a.y = b.y ∧ a.x < b.x
def ltX (a b : Cell) : Prop := a.x < b.x ∨ a.x = b.x ∧ a.y < b.y
def leX (a b : Cell) : Bool := decide (a.x < b.x) || (decide (a.x = b.x) && decide (a.y ≤ b.y))
def sortX (l : List Cell) : List Cell := l.mergeSort leX

theorem sortX_perm (l : List Cell) : (sortX l).Perm l := List.mergeSort_perm l leX
theorem sortX_le (l : List Cell) : (sortX l).Pairwise fun a b => leX a b = true :=
  List.pairwise_mergeSort (fun a b c h1 h2 => by simp [leX] at *; omega) (fun a b => by simp [leX]; omega) l

theorem rows_pw {R : List Row} (h : validR R = true) : R.Pairwise fun a b => a.y < b.y := by
  rw [List.pairwise_iff_getElem]
  intro i j hi hj hij
  exact rows_lt h j i R[j] R[i] hij (List.getElem?_eq_getElem hj) (List.getElem?_eq_getElem hi)
theorem runs_pw {l : List Run} (h : fine l = true) : l.Pairwise fun p r => p.b < r.a := by
  rw [List.pairwise_iff_getElem]
  intro i j hi hj hij
  exact runs_lt h j i l[j] l[i] hij (List.getElem?_eq_getElem hj) (List.getElem?_eq_getElem hi)
theorem mem_sngOf {y : Int} {r : Run} {c : Cell} (h : c ∈ sngOf y r) (hr : r.a < r.b) : c.y = y ∧ r.a ≤ c.x ∧ c.x < r.b := by
  unfold sngOf at h
  split at h
  · simp at h; subst h; exact ⟨rfl, Int.le_refl _, hr⟩
  · simp at h

theorem sng_pw {R : List Row} (h : validR R = true) : (regSng R).Pairwise ltY := by
  unfold regSng
  rw [List.pairwise_flatMap]
  refine ⟨fun w hw => ?_, ?_⟩
  · unfold rowSng
    rw [List.pairwise_flatMap]
    refine ⟨fun r hr => ?_, ?_⟩
    · unfold sngOf; split <;> simp
    · have := runs_pw (row_fine h hw).2
      refine List.Pairwise.imp_of_mem (fun {p r} hp hr hpr => ?_) this
      intro a ha b hb
      have h1 := mem_sngOf ha (row_runs h hw hp).2.1
      have h2 := mem_sngOf hb (row_runs h hw hr).2.1
      exact .inr ⟨by omega, by omega⟩
  · refine List.Pairwise.imp_of_mem (fun {w v} hw hv hwv => ?_) (rows_pw h)
    intro a ha b hb
    simp only [rowSng, List.mem_flatMap] at ha hb
    obtain ⟨r, hr, ha⟩ := ha
    obtain ⟨p, hp, hb⟩ := hb
    have h1 := mem_sngOf ha (row_runs h hw hr).2.1
    have h2 := mem_sngOf hb (row_runs h hv hp).2.1
    exact .inl (by omega)

theorem cells_pw {R : List Row} (h : validR R = true) : (regCells R).Pairwise ltY := by
  unfold regCells
  rw [List.pairwise_flatMap]
  refine ⟨fun w hw => ?_, ?_⟩
  · unfold rowCells
    rw [List.pairwise_flatMap]
    refine ⟨fun r hr => ?_, ?_⟩
    · unfold runCells
      rw [List.pairwise_map]
      exact List.Pairwise.imp (fun {a b} hab => .inr ⟨rfl, by simp only; omega⟩) List.pairwise_lt_range
    · refine List.Pairwise.imp_of_mem (fun {p r} hp hr hpr => ?_) (runs_pw (row_fine h hw).2)
      intro a ha b hb
      have h1 := mem_runCells.1 ha
      have h2 := mem_runCells.1 hb
      exact .inr ⟨by omega, by omega⟩
  · refine List.Pairwise.imp_of_mem (fun {w v} hw hv hwv => ?_) (rows_pw h)
    intro a ha b hb
    simp only [rowCells, List.mem_flatMap] at ha hb
    obtain ⟨r, hr, ha⟩ := ha
    obtain ⟨p, hp, hb⟩ := hb
    have h1 := mem_runCells.1 ha
    have h2 := mem_runCells.1 hb
    exact .inl (by omega)

theorem nodup_of_ltY {l : List Cell} (h : l.Pairwise ltY) : l.Nodup :=
  h.imp fun {a b} hab e => by subst e; simp [ltY] at hab
theorem sortX_lt {l : List Cell} (h : l.Nodup) : (sortX l).Pairwise ltX := by
  have h1 := sortX_le l
  have h2 : (sortX l).Nodup := (sortX_perm l).nodup_iff.2 h
  refine List.Pairwise.imp₂ (fun {a b} hab hne => ?_) h1 h2
  simp [leX] at hab
  unfold ltX
  by_cases e : a.x = b.x
  · refine .inr ⟨e, ?_⟩
    have : a.y ≠ b.y := fun e2 => hne (by cases a; cases b; simp at e e2; simp [e, e2])
    omega
  · exact .inl (by omega)
theorem sortX_mem {l : List Cell} (c : Cell) : c ∈ sortX l ↔ c ∈ l := (sortX_perm l).mem_iff

/-! Consecutive cells of a list ordered by columns. -/
theorem ltX_get {s : List Cell} (h : s.Pairwise ltX) {i j : Nat} {a b : Cell} (ha : s[i]? = some a) (hb : s[j]? = some b) (hij : i < j) : ltX a b := by
  obtain ⟨hi, rfl⟩ := List.getElem?_eq_some_iff.1 ha
  obtain ⟨hj, rfl⟩ := List.getElem?_eq_some_iff.1 hb
  exact (List.pairwise_iff_getElem.1 h) i j hi hj hij
theorem ltX_irrefl {a : Cell} : ¬ ltX a a := by simp [ltX]
/-- The cell above one of the list, if it is there, comes next. -/
theorem up_next {s : List Cell} (h : s.Pairwise ltX) {j : Nat} {a : Cell} (ha : s[j]? = some a) (hu : upc a ∈ s) : s[j + 1]? = some (upc a) := by
  obtain ⟨m, hm⟩ := List.mem_iff_getElem?.1 hu
  have hl : ltX a (upc a) := by simp [ltX, upc]; omega
  rcases Nat.lt_trichotomy m (j + 1) with hlt | e | hgt
  · exfalso
    by_cases e : m = j
    · subst e; rw [ha] at hm; have := Option.some.inj hm; rw [← this] at hl; exact ltX_irrefl hl
    · have := ltX_get h hm ha (by omega)
      simp [ltX, upc] at this; omega
  · rw [e] at hm; exact hm
  · exfalso
    obtain ⟨b, hb⟩ : ∃ b, s[j + 1]? = some b := getq (by have := (List.getElem?_eq_some_iff.1 hm).1; omega)
    have h1 := ltX_get h ha hb (by omega)
    have h2 := ltX_get h hb hm hgt
    simp [ltX, upc] at h1 h2; omega
/-- The cell below one of the list, if it is there, comes just before. -/
theorem down_prev {s : List Cell} (h : s.Pairwise ltX) {j : Nat} {a b : Cell} (ha : s[j]? = some a) (hb : s[j + 1]? = some b) : vst s b = true ↔ ¬ (b.x = a.x ∧ b.y = a.y + 1) := by
  simp only [vst, Bool.not_eq_true', decide_eq_false_iff_not]
  apply not_congr
  constructor
  · intro hm
    obtain ⟨m, hm⟩ := List.mem_iff_getElem?.1 hm
    have hu : upc (⟨b.x, b.y - 1⟩ : Cell) = b := by cases b; simp [upc]
    have := up_next h hm (by rw [hu]; exact List.mem_of_getElem? hb)
    rw [hu] at this
    have he : m + 1 = j + 1 := by
      rcases Nat.lt_trichotomy (m + 1) (j + 1) with hlt | e | hgt
      · exact absurd (ltX_get h this hb hlt) ltX_irrefl
      · exact e
      · exact absurd (ltX_get h hb this hgt) ltX_irrefl
    have he : m = j := by omega
    subst he
    rw [ha] at hm
    have := Option.some.inj hm
    rw [this]; exact ⟨rfl, by simp only; omega⟩
  · rintro ⟨h1, h2⟩
    have : (⟨b.x, b.y - 1⟩ : Cell) = a := by cases a; simp at h1 h2 ⊢; omega
    rw [this]; exact List.mem_of_getElem? ha

theorem vst_first {s : List Cell} (h : s.Pairwise ltX) {a : Cell} (ha : s[0]? = some a) : vst s a = true := by
  simp only [vst, Bool.not_eq_true', decide_eq_false_iff_not]
  intro hm
  obtain ⟨m, hm⟩ := List.mem_iff_getElem?.1 hm
  by_cases e : m = 0
  · subst e; rw [ha] at hm; have := Option.some.inj hm; have := congrArg Cell.y this; simp at this; omega
  · have := ltX_get h ha hm (by omega)
    simp [ltX] at this; omega

/-! What the program makes of its single cells, and what the reference does. -/
def vT (s : List Cell) (c : Cell) : List Track := if vst s c then [trk (vch s c)] else []
def upAll (s : List Cell) : List Track := s.flatMap (vT s)

theorem upAll_perm {s l : List Cell} (h : s.Perm l) : (upAll s).Perm (upAll l) := by
  have e : vT s = vT l := by
    funext c
    simp only [vT, vst_congr (fun c => h.mem_iff), vch_congr (fun c => h.mem_iff)]
  unfold upAll
  rw [e]
  exact h.flatMap_right _
theorem upT_first {s : List Cell} {c : Cell} {t : Track} (hc : c ∈ s) (hon : onG c = true) (ht : t ∈ vT s c) : t = trk (vch s c) ∧ ∃ l, t.cells = c :: l := by
  unfold vT at ht
  split at ht
  · simp at ht
    subst ht
    have := onG_bd hon
    exact ⟨rfl, _, vch_in hc (by omega)⟩
  · simp at ht
theorem upAll_mem {s : List Cell} (hon : ∀ c ∈ s, onG c = true) {t : Track} (ht : t ∈ upAll s) : ∃ c ∈ s, t = trk (vch s c) ∧ ∃ l, t.cells = c :: l := by
  obtain ⟨c, hc, h⟩ := List.mem_flatMap.1 ht
  exact ⟨c, hc, upT_first hc (hon c hc) h⟩
theorem vch_sub (s : List Cell) : ∀ (n : Nat) (c d : Cell), d ∈ vN s n c → d ∈ s
  | 0, c, d, h => by simp [vN] at h
  | n + 1, c, d, h => by
    simp only [vN] at h
    split at h
    · rename_i hc
      rcases List.mem_cons.1 h with rfl | h
      · exact hc
      · exact vch_sub s n _ d h
    · simp at h
theorem vN_len (s : List Cell) : ∀ (n : Nat) (c : Cell), (vN s n c).length ≤ n
  | 0, c => by simp [vN]
  | n + 1, c => by
    simp only [vN]
    split
    · have := vN_len s n (upc c); simp; omega
    · simp
/-- The reference's vertical tracks are ordered. -/
theorem upAll_pw {l : List Cell} (hp : l.Pairwise ltY) (hon : ∀ c ∈ l, onG c = true) : (upAll l).Pairwise fun s t => ltY ((s.cells[0]?).getD ⟨0, 0⟩) ((t.cells[0]?).getD ⟨0, 0⟩) := by
  unfold upAll
  rw [List.pairwise_flatMap]
  refine ⟨fun c hc => ?_, ?_⟩
  · unfold vT; split <;> simp
  · refine List.Pairwise.imp_of_mem (fun {a b} ha hb hab => ?_) hp
    intro s hs t ht
    obtain ⟨_, _, e1⟩ := upT_first ha (hon a ha) hs
    obtain ⟨_, _, e2⟩ := upT_first hb (hon b hb) ht
    rw [e1, e2]
    exact hab
end Go.Proofs.YtagakfaiimaifaaGreat
