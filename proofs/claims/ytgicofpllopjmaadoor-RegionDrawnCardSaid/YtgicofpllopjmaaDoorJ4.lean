/-
  Texts of this seat put together: Base, R1, S2, AbsT, AbsB, S3, S4, R2.
-/
import Derived.Test.YtgicofpllopjmaaDoorJ3
import Derived.Test.YtgicofpllopjmaaDoorRows
import Derived.Laws.Concat
import Derived.Laws.Strings3
import Derived.Laws.IdiomStrings
import Derived.Shelf.Strings.Builder1
import Derived.Shelf.Strings.Repeat
import Derived.Shelf.Strings.Count
import Derived.Shelf.Strings.Search3
import Derived.Test.YtgicofpllopjmaaDoorChecked
set_option linter.unusedVariables false
set_option linter.unusedSimpArgs false
set_option maxRecDepth 100000
namespace Go.Proofs.YtgicofpllopjmaaDoor
open Go.Abs
instance flag0 : Flag := ⟨False⟩
def tyTab : List (Nat × TI) := [
  (2, ⟨.int .i64, 1, 8, [.d (.int .i64 0)], 0⟩),
  (3, ⟨.int .i64, 1, 8, [.d (.int .i64 0)], 0⟩),
  (4, ⟨.bool, 1, 1, [.d (.bool false)], 0⟩),
  (5, ⟨.int .u8, 1, 1, [.d (.int .u8 0)], 0⟩),
  (7, ⟨.struct [(0, 1, false), (1, 1, false), (2, 1, false), (3, 1, false)], 4, 24, [.d (.int .i64 0), .d (.int .i64 0), .d (.bool false), .d (.int .u8 0)], 0⟩),
  (9, ⟨.str, 1, 16, [.d (.str ⟨#[]⟩)], 0⟩),
  (12, ⟨.int .u64, 1, 8, [.d (.int .u64 0)], 0⟩),
  (13, ⟨.struct [(0, 1, false), (1, 1, false)], 2, 24, [.d (.str ⟨#[]⟩), .d (.int .u64 0)], 0⟩),
  (15, ⟨.one, 1, 8, [.d .np], 0⟩),
  (16, ⟨.one, 1, 8, [.d .np], 0⟩),
  (17, ⟨.one, 1, 8, [.d .np], 0⟩),
  (18, ⟨.struct [(0, 1, false)], 1, 8, [.d .np], 0⟩),
  (21, ⟨.int .i32, 1, 4, [.d (.int .i32 0)], 0⟩),
  (22, ⟨.slice 40, 1, 24, [.nl], 0⟩),
  (23, ⟨.struct [(0, 1, false)], 1, 24, [.nl], 0⟩),
  (24, ⟨.struct [(0, 1, false)], 1, 24, [.nl], 0⟩),
  (28, ⟨.struct [(0, 1, false), (1, 1, false)], 2, 16, [.d (.int .i64 0), .d (.int .i64 0)], 1⟩),
  (29, ⟨.struct [(0, 1, false), (1, 1, false)], 2, 16, [.d (.int .i64 0), .d (.int .i64 0)], 1⟩),
  (30, ⟨.int .i64, 1, 8, [.d (.int .i64 0)], 0⟩),
  (35, ⟨.int .u16, 1, 2, [.d (.int .u16 0)], 0⟩),
  (36, ⟨.struct [(0, 1, false), (1, 1, false)], 2, 16, [.d (.int .i64 0), .d (.int .i64 0)], 1⟩),
  (37, ⟨.struct [(0, 1, false), (1, 1, false)], 2, 16, [.d (.int .i64 0), .d (.int .i64 0)], 1⟩),
  (38, ⟨.slice 37, 1, 24, [.nl], 0⟩),
  (39, ⟨.struct [(0, 1, false), (1, 1, false)], 2, 32, [.d (.int .i64 0), .nl], 0⟩),
  (40, ⟨.struct [(0, 1, false), (1, 1, false)], 2, 32, [.d (.int .i64 0), .nl], 0⟩),
  (47, ⟨.one, 1, 8, [.d .np], 0⟩),
  (48, ⟨.slice 5, 1, 24, [.nl], 0⟩),
  (49, ⟨.struct [(0, 1, false), (1, 1, false)], 2, 32, [.d .np, .nl], 0⟩),
  (50, ⟨.struct [(0, 1, false), (1, 1, false)], 2, 32, [.d .np, .nl], 0⟩),
  (60, ⟨.slice 29, 1, 24, [.nl], 0⟩),
  (61, ⟨.slice 9, 1, 24, [.nl], 0⟩),
  (73, ⟨.int .u64, 1, 8, [.d (.int .u64 0)], 0⟩),
  (83, ⟨.one, 1, 8, [.d .np], 0⟩),
  (88, ⟨.one, 1, 8, [.d .np], 0⟩),
  (89, ⟨.one, 1, 8, [.d .np], 0⟩),
  (97, ⟨.int .u32, 1, 4, [.d (.int .u32 0)], 0⟩),
  (100, ⟨.int .u64, 1, 8, [.d (.int .u64 0)], 0⟩),
  (103, ⟨.one, 1, 8, [.d .np], 0⟩),
  (107, ⟨.slice 3, 1, 24, [.nl], 0⟩),
  (115, ⟨.int .i64, 1, 8, [.d (.int .i64 0)], 0⟩),
  (125, ⟨.int .u64, 1, 8, [.d (.int .u64 0)], 0⟩),
  (129, ⟨.one, 1, 8, [.d .np], 0⟩),
  (133, ⟨.one, 1, 8, [.d .np], 0⟩),
  (138, ⟨.struct [(0, 1, false), (1, 1, false)], 2, 2, [.d (.int .u8 0), .d (.int .u8 0)], 1⟩),
  (139, ⟨.struct [(0, 1, false), (1, 1, false)], 2, 2, [.d (.int .u8 0), .d (.int .u8 0)], 1⟩),
  (140, ⟨.arr 16 139, 32, 32, [.d (.int .u8 0), .d (.int .u8 0), .d (.int .u8 0), .d (.int .u8 0), .d (.int .u8 0), .d (.int .u8 0), .d (.int .u8 0), .d (.int .u8 0), .d (.int .u8 0), .d (.int .u8 0), .d (.int .u8 0), .d (.int .u8 0), .d (.int .u8 0), .d (.int .u8 0), .d (.int .u8 0), .d (.int .u8 0), .d (.int .u8 0), .d (.int .u8 0), .d (.int .u8 0), .d (.int .u8 0), .d (.int .u8 0), .d (.int .u8 0), .d (.int .u8 0), .d (.int .u8 0), .d (.int .u8 0), .d (.int .u8 0), .d (.int .u8 0), .d (.int .u8 0), .d (.int .u8 0), .d (.int .u8 0), .d (.int .u8 0), .d (.int .u8 0)], 1⟩),
  (142, ⟨.struct [(0, 1, false), (1, 1, false), (2, 1, false), (3, 1, false)], 4, 40, [.d .np, .d .np, .d .np, .d (.str ⟨#[]⟩)], 0⟩),
  (149, ⟨.one, 1, 8, [.any], 0⟩),
  (152, ⟨.struct [(0, 1, false), (1, 1, false), (2, 1, false), (3, 1, false), (4, 1, false), (5, 1, false), (6, 1, false), (7, 1, false), (8, 1, false), (9, 1, false), (10, 1, false)], 11, 48, [.d (.int .u64 0), .d (.int .u64 0), .d (.int .u32 0), .d (.int .u8 0), .d (.int .u8 0), .d (.int .u8 0), .d (.int .u8 0), .any, .d .np, .d (.int .i32 0), .d (.int .i32 0)], 0⟩)]

attribute [push_cast] wpT wpD confs conflB ids idsL doOp eff fixU frzE eff0 effMove effPick pickA effAlloc effBox effBuild effBuildSlice effLoad effStore effBin effUn effConvert effField aggList effFieldAddr effIndexAddr effIndex effExtract effMakeFunc effMakeSlice sliceArgs effSlice effSliceArr chunkD effBuiltin lenA effCall effCallP calleeA effX effNilCheck rn rnL rnR dn dnL dnR rnsOk hpOk nodupB swp gone back pinT frT XC.ti touched keyed two odd even cond_true cond_false sf_move ss_move sf_assign ss_assign sf_pick ss_pick sf_alloc ss_alloc sf_box ss_box sf_build ss_build sf_buildSlice ss_buildSlice sf_load ss_load sf_store ss_store sf_nilCheck ss_nilCheck sf_binOp ss_binOp sf_unOp ss_unOp sf_convert ss_convert sf_makeFunc ss_makeFunc sf_makeSlice ss_makeSlice sf_slice ss_slice sf_fieldAddr ss_fieldAddr sf_field ss_field sf_indexAddr ss_indexAddr sf_index ss_index sf_extract ss_extract sf_lookup ss_lookup sf_mapUpdate ss_mapUpdate sf_makeInterface ss_makeInterface sf_makeMap ss_makeMap sf_len sb_move sb_assign sb_pick sb_alloc sb_box sb_build sb_buildSlice sb_load sb_store sb_nilCheck sb_binOp sb_unOp sb_convert sb_makeFunc sb_makeSlice sb_slice sb_fieldAddr sb_field sb_indexAddr sb_index sb_extract sb_lookup sb_mapUpdate sb_makeInterface sb_makeMap sb_call sf_append sf_delete effMakeMap effLookup mapRows effMapUpdate effDelete keyFits isInt zeroA sf_min sf_max sf_fun ss_call orcIds startX addAVs pinTm obs pinsOk rnL_map dnL_map rnR_dr dnR_dr dnR_app rnR_app wrap_0 wrap_1 wrap_2 wrap_n1 snap snaps resEff Res.free D.free D.frees D.freess snapF snapsF dstRows srcRows cellsA takeRow TI.isAgg mkAgg allD fillA putCells chunk rep eqD cav zav find pushL St.get St.obj St.put St.app St.eval St.guard strip optOb stripOk sg_move so_move sg_assign so_assign sg_alloc so_alloc sg_box so_box sg_build so_build sg_buildSlice so_buildSlice sg_load so_load sg_store so_store sg_nilCheck so_nilCheck sg_binOp so_binOp sg_unOp so_unOp sg_convert so_convert sg_makeFunc so_makeFunc sg_makeSlice so_makeSlice sg_slice so_slice sg_fieldAddr so_fieldAddr sg_field so_field sg_indexAddr so_indexAddr sg_index so_index sg_extract so_extract sg_call so_call sg_lookup so_lookup sg_mapUpdate so_mapUpdate sg_makeInterface so_makeInterface sg_makeMap so_makeMap sg_pick so_pick isNil notA allD_map allS allS_map mkAgg_map upR_dr rowsD_dr dr_length dr_nil dr_cons dr_append dr_at dr_take dr_drop dr_set upR_app upR_set rowsD_app rowsD take_map_len Op.operands Call.operands Abs.start addParams nbf seqQ blockQ retQ resAs oneOf resOk tyTab po_binOp po_index po_slice po_convert po_call po_lookup po_load po_store effExt

theorem cx : Ctx Tryd.prog (find tyTab) := ctx_of_table tyTab (by kernel_rfl)
theorem mixed : Tryd.prog.follows .mixedOrders = true := by kernel_rfl

structure Cell where
  x : Int
  y : Int
  deriving DecidableEq

abbrev Cell.row (c : Cell) : List D := [.int .i64 c.x, .int .i64 c.y]
abbrev encCells (l : List Cell) : D := .sl (l.map Cell.row)

structure Track where
  role : Int
  closed : Bool
  cells : List Cell
  deriving DecidableEq

abbrev Track.row (t : Track) : List D := [.int .i64 t.role, .bool t.closed, encCells t.cells]
abbrev encTracks (l : List Track) : D := .sl (l.map Track.row)
structure Run where
  a : Int
  b : Int
  deriving DecidableEq
abbrev Run.row (r : Run) : List D := [.int .i64 r.a, .int .i64 r.b]
abbrev encRuns (l : List Run) : D := .sl (l.map Run.row)
structure Row where
  y : Int
  runs : List Run
  deriving DecidableEq
abbrev Row.row (r : Row) : List D := [.int .i64 r.y, encRuns r.runs]
abbrev encRows (l : List Row) : D := .sl (l.map Row.row)
abbrev regRow (l : List Row) : List D := [encRows l]

def onG (c : Cell) : Bool := decide (-4096 ≤ c.x) && decide (c.x < 4096) && decide (-4096 ≤ c.y) && decide (c.y < 4096)
theorem onG_bd {c : Cell} (h : onG c = true) : -4096 ≤ c.x ∧ c.x < 4096 ∧ -4096 ≤ c.y ∧ c.y < 4096 := by
  simp [onG] at h; omega

theorem all_range_succ {f : Nat → Bool} {k : Nat} : (List.range (k + 1)).all f = ((List.range k).all f && f k) := by
  simp [List.range_succ]

theorem all_range_false {f : Nat → Bool} {k n : Nat} (hk : k < n) (h : f k = false) : (List.range n).all f = false := by
  rw [Bool.eq_false_iff]
  intro ha
  have := List.all_eq_true.1 ha k (by simpa using hk)
  rw [h] at this
  cases this
theorem all_range_at {f : Nat → Bool} {k n : Nat} (h : (List.range n).all f = true) (hk : k < n) : f k = true :=
  List.all_eq_true.1 h k (by simpa using hk)

theorem take_eq_step {α : Type} {l r : List α} {k : Nat} {x y : α} (h : l.take k = r.take k) (hx : l[k]? = some x) (hy : r[k]? = some y) (e : x = y) : l.take (k + 1) = r.take (k + 1) := by
  rw [List.take_add_one, List.take_add_one, h, hx, hy, e]

theorem getq {α : Type} {l : List α} {k : Nat} (h : k < l.length) : ∃ x, l[k]? = some x := ⟨l[k], List.getElem?_eq_getElem h⟩

theorem take_get {α : Type} {l : List α} {k : Nat} {x : α} (h : l[k]? = some x) : l.take (k + 1) = l.take k ++ [x] := by
  rw [List.take_add_one, h]; rfl
end Go.Proofs.YtgicofpllopjmaaDoor

namespace Go.Proofs.YtgicofpllopjmaaDoor
open Go.Abs

def okB (x : Int) : Bool := decide (-4096 ≤ x) && decide (x < 4096)
def fitsB (r : Run) : Bool := decide (-1048576 ≤ r.a) && decide (r.a ≤ 1048576) && decide (-1048576 ≤ r.b) && decide (r.b ≤ 1048576)
def rvAt (l : List Run) (i : Nat) : Bool := match l[i]?, l[i - 1]? with
  | some r, some p => decide (r.a < r.b) && fitsB r && (i == 0 || decide (p.b < r.a))
  | _, _ => false
def rvalid (l : List Run) : Bool := (List.range l.length).all (rvAt l)
def fnAt (l : List Run) (i : Nat) : Bool := match l[i]?, l[i - 1]? with
  | some r, some p => decide (-4096 ≤ r.a) && decide (r.a < r.b) && decide (r.b ≤ 4096) && (i == 0 || decide (p.b < r.a))
  | _, _ => false
def fine (l : List Run) : Bool := (List.range l.length).all (fnAt l) && decide (0 < l.length)
def rowAt (l : List Row) (i : Nat) : Bool := match l[i]?, l[i - 1]? with
  | some r, some p => okB r.y && (i == 0 || decide (p.y < r.y)) && fine r.runs
  | _, _ => false
def validR (l : List Row) : Bool := (List.range l.length).all (rowAt l)

theorem rvAt_some {l : List Run} {i : Nat} {r p : Run} (h : l[i]? = some r) (hp : l[i - 1]? = some p) : rvAt l i = (decide (r.a < r.b) && fitsB r && (i == 0 || decide (p.b < r.a))) := by simp only [rvAt, h, hp]
theorem fnAt_some {l : List Run} {i : Nat} {r p : Run} (h : l[i]? = some r) (hp : l[i - 1]? = some p) : fnAt l i = (decide (-4096 ≤ r.a) && decide (r.a < r.b) && decide (r.b ≤ 4096) && (i == 0 || decide (p.b < r.a))) := by simp only [fnAt, h, hp]
theorem rowAt_some {l : List Row} {i : Nat} {r p : Row} (h : l[i]? = some r) (hp : l[i - 1]? = some p) : rowAt l i = (okB r.y && (i == 0 || decide (p.y < r.y)) && fine r.runs) := by simp only [rowAt, h, hp]

theorem fitsB_bd {r : Run} (h : fitsB r = true) : -1048576 ≤ r.a ∧ r.a ≤ 1048576 ∧ -1048576 ≤ r.b ∧ r.b ≤ 1048576 := by
  simp [fitsB] at h; omega

theorem rvalid_asc {l : List Run} (h : rvalid l = true) : ∀ (j i : Nat) (r p : Run), i ≤ j → l[i]? = some p → l[j]? = some r → p.a ≤ r.a ∧ p.b ≤ r.b
  | 0, i, r, p, hij, hp, hr => by
    have : i = 0 := by omega
    subst this
    rw [hp] at hr; cases hr; exact ⟨Int.le_refl _, Int.le_refl _⟩
  | j + 1, i, r, p, hij, hp, hr => by
    by_cases e : i = j + 1
    · subst e; rw [hp] at hr; cases hr; exact ⟨Int.le_refl _, Int.le_refl _⟩
    · have hj := (List.getElem?_eq_some_iff.1 hr).1
      obtain ⟨q, hq⟩ : ∃ q, l[j]? = some q := getq (by omega)
      have ih := rvalid_asc h j i q p (by omega) hp hq
      have h1 := all_range_at h hj
      have h2 := all_range_at h (show j < l.length by omega)
      obtain ⟨q', hq'⟩ : ∃ q, l[j - 1]? = some q := getq (by omega)
      rw [rvAt_some hr (by simpa using hq)] at h1
      rw [rvAt_some hq hq'] at h2
      simp at h1 h2
      omega
theorem rvalid_at {l : List Run} (h : rvalid l = true) {i : Nat} {r : Run} (hr : l[i]? = some r) : r.a < r.b ∧ fitsB r = true := by
  have hi := (List.getElem?_eq_some_iff.1 hr).1
  obtain ⟨p, hp⟩ : ∃ q, l[i - 1]? = some q := getq (by omega)
  have h1 := all_range_at h hi
  rw [rvAt_some hr hp] at h1
  simp at h1
  exact ⟨h1.1.1, h1.1.2⟩

theorem fine_rv {l : List Run} (h : fine l = true) : rvalid l = true := by
  simp only [fine, Bool.and_eq_true] at h
  apply List.all_eq_true.2
  intro i hi
  have hi : i < l.length := by simpa using hi
  obtain ⟨r, hr⟩ := getq hi
  obtain ⟨p, hp⟩ : ∃ q, l[i - 1]? = some q := getq (by omega)
  have h1 := all_range_at h.1 hi
  rw [fnAt_some hr hp] at h1
  rw [rvAt_some hr hp]
  simp [fitsB] at h1 ⊢
  refine ⟨⟨by omega, by omega⟩, h1.2⟩

theorem fine_iff {l : List Run} {f z : Run} (hf : l[0]? = some f) (hz : l[l.length - 1]? = some z) : fine l = (rvalid l && okB f.a && okB (z.b - 1)) := by
  have hl := (List.getElem?_eq_some_iff.1 hf).1
  apply Bool.eq_iff_iff.2
  constructor
  · intro h
    have h0 := fine_rv h
    simp only [fine, Bool.and_eq_true] at h
    have h1 := all_range_at h.1 hl
    have h2 := all_range_at h.1 (show l.length - 1 < l.length by omega)
    obtain ⟨p, hp⟩ : ∃ q, l[l.length - 1 - 1]? = some q := getq (by omega)
    rw [fnAt_some hf (by simpa using hf)] at h1
    rw [fnAt_some hz hp] at h2
    simp [okB] at h1 h2 ⊢
    exact ⟨⟨h0, by omega⟩, by omega⟩
  · intro h
    simp only [Bool.and_eq_true] at h
    obtain ⟨⟨h0, h1⟩, h2⟩ := h
    simp [okB] at h1 h2
    simp only [fine, Bool.and_eq_true]
    refine ⟨List.all_eq_true.2 fun i hi => ?_, by simpa using hl⟩
    have hi : i < l.length := by simpa using hi
    obtain ⟨r, hr⟩ := getq hi
    obtain ⟨p, hp⟩ : ∃ q, l[i - 1]? = some q := getq (by omega)
    have a1 := rvalid_asc h0 i 0 r f (Nat.zero_le _) hf hr
    have a2 := rvalid_asc h0 (l.length - 1) i z r (by omega) hr hz
    have a3 := rvalid_at h0 hr
    have a4 := all_range_at h0 hi
    rw [rvAt_some hr hp] at a4
    rw [fnAt_some hr hp]
    simp at a4 ⊢
    exact ⟨⟨⟨by omega, a3.1⟩, by omega⟩, a4.2⟩

theorem ok_ok (x : Int) : PC Tryd.prog 36 [.int .i64 x] (.p (.bool (okB x))) := by
  refine pc_of_awp cx (fn := Tryd.f36) (c := _) Tryd.func36 rfl rfl (Nat.le_of_ble_eq_true rfl) ?_
  rw [Tryd.ntmps36]; refine Nav.imp ?_
  refine awp_region cx [] fun K hK => ?_
  simp [push_cast]
  repeat (refine And.intro (by clear hK; intros; first | omega | (simp_all; done) | (simp_all <;> omega)) ?_)
  refine hK _ ?_; clear hK K; refine Nav.imp ?_
  refine awp_region cx [] fun K hK => ?_
  simp [push_cast]
  repeat (refine And.intro (by clear hK; intros; first | omega | (simp_all; done) | (simp_all <;> omega)) ?_)
  refine hK _ ?_; clear hK K; refine Nav.imp ?_
  simp [push_cast, okB]

theorem fits_ok (r : Run) : PC Tryd.prog 74 [.agg r.row] (.p (.bool (fitsB r))) := by
  refine pc_of_awp cx (fn := Tryd.f74) (c := _) Tryd.func74 rfl rfl (Nat.le_of_ble_eq_true rfl) ?_
  rw [Tryd.ntmps74]; refine Nav.imp ?_
  refine awp_region cx [] fun K hK => ?_
  simp [push_cast]
  repeat (refine And.intro (by clear hK; intros; first | omega | (simp_all; done) | (simp_all <;> omega)) ?_)
  refine hK _ ?_; clear hK K; refine Nav.imp ?_
  refine awp_region cx [] fun K hK => ?_
  simp [push_cast]
  repeat (refine And.intro (by clear hK; intros; first | omega | (simp_all; done) | (simp_all <;> omega)) ?_)
  refine hK _ ?_; clear hK K; refine Nav.imp ?_
  simp [push_cast, fitsB, Bool.and_assoc]

theorem rvalid_big (l : List Run) (hl : l.length ≤ 9223372036854775807) : PC Tryd.prog 59 [encRuns l] (.p (.bool (rvalid l))) := by
  refine pc_of_awp cx (fn := Tryd.f59) (c := _) Tryd.func59 rfl rfl (Nat.le_of_ble_eq_true rfl) ?_
  rw [Tryd.ntmps59]; refine Nav.imp ?_
  refine awp_region cx [] fun K hK => ?_
  simp [push_cast]
  repeat (refine And.intro (by clear hK; intros; first | omega | (simp_all; done) | (simp_all <;> omega)) ?_)
  refine hK _ ?_; clear hK K; refine Nav.imp ?_
  refine awp_region cx [] fun K hK => ?_
  simp [push_cast]
  repeat (refine And.intro (by clear hK; intros; first | omega | (simp_all; done) | (simp_all <;> omega)) ?_)
  refine hK _ ?_; clear hK K; refine Nav.imp ?_
  refine awp_loop (β := Nat) (fun k => ⟨38, [(0, .d (encRuns l)), (5, .d (encRuns l)), (6, .d (.int .i64 l.length)), (7, .d (.int .i64 k))], [], 1⟩) (fun k => k ≤ l.length ∧ (List.range k).all (rvAt l) = true) (fun k => l.length - k) 0 ?_ ⟨Nat.zero_le _, rfl⟩ ?_
  · refine weak_of [] rfl (by simp [upT, up, upL, push_cast]) (by simp [upH, upR, upL, up, push_cast]) (by simp [namesOk, push_cast]) (by simp [olds])
  · intro k ⟨hk, hall⟩
    refine Nav.imp ?_
    refine awp_region cx [] fun K hK => ?_
    simp [push_cast]
    repeat (refine And.intro (by clear hK; intros; first | omega | (simp_all; done) | (simp_all <;> omega)) ?_)
    refine hK _ ?_; clear hK K; refine Nav.imp ?_
    refine awp_cond (b := decide ((k : Int) < l.length)) (by simp [push_cast]) (fun hb => ?_) (fun hb => ?_) <;> (refine Nav.imp ?_)
    · have hlt : k < l.length := by simpa using hb
      obtain ⟨r, hr⟩ := getq hlt
      obtain ⟨p, hp⟩ : ∃ p, l[k - 1]? = some p := getq (by omega)
      have e0 := wrap_i64 (n := (k : Int) + 1) (by omega) (by omega)
      have hat := rvAt_some hr hp
      have c1 := fits_ok r
      obtain ⟨ra, rb⟩ := r
      refine awp_region cx [] fun K hK => ?_
      simp [push_cast, hr, Run.row]
      repeat (refine And.intro (by clear hK; intros; first | omega | (simp_all; done) | (simp_all <;> omega)) ?_)
      refine hK _ ?_; clear hK K; refine Nav.imp ?_
      by_cases h1 : ra < rb
      · have h1' : ¬ (rb ≤ ra) := by omega
        generalize hv : fitsB ⟨ra, rb⟩ = v at c1
        rw [hv] at hat
        cases v with
        | true =>
          by_cases hk0 : k = 0
          · subst hk0
            refine awp_region_draw cx mixed [(7, .p (.bool true))] fun K hK => ?_
            simp [push_cast, h1', c1, hr, Run.row]
            repeat (refine And.intro (by clear hK; intros; first | omega | (simp_all; done) | (simp_all <;> omega)) ?_)
            refine hK _ _ (by kernel_rfl) ?_; clear hK K; refine Nav.imp ?_
            refine awp_cond (b := false) (by simp [push_cast]) (fun hb => ?_) (fun hb => ?_) <;> (refine Nav.imp ?_)
            · simp at hb
            · refine awp_region cx [] fun K hK => ?_
              simp [push_cast, e0]
              repeat (refine And.intro (by clear hK; intros; first | omega | (simp_all; done) | (simp_all <;> omega)) ?_)
              refine hK _ ?_; clear hK K; refine Nav.imp ?_
              refine ⟨1, ⟨hlt, by rw [all_range_succ, hall, hat]; simp [h1]⟩, by omega, ?_⟩
              refine weak_of [] rfl (by simp [upT, up, upL, push_cast]) (by simp [upH, upR, upL, up, push_cast]) (by simp [namesOk, push_cast]) (by simp [olds])
          · have e1 := wrap_i64 (n := (k : Int) - 1) (by omega) (by omega)
            have e2 : ((k : Int) - 1).toNat = k - 1 := by omega
            have hk1 : (0 : Int) < k := by omega
            have hk2 : (0 : Int) ≤ k - 1 := by omega
            have hk3 : 0 < k := by omega
            obtain ⟨pa, pb⟩ := p
            refine awp_region_draw cx mixed [(7, .p (.bool true))] fun K hK => ?_
            simp [push_cast, h1', c1, hk1, hk3, hk2, e1, e2, hp, Run.row]
            repeat (refine And.intro (by clear hK; intros; first | omega | (simp_all; done) | (simp_all <;> omega)) ?_)
            refine hK _ _ (by kernel_rfl) ?_; clear hK K; refine Nav.imp ?_
            refine awp_cond (b := decide (ra ≤ pb)) (by simp [push_cast, hk3]) (fun hb => ?_) (fun hb => ?_) <;> (refine Nav.imp ?_)
            · have h3 : ¬ pb < ra := by simpa using hb
              refine awp_region cx [] fun K hK => ?_
              simp [push_cast]
              repeat (refine And.intro (by clear hK; intros; first | omega | (simp_all; done) | (simp_all <;> omega)) ?_)
              refine hK _ ?_; clear hK K; refine Nav.imp ?_
              simp [push_cast]
              refine all_range_false hlt ?_
              rw [hat]; simp [h1, hk0, h3]
            · have h3 : pb < ra := by simpa using hb
              refine awp_region cx [] fun K hK => ?_
              simp [push_cast, e0]
              repeat (refine And.intro (by clear hK; intros; first | omega | (simp_all; done) | (simp_all <;> omega)) ?_)
              refine hK _ ?_; clear hK K; refine Nav.imp ?_
              refine ⟨k + 1, ⟨hlt, by rw [all_range_succ, hall, hat]; simp [h1, h3]⟩, by omega, ?_⟩
              refine weak_of [] rfl (by simp [upT, up, upL, push_cast]) (by simp [upH, upR, upL, up, push_cast]) (by simp [namesOk, push_cast]) (by simp [olds])
        | false =>
          by_cases hk0 : k = 0
          · subst hk0
            refine awp_region_draw cx mixed [(7, .p (.bool false))] fun K hK => ?_
            simp [push_cast, h1', c1, hr, Run.row]
            repeat (refine And.intro (by clear hK; intros; first | omega | (simp_all; done) | (simp_all <;> omega)) ?_)
            refine hK _ _ (by kernel_rfl) ?_; clear hK K; refine Nav.imp ?_
            refine awp_cond (b := true) (by simp [push_cast]) (fun hb => ?_) (fun hb => ?_) <;> (refine Nav.imp ?_)
            · refine awp_region cx [] fun K hK => ?_
              simp [push_cast]
              repeat (refine And.intro (by clear hK; intros; first | omega | (simp_all; done) | (simp_all <;> omega)) ?_)
              refine hK _ ?_; clear hK K; refine Nav.imp ?_
              simp [push_cast]
              refine all_range_false hlt ?_
              rw [hat]; simp
            · simp at hb
          · have e1 := wrap_i64 (n := (k : Int) - 1) (by omega) (by omega)
            have e2 : ((k : Int) - 1).toNat = k - 1 := by omega
            obtain ⟨pa, pb⟩ := p
            refine awp_region_draw cx mixed [(7, .p (.bool false))] fun K hK => ?_
            simp [push_cast, h1', c1, e1, e2, hp, Run.row]
            repeat (refine And.intro (by clear hK; intros; first | omega | (simp_all; done) | (simp_all <;> omega)) ?_)
            refine hK _ _ (by kernel_rfl) ?_; clear hK K; refine Nav.imp ?_
            refine awp_cond (b := true) (by simp [push_cast]) (fun hb => ?_) (fun hb => ?_) <;> (refine Nav.imp ?_)
            · refine awp_region cx [] fun K hK => ?_
              simp [push_cast]
              repeat (refine And.intro (by clear hK; intros; first | omega | (simp_all; done) | (simp_all <;> omega)) ?_)
              refine hK _ ?_; clear hK K; refine Nav.imp ?_
              simp [push_cast]
              refine all_range_false hlt ?_
              rw [hat]; simp
            · simp at hb
      · have h1' : rb ≤ ra := by omega
        have e1 := wrap_i64 (n := (k : Int) - 1) (by omega) (by omega)
        by_cases hk0 : k = 0
        · subst hk0
          refine awp_region_draw cx mixed [(7, .skip)] fun K hK => ?_
          simp [push_cast, h1', hr, Run.row]
          repeat (refine And.intro (by clear hK; intros; first | omega | (simp_all; done) | (simp_all <;> omega)) ?_)
          refine hK _ _ (by kernel_rfl) ?_; clear hK K; refine Nav.imp ?_
          refine awp_cond (b := true) (by simp [push_cast]) (fun hb => ?_) (fun hb => ?_) <;> (refine Nav.imp ?_)
          · refine awp_region cx [] fun K hK => ?_
            simp [push_cast]
            repeat (refine And.intro (by clear hK; intros; first | omega | (simp_all; done) | (simp_all <;> omega)) ?_)
            refine hK _ ?_; clear hK K; refine Nav.imp ?_
            simp [push_cast]
            refine all_range_false hlt ?_
            rw [hat]; simp [h1]
          · simp at hb
        · have e2 : ((k : Int) - 1).toNat = k - 1 := by omega
          obtain ⟨pa, pb⟩ := p
          refine awp_region_draw cx mixed [(7, .skip)] fun K hK => ?_
          simp [push_cast, h1', e1, e2, hp, Run.row]
          repeat (refine And.intro (by clear hK; intros; first | omega | (simp_all; done) | (simp_all <;> omega)) ?_)
          refine hK _ _ (by kernel_rfl) ?_; clear hK K; refine Nav.imp ?_
          refine awp_cond (b := true) (by simp [push_cast]) (fun hb => ?_) (fun hb => ?_) <;> (refine Nav.imp ?_)
          · refine awp_region cx [] fun K hK => ?_
            simp [push_cast]
            repeat (refine And.intro (by clear hK; intros; first | omega | (simp_all; done) | (simp_all <;> omega)) ?_)
            refine hK _ ?_; clear hK K; refine Nav.imp ?_
            simp [push_cast]
            refine all_range_false hlt ?_
            rw [hat]; simp [h1]
          · simp at hb
    · have hge : k = l.length := by simp at hb; omega
      subst hge
      refine awp_region cx [] fun K hK => ?_
      simp [push_cast]
      repeat (refine And.intro (by clear hK; intros; first | omega | (simp_all; done) | (simp_all <;> omega)) ?_)
      refine hK _ ?_; clear hK K; refine Nav.imp ?_
      simp [push_cast]
      exact hall
theorem rvalid_ok (l : List Run) (hl : l.length ≤ 1000000) : PC Tryd.prog 59 [encRuns l] (.p (.bool (rvalid l))) := rvalid_big l (by omega)
end Go.Proofs.YtgicofpllopjmaaDoor

namespace Go.Proofs.YtgicofpllopjmaaDoor
open Go.Abs

def spl : List UInt8 → List (List UInt8)
  | [] => [[]]
  | c :: s => if c = 10 then [] :: spl s else (match spl s with
    | h :: t => (c :: h) :: t
    | [] => [[c]])
theorem spl_ne (s : List UInt8) : spl s ≠ [] := by
  cases s with
  | nil => simp [spl]
  | cons c s =>
    unfold spl
    split
    · simp
    · split <;> simp
theorem spl_app {a : List UInt8} (h : (10 : UInt8) ∉ a) (b : List UInt8) : spl (a ++ 10 :: b) = a :: spl b := by
  induction a with
  | nil => simp [spl]
  | cons c a ih =>
    simp only [List.mem_cons, not_or] at h
    have hc : ¬ c = 10 := fun e => h.1 e.symm
    simp only [List.cons_append, spl, if_neg hc, ih h.2]
theorem spl_none {a : List UInt8} (h : (10 : UInt8) ∉ a) : spl a = [a] := by
  induction a with
  | nil => simp [spl]
  | cons c a ih =>
    simp only [List.mem_cons, not_or] at h
    have hc : ¬ c = 10 := fun e => h.1 e.symm
    simp only [spl, if_neg hc, ih h.2]
def txt (l : List (List UInt8)) : List UInt8 := l.flatMap fun x => x ++ [10]
theorem txt_cons (a : List UInt8) (l : List (List UInt8)) : txt (a :: l) = a ++ 10 :: txt l := by simp [txt]
theorem txt_app (l m : List (List UInt8)) : txt (l ++ m) = txt l ++ txt m := by simp [txt]
theorem txt_spl : ∀ s : List UInt8, txt (spl s) = s ++ [10]
  | [] => by simp [spl, txt]
  | c :: s => by
    have ih := txt_spl s
    unfold spl
    split
    · rename_i hc
      subst hc
      rw [txt_cons, ih]
      simp
    · cases hs : spl s with
      | nil => exact absurd hs (spl_ne s)
      | cons y t =>
        rw [hs, txt_cons] at ih
        simp only
        rw [txt_cons]
        simp only [List.cons_append, ih]
theorem spl_txt : ∀ {l : List (List UInt8)} {s : List UInt8}, l ≠ [] → (∀ x ∈ l, (10 : UInt8) ∉ x) → txt l = s ++ [10] → spl s = l
  | [a], s, _, h, e => by
    rw [txt_cons] at e
    have : a = s := by simpa [txt] using e
    rw [← this]
    exact spl_none (h a (by simp))
  | a :: b :: l, s, _, h, e => by
    rw [txt_cons] at e
    have hne : txt (b :: l) ≠ [] := by rw [txt_cons]; simp
    obtain ⟨m, x, hm⟩ : ∃ m x, txt (b :: l) = m ++ [x] := ⟨_, _, (List.dropLast_concat_getLast hne).symm⟩
    rw [hm] at e
    have e2 : (a ++ 10 :: m) ++ [x] = s ++ [10] := by simpa using e
    have e3 := List.append_inj' e2 rfl
    have hx : x = 10 := by simpa using e3.2
    subst hx
    rw [← e3.1, spl_app (h a (by simp))]
    rw [spl_txt (l := b :: l) (s := m) (by simp) (fun y hy => h y (by simp [hy])) hm]
def okCh (c : UInt8) : Bool := c == 35 || c == 46
theorem okCh_nl {c : UInt8} (h : okCh c = true) : c ≠ 10 := by
  rintro rfl
  exact absurd h (by decide)
def sameL (l : List (List UInt8)) : Bool := l.all fun x => decide (x ≠ []) && decide (x.length = (l.headD []).length) && x.all okCh
def linesP (s : List UInt8) : Option (List (List UInt8)) :=
  if s = [] then some [] else if s.getLast? = some 10 then (if sameL (spl s.dropLast) then some (spl s.dropLast) else none) else none
def fstN (s : List UInt8) : Nat := (s.takeWhile fun c => c != 10).length
def posOk (n : Nat) (i : Nat) (c : UInt8) : Bool := if i % (n + 1) = n then c == 10 else okCh c
def allPos (s : List UInt8) (n : Nat) : Bool := (List.range s.length).all fun i => match s[i]? with | some c => posOk n i c | none => true
def widP (s : List UInt8) : Nat := if fstN s = 0 ∨ s.length % (fstN s + 1) ≠ 0 then 0 else if allPos s (fstN s) then fstN s else 0
def cutL (s : List UInt8) (n m : Nat) : List (List UInt8) := (List.range m).map fun i => (s.drop (i * (n + 1))).take n
end Go.Proofs.YtgicofpllopjmaaDoor

set_option linter.unusedSectionVars false
namespace Go.Abs
variable [Flag]

abbrev strD (l : List UInt8) : D := .str ⟨l.toArray⟩
abbrev bRow (c : UInt8) : List D := [.int .u8 c.toNat]

theorem below_refl (B : Nat) (w : World) : Below B w w := ⟨rfl, ⟨rfl, .inr (Nat.le_refl _)⟩, rfl, Nat.le_refl _, fun _ _ => rfl⟩

section
variable {P : Program}

theorem opres_add {t yt : TypeId} {x y : Operand} (hu : P.underlying t = some .string) (l m : List UInt8) (h : l.length + m.length ≤ 9223372036854775807) : OpRes P (.binOp .add t x y yt) [strD l, strD m] (.p (strD (l ++ m))) := by
  intro o a ro w ho hro hd
  simp only [Op.operands, List.map_cons, List.map_nil, RepDs, RepD] at hd
  obtain ⟨v1, _, he, rfl, v2, _, he2, rfl, rfl⟩ := hd
  simp only [List.cons.injEq] at he
  obtain ⟨h1, h2⟩ := he
  subst h2
  simp only [List.cons.injEq, and_true] at he2
  have hadd := run_string_add_sum (P := P) w ⟨l.toArray⟩ ⟨m.toArray⟩ (by simpa [ByteArray.size] using h)
  refine ⟨.string (⟨l.toArray⟩ ++ ⟨m.toArray⟩), w, ?_, below_refl _ _, ?_⟩
  · simp only [execOp, ho, h1, he2, eqGuard_at_string, pure_bind, Sem.run_bind]
    simp [binOp, hadd]
  · simp only [RepRes, RepD]
    congr 1

theorem opres_eq {t yt : TypeId} {x y : Operand} (hu : P.underlying t = some .string) (l m : List UInt8) : OpRes P (.binOp .eql t x y yt) [strD l, strD m] (.p (.bool (l == m))) := by
  intro o a ro w ho hro hd
  simp only [Op.operands, List.map_cons, List.map_nil, RepDs, RepD] at hd
  obtain ⟨v1, _, he, rfl, v2, _, he2, rfl, rfl⟩ := hd
  simp only [List.cons.injEq] at he
  obtain ⟨h1, h2⟩ := he
  subst h2
  simp only [List.cons.injEq, and_true] at he2
  refine ⟨.bool (l == m), w, ?_, below_refl _ _, by simp only [RepRes, RepD]⟩
  have e1 : (ByteArray.mk l.toArray).toList = l := by rw [ByteArray.toList_eq]
  have e2 : (ByteArray.mk m.toArray).toList = m := by rw [ByteArray.toList_eq]
  simp only [execOp, ho, h1, he2, eqGuard_at_string, pure_bind, Sem.run_bind]
  simp [go_sem, hu, e1, e2]

theorem opres_neq {t yt : TypeId} {x y : Operand} (hu : P.underlying t = some .string) (l m : List UInt8) : OpRes P (.binOp .neq t x y yt) [strD l, strD m] (.p (.bool (l != m))) := by
  intro o a ro w ho hro hd
  simp only [Op.operands, List.map_cons, List.map_nil, RepDs, RepD] at hd
  obtain ⟨v1, _, he, rfl, v2, _, he2, rfl, rfl⟩ := hd
  simp only [List.cons.injEq] at he
  obtain ⟨h1, h2⟩ := he
  subst h2
  simp only [List.cons.injEq, and_true] at he2
  refine ⟨.bool (l != m), w, ?_, below_refl _ _, by simp only [RepRes, RepD]⟩
  have e1 : (ByteArray.mk l.toArray).toList = l := by rw [ByteArray.toList_eq]
  have e2 : (ByteArray.mk m.toArray).toList = m := by rw [ByteArray.toList_eq]
  simp only [execOp, ho, h1, he2, eqGuard_at_string, pure_bind, Sem.run_bind]
  simp [go_sem, hu, e1, e2, bne]

theorem opres_index {t : TypeId} {x y : Operand} (hu : P.underlying t = some .string) (l : List UInt8) (k : IntKind) (i : Int) (c : UInt8) (h0 : 0 ≤ i) (h : l[i.toNat]? = some c) : OpRes P (.index t x y) [strD l, .int k i] (.p (.int .u8 c.toNat)) := by
  intro o a ro w ho hro hd
  simp only [Op.operands, List.map_cons, List.map_nil, RepDs, RepD] at hd
  obtain ⟨v1, _, he, rfl, v2, _, he2, rfl, rfl⟩ := hd
  simp only [List.cons.injEq] at he
  obtain ⟨h1, h2⟩ := he
  subst h2
  simp only [List.cons.injEq, and_true] at he2
  obtain ⟨hlt, hc⟩ := List.getElem?_eq_some_iff.1 h
  refine ⟨.int .u8 c.toNat, w, ?_, below_refl _ _, by simp only [RepRes, RepD]⟩
  have hi : 0 ≤ i ∧ i < (ByteArray.mk l.toArray).size := ⟨h0, by simp [ByteArray.size]; omega⟩
  have hrun := run_index_string (P := P) w t ⟨l.toArray⟩ k i hu
  rw [dif_pos hi] at hrun
  have e : ((ByteArray.mk l.toArray)[i.toNat]'(by simp [ByteArray.size]; omega)) = c := by
    rw [← hc]; rfl
  rw [e] at hrun
  simp [execOp, ho, h1, he2, hrun]

theorem opres_slice_from {t : TypeId} {x y : Operand} (hu : P.underlying t = some .string) (l : List UInt8) (k : IntKind) (i : Int) (h0 : 0 ≤ i) (h2' : i ≤ l.length) : OpRes P (.slice t x (some y) none none) [strD l, .int k i] (.p (strD (l.drop i.toNat))) := by
  intro o a ro w ho hro hd
  simp only [Op.operands, Option.toArray_some, Option.toArray_none, Array.toList_append, List.map_append, List.map_cons, List.map_nil, List.cons_append, List.nil_append, List.append_nil, RepDs, RepD] at hd
  obtain ⟨v1, _, he, rfl, v2, _, he2, rfl, rfl⟩ := hd
  simp only [List.cons.injEq] at he
  obtain ⟨h1, h2⟩ := he
  subst h2
  simp only [List.cons.injEq, and_true] at he2
  have hrun := run_slice_string_from_if (P := P) w t ⟨l.toArray⟩ k i hu
  rw [if_pos ⟨h0, by simpa [ByteArray.size] using h2'⟩] at hrun
  refine ⟨.string ((ByteArray.mk l.toArray).extract i.toNat (ByteArray.mk l.toArray).size), w, by simp [execOp, ho, h1, he2, run_sliceAt_string (P := P) w t _ _ _ _ hu, hrun], below_refl _ _, ?_⟩
  simp only [RepRes, RepD]
  congr 1
  rw [ByteArray.extract_mk, List.take_of_length_le (by simp [ByteArray.size])]

theorem opres_slice_to {t : TypeId} {x y : Operand} (hu : P.underlying t = some .string) (l : List UInt8) (k : IntKind) (j : Int) (h0 : 0 ≤ j) (h2' : j ≤ l.length) : OpRes P (.slice t x none (some y) none) [strD l, .int k j] (.p (strD (l.take j.toNat))) := by
  intro o a ro w ho hro hd
  simp only [Op.operands, Option.toArray_some, Option.toArray_none, Array.toList_append, List.map_append, List.map_cons, List.map_nil, List.cons_append, List.nil_append, List.append_nil, RepDs, RepD] at hd
  obtain ⟨v1, _, he, rfl, v2, _, he2, rfl, rfl⟩ := hd
  simp only [List.cons.injEq] at he
  obtain ⟨h1, h2⟩ := he
  subst h2
  simp only [List.cons.injEq, and_true] at he2
  have hrun := run_slice_string_to_if (P := P) w t ⟨l.toArray⟩ k j hu
  rw [if_pos ⟨h0, by simpa [ByteArray.size] using h2'⟩] at hrun
  refine ⟨.string ((ByteArray.mk l.toArray).extract 0 j.toNat), w, by simp [execOp, ho, h1, he2, run_sliceAt_string (P := P) w t _ _ _ _ hu, hrun], below_refl _ _, ?_⟩
  simp only [RepRes, RepD]
  congr 1
  rw [ByteArray.extract_mk]
  simp

theorem opres_bytes {src dst e : TypeId} {x : Operand} (hs : P.underlying src = some .string) (hd' : P.underlying dst = some (.slice e)) (he' : P.underlying e = some (.int .u8)) (l : List UInt8) (hl : l.length ≤ maxLen) : OpRes P (.convert src dst x) [strD l] (.o strE 1 (l.map bRow)) := by
  intro o a ro w ho hro hd
  simp only [Op.operands, List.map_cons, List.map_nil, RepDs, RepD] at hd
  obtain ⟨v1, _, he, rfl, rfl⟩ := hd
  simp only [List.cons.injEq, and_true] at he
  have hrun := run_bytes_of_string (P := P) w src dst e ⟨l.toArray⟩ hs hd' he'
  have hsz : (ByteArray.mk l.toArray).size = l.length := by simp [ByteArray.size]
  have g1 := grownCap_ge w l.length 0 e
  have g2 := grownCap_le_maxLen w l.length 0 e hl
  rw [hsz] at hrun
  generalize grownCap w l.length 0 e = cap at *
  have hbs : (bytesRow ⟨l.toArray⟩ cap).size = cap := by
    unfold bytesRow
    rw [hsz]
    simp
    omega
  refine ⟨_, _, by simp [execOp, ho, he, hrun]; exact ⟨rfl, rfl⟩, ?_, ?_⟩
  · exact ⟨rfl, ⟨rfl, .inr (Nat.le_succ _)⟩, rfl, by show w.heap.size ≤ (w.heap.push _).size; simp, fun b hb => Go.heap_alloc_old w.drew _ hb⟩
  · simp only [RepRes, OwnRes]
    refine ⟨by omega, .inr ⟨w.heap.size, cap, bytesRow ⟨l.toArray⟩ cap, Nat.le_refl _, by simp, ?_, by simpa using g1, g2, by rw [hbs]; omega, ?_⟩⟩
    · exact ⟨e, ((bytesRow ⟨l.toArray⟩ cap).size, (bytesRow ⟨l.toArray⟩ cap).size + 1), by show (w.heap.push _)[w.heap.size]? = _; simp, fun h => absurd rfl h, .inr (Nat.le_refl _)⟩
    · intro i row hi
      simp only [List.getElem?_map, Option.map_eq_some_iff] at hi
      obtain ⟨c, hc, rfl⟩ := hi
      refine ⟨rfl, fun j d hj => ?_⟩
      have hj0 : j = 0 := by
        have := (List.getElem?_eq_some_iff.1 hj).1
        simp at this; omega
      subst hj0
      simp at hj
      subst hj
      obtain ⟨hlt, hcl⟩ := List.getElem?_eq_some_iff.1 hc
      refine ⟨.int .u8 c.toNat, ?_, rfl, by simp only [RepD]⟩
      have := bytesRow_at ⟨l.toArray⟩ cap i (by simpa using hlt)
      simpa [hcl] using this

end
end Go.Abs

namespace Go.Abs
variable [Flag]
open Go.Shelf Go.RowKit Go.Proofs

theorem lies_head {P : Program} {T : TypeId} {n : Nat} (hd : 1 ≤ P.depth) (hs : P.cellsOf T ≠ 0) (hn : 1 ≤ n) : liesAt P P.depth T n 0 T 1 = true := by
  obtain ⟨d, hd⟩ : ∃ d, P.depth = d + 1 := ⟨P.depth - 1, by omega⟩
  have hsame : sameLayout P P.depth T T = true := by
    rw [hd]; unfold sameLayout; simp
  have hrow : rowAt P (sameLayout P P.depth · T) P.depth T n 0 1 = true := by
    generalize hf : (fun x => sameLayout P P.depth x T) = f
    have hfT : f T = true := by rw [← hf]; exact hsame
    rw [hd]; unfold rowAt
    simp [hs, hfT, hn]
  rw [show liesAt P P.depth T n 0 T 1 = liesAt P (d + 1) T n 0 T 1 by rw [hd]]
  unfold liesAt
  rw [hrow]
  rfl

section
variable {P : Program} {ρ : Ren}

set_option maxHeartbeats 1000000 in
set_option maxRecDepth 100000 in
theorem copyCheck_new (L : Lays.n240 P ρ) (X : Builder.X72 P ρ) (hd : 1 ≤ P.depth) (hc2 : P.cellsOf (ρ.t 72) = 2) (b n : Nat) (hn : 1 ≤ n) (w : World) (h0 : w.cell? ⟨b, 0, none⟩ = some (.pointer none)) (hsh : w.shape? b = some (ρ.t 72, n * 2)) (hfz : w.frozen? ⟨b, 0, none⟩ = false) :
    Calls P (ρ.f 240) #[.pointer (some ⟨b, 0, none⟩)] w fun e w' => e = .returned (.tuple #[]) ∧ w' = w.setCell ⟨b, 0, none⟩ (.pointer (some ⟨b, 0, none⟩)) := by
  obtain ⟨j, hj, hjs⟩ := Option.map_eq_some_iff.1 X.sizeBuilder
  have hlies : liesAt P P.depth (ρ.t 72) (n * 2 / P.cellsOf (ρ.t 72)) 0 (ρ.t 72) 1 = true := by
    rw [hc2, Nat.mul_div_cancel _ (by omega)]
    exact lies_head hd (by omega) hn
  have mixed := L.mixed
  have t72 := L.t72; have a72 := L.a72; have z72 := L.z72; have v72 := L.v72; have u72 := run_underlying L.t72
  have t70 := L.t70; have a70 := L.a70; have z70 := L.z70; have v70 := L.v70; have u70 := run_underlying L.t70
  have t9 := L.t9; have a9 := L.a9; have z9 := L.z9; have v9 := L.v9; have u9 := run_underlying L.t9
  have t4 := L.t4; have a4 := L.a4; have z4 := L.z4; have v4 := L.v4; have u4 := run_underlying L.t4
  have t164 := L.t164; have a164 := L.a164; have z164 := L.z164; have v164 := L.v164; have u164 := run_underlying L.t164
  go_enter L.f240, Body.n240_ntmps ρ
  go_wp2
  rw [Lib.run_to_unsafe w ⟨b, 0, none⟩ L.t70 L.t164 hj (by rw [hjs]; decide) hsh (by show 0 < n * 2; omega)]
  simp only [Result.andThen]
  rw [Oper.upon_value]
  go_wp2
  rw [run_callFunc_extern L.f276 (by kernel_rfl) (by kernel_rfl) (by kernel_rfl) (e := Extern.AbiNoEscape.same) (by kernel_rfl), Lib.run_noEscape]
  simp only [Result.andThen]
  rw [Oper.upon_value]
  go_wp2
  rw [Lib.run_from_unsafe w ⟨b, 0, none⟩ L.t164 L.t70 hj hsh hlies]
  simp only [Result.andThen]
  rw [Oper.upon_value]
  go_wp2
  go_end0
  exact ⟨rfl, rfl⟩

set_option maxHeartbeats 1000000 in
set_option maxRecDepth 100000 in
theorem string_exact (L : Lays.n169 P ρ) (X : Builder.Extra P ρ) (b g cap : Nat) (cur cells : Array Value) (fr fg : Nat × Nat) (eb : TypeId) (l : List UInt8) (w : World) (hbk : w.heap[b]? = some (.cells cells eb fr)) (h1 : cells[1]? = some (.slice (some ⟨g, 0, none⟩) l.length cap))
    (hg : w.heap[g]? = some (.cells cur (ρ.t 5) fg)) (h0 : l ≠ []) (hle : l.length ≤ cap) (hcm : cap ≤ maxLen) (hcs : cur.size = cap) (hcells : ∀ (j : Nat) (x : UInt8), l[j]? = some x → cur[j]? = some (Value.int .u8 x.toNat)) :
    Calls P (ρ.f 169) #[.pointer (some ⟨b, 0, none⟩)] w fun e w' => e = .returned (.string ⟨l.toArray⟩) ∧ w' = w.drew.freeze ⟨g, 0, none⟩ l.length := by
  have hl0 : l.length ≠ 0 := by simpa using h0
  have c1 : w.drew.cell? ⟨b, 1, none⟩ = some (.slice (some ⟨g, 0, none⟩) l.length cap) := by
    have : w.drew.heap[b]? = some (.cells cells eb fr) := hbk
    simp [World.cell?, this, h1]
  have hSD : (Builtin.unsafeSliceData_ #[(ρ.t 37)] (ρ.t 127) #[.slice (some ⟨g, 0, none⟩) l.length cap]).run P w.drew = .ok (.pointer (some ⟨g, 0, none⟩)) w.drew :=
    Lib.run_unsafeSliceData_row _ _ _ _ _ _ (by omega)
  have hg' : w.drew.heap[g]? = some (.cells cur (ρ.t 5) fg) := hg
  have hUS : (Builtin.unsafeString_ #[(ρ.t 127), (ρ.t 3)] (ρ.t 9) #[.pointer (some ⟨g, 0, none⟩), .int .i64 l.length]).run P w.drew = .ok (.string ⟨l.toArray⟩) (w.drew.freeze ⟨g, 0, none⟩ l.length) := by
    refine Lib.run_unsafeString_row w.drew (ρ.t 127) (ρ.t 3) (ρ.t 9) (ρ.t 5) L.t127 X.cellsByte g cur.size (by simp [World.shape?, hg']) l h0 (by omega) (by unfold maxLen at hcm; omega) ?_
    intro j x hx
    have := hcells j x hx
    simp [Addr.add_lit, World.cell?, hg', this]
  have mixed := L.mixed
  have t72 := L.t72; have a72 := L.a72; have z72 := L.z72; have v72 := L.v72; have u72 := run_underlying L.t72
  have t70 := L.t70; have a70 := L.a70; have z70 := L.z70; have v70 := L.v70; have u70 := run_underlying L.t70
  have t37 := L.t37; have a37 := L.a37; have z37 := L.z37; have v37 := L.v37; have u37 := run_underlying L.t37
  have t127 := L.t127; have a127 := L.a127; have z127 := L.z127; have v127 := L.v127; have u127 := run_underlying L.t127
  have t3 := L.t3; have a3 := L.a3; have z3 := L.z3; have v3 := L.v3; have u3 := run_underlying L.t3
  have t9 := L.t9; have a9 := L.a9; have z9 := L.z9; have v9 := L.v9; have u9 := run_underlying L.t9
  have t5 := X.t5; have a5 := X.a5; have z5 := X.z5; have v5 := X.v5; have u5 := run_underlying X.t5
  clear hcells hbk hg hg' hle hcs
  go_enter L.f169, Body.n169_ntmps ρ
  go_wp2
  go_region_o
  all_goals (go_wp2; go_ret; exact ⟨rfl, rfl⟩)
end

section
variable {P : Program} {ρ : Ren}

theorem copyNew_px (L : Lays.n240 P ρ) (X : Builder.X72 P ρ) (hent : Enters P (ρ.f 240)) (hd : 1 ≤ P.depth) (hc2 : P.cellsOf (ρ.t 72) = 2) (hne : ρ.t 72 ≠ strE) :
    PX P (ρ.f 240) [.ptr 0 0 0] [(0, ⟨ρ.t 72, 2, [[.d .np, .nl]]⟩)] [(0, 0)] [(0, ⟨ρ.t 72, 2, [[.ptr 0 0 0, .nl]]⟩)] (.tup []) := by
  refine ⟨hent, fun g w vs h hu hvs => ?_⟩
  simp only [RepAs] at hvs
  obtain ⟨v0, _, rfl, h0, rfl⟩ := hvs
  obtain ⟨L0, hL, hok⟩ := h.own 0 ⟨ρ.t 72, 2, [[.d .np, .nl]]⟩ (by simp [objL, find])
  simp only [RepA] at h0
  obtain ⟨hflat, rfl⟩ := h0.2 L0 hL
  have hkm : L0.m = 2 := hok.m
  obtain ⟨cur, hR, hcs, hcap, hrows⟩ := hok.cells hflat
  have hlen := hok.len hflat.2
  simp only [List.length_cons, List.length_nil] at hlen
  obtain ⟨_, hrow⟩ := hrows 0 _ rfl
  obtain ⟨u0, q0, _, r0⟩ := hrow 0 _ rfl
  obtain ⟨u1, q1, o1, r1⟩ := hrow 1 _ rfl
  simp only [RepA, RepD] at r0 r1
  subst r0 r1
  simp only [Nat.zero_mul, Nat.zero_add] at q0 q1
  have hblk := hR.plain hne
  have hsz : 0 < cur.size := by rw [hcs, hkm]; omega
  have hc := copyCheck_new L X hd hc2 L0.blk L0.cap hlen w (by rw [hR.cell]; exact q0) (by simp [World.shape?, hblk, hcs, hkm]) (hR.open hsz)
  rw [show (⟨L0.blk, 0 * L0.m + 0, none⟩ : Addr) = ⟨L0.blk, 0, none⟩ by simp]
  refine hc.mono ?_
  rintro ex w' ⟨rfl, rfl⟩
  rw [setCell_eq_setRow w L0.blk 0 cur (ρ.t 72) (0, 0) _ hblk]
  obtain ⟨g', h1, h2, h3, h4, h5, h6⟩ := HRel.write h hL hflat (id' := 0) (.inl rfl) ⟨ρ.t 72, 2, [[.ptr 0 0 0, .nl]]⟩ (cur.setIfInBounds 0 (.pointer (some ⟨L0.blk, 0, none⟩))) (w' := w.setRow L0.blk (cur.setIfInBounds 0 (.pointer (some ⟨L0.blk, 0, none⟩)))) (cap := L0.cap) (B := L0.blk) rfl ⟨rfl, .inr (Nat.le_refl _)⟩ rfl (by simp [World.setRow])
    (fun b hb hne' => setRow_other w L0.blk b _ hne') (.inl rfl) (hR.setRow (by simp)) hkm.symm hok.pos (by simp [hcs]) (by simpa using hlen) hcap (fun _ => ⟨rfl, rfl⟩) (by
      intro i row hi
      have hi0 : i = 0 := by have := (List.getElem?_eq_some_iff.1 hi).1; simp at this; omega
      subst hi0
      simp at hi
      subst hi
      refine ⟨by simp [hkm], fun j av hj => ?_⟩
      match j, hj with
      | 0, hj =>
        simp at hj; subst hj
        refine ⟨.pointer (some ⟨L0.blk, 0, none⟩), by simp [hsz], rfl, ?_⟩
        simp only [RepA]
        refine ⟨⟨(h.live 0 L0 hL).1, rfl⟩, fun M hM => ?_⟩
        rw [hL] at hM; cases hM
        exact ⟨hflat, by simp⟩
      | 1, hj =>
        simp at hj; subst hj
        refine ⟨.slice none 0 0, ?_, rfl, by simp only [RepA]⟩
        simp only [Nat.zero_mul, Nat.zero_add]
        rw [Array.getElem?_setIfInBounds_ne (by omega)]
        exact q1
      | j + 2, hj => simp at hj)
  refine ⟨_, g', rfl, ?_, ?_, h5, ?_⟩
  · have : (upd1 (upd1 (objL [(0, ⟨ρ.t 72, 2, [[.d .np, .nl]]⟩)]) 0 none) 0 (some ⟨ρ.t 72, 2, [[.ptr 0 0 0, .nl]]⟩)) = objL [(0, ⟨ρ.t 72, 2, [[.ptr 0 0 0, .nl]]⟩)] := by
      funext x
      simp only [upd1, objL, find]
      by_cases hx : x = 0
      · subst hx; simp
      · have hx' : ¬ (0 = x) := fun h => hx h.symm
        simp [hx, hx']
    rw [← this]; exact h4
  · simp only [RepA, RepAs]; exact ⟨[], rfl, rfl⟩
  · intro i j hij
    simp only [List.mem_cons, List.not_mem_nil, or_false, Prod.mk.injEq] at hij
    obtain ⟨rfl, rfl⟩ := hij
    rw [h1, hL]
    cases L0; simp_all

theorem copyUsed_px (L : Lays.n240 P ρ) (X : Builder.X72 P ρ) (hent : Enters P (ρ.f 240)) (e : TypeId) (n : Nat) (rows : List (List AV)) :
    PX P (ρ.f 240) [.ptr 0 0 0] [(0, ⟨ρ.t 72, 2, [[.ptr 0 0 0, .hs 1 0 n]]⟩), (1, ⟨e, 1, rows⟩)] [(0, 0), (1, 1)] [(0, ⟨ρ.t 72, 2, [[.ptr 0 0 0, .hs 1 0 n]]⟩), (1, ⟨e, 1, rows⟩)] (.tup []) := by
  refine ⟨hent, fun g w vs h hu hvs => ?_⟩
  simp only [RepAs] at hvs
  obtain ⟨v0, _, rfl, h0, rfl⟩ := hvs
  obtain ⟨L0, hL, hok⟩ := h.own 0 ⟨ρ.t 72, 2, [[.ptr 0 0 0, .hs 1 0 n]]⟩ (by simp [objL, find])
  simp only [RepA] at h0
  obtain ⟨hflat, rfl⟩ := h0.2 L0 hL
  obtain ⟨cur, hR, hcs, hcap, hrows⟩ := hok.cells hflat
  obtain ⟨_, hrow⟩ := hrows 0 _ rfl
  obtain ⟨u0, q0, _, r0⟩ := hrow 0 _ rfl
  simp only [RepA] at r0
  have e0 := (r0.2 L0 hL).2
  subst e0
  simp only [Nat.zero_mul, Nat.zero_add] at q0
  rw [show (⟨L0.blk, 0 * L0.m + 0, none⟩ : Addr) = ⟨L0.blk, 0, none⟩ by simp]
  refine (Any.Builder_copyCheck_used L X L0.blk w (by rw [hR.cell]; exact q0)).mono ?_
  rintro ex w' ⟨rfl, rfl⟩
  refine ⟨_, g, rfl, h, by simp only [RepA, RepAs]; exact ⟨[], rfl, rfl⟩, Step.refl g _, ?_⟩
  intro i j hij
  simp only [List.mem_cons, List.not_mem_nil, or_false, Prod.mk.injEq] at hij
  rcases hij with ⟨rfl, rfl⟩ | ⟨rfl, rfl⟩ <;> rfl

theorem string_px (L : Lays.n169 P ρ) (X : Builder.Extra P ρ) (hent : Enters P (ρ.f 169)) (hne : ρ.t 5 ≠ strE) (p : AV) (l : List UInt8) (h0 : l ≠ []) :
    PX P (ρ.f 169) [.ptr 0 0 0] [(0, ⟨ρ.t 72, 2, [[p, .hs 1 0 l.length]]⟩), (1, ⟨ρ.t 5, 1, dr (l.map bRow)⟩)] [] [] (.d (strD l)) := by
  refine ⟨hent, fun g w vs h hu hvs => ?_⟩
  simp only [RepAs] at hvs
  obtain ⟨v0, _, rfl, h0', rfl⟩ := hvs
  obtain ⟨L0, hL, hok⟩ := h.own 0 ⟨ρ.t 72, 2, [[p, .hs 1 0 l.length]]⟩ (by simp [objL, find])
  obtain ⟨L1, hL1, hok1⟩ := h.own 1 ⟨ρ.t 5, 1, dr (l.map bRow)⟩ (by simp [objL, find])
  simp only [RepA] at h0'
  obtain ⟨hflat, rfl⟩ := h0'.2 L0 hL
  obtain ⟨cur, hR, hcs, hcap, hrows⟩ := hok.cells hflat
  obtain ⟨_, hrow⟩ := hrows 0 _ rfl
  obtain ⟨u1, q1, _, r1⟩ := hrow 1 _ rfl
  simp only [RepA] at r1
  have hv1 : L1.virt = false := by
    cases hv : L1.virt with
    | false => rfl
    | true =>
      have := congrArg List.length (hok1.virt hv)
      simp [dr] at this
      exact absurd this h0
  have hf1 : L1.virt = false ∧ L1.map = false := by
    rcases r1.2 L1 hL1 with ⟨hv, _⟩ | ⟨hv, _⟩
    · rw [hv1] at hv; cases hv
    · exact hv
  have e1 : u1 = .slice (some ⟨L1.blk, 0, none⟩) l.length L1.cap := by
    rcases r1.2 L1 hL1 with ⟨hv, _⟩ | ⟨_, _, hv⟩
    · rw [hv1] at hv; cases hv
    · rw [hv]; simp
  subst e1
  obtain ⟨cur1, hR1, hcs1, hcap1, hrows1⟩ := hok1.cells hf1
  have hm1 : L1.m = 1 := hok1.m
  have hlen1 := hok1.len hf1.2
  simp only [dr, List.length_map] at hlen1
  have hb1 := hR1.plain hne
  obtain ⟨el0, fr0, hb0, _⟩ := hR
  have hcells : ∀ (j : Nat) (x : UInt8), l[j]? = some x → cur1[j]? = some (Value.int .u8 x.toNat) := fun j x hj => by
    obtain ⟨_, hr⟩ := hrows1 j ((bRow x).map AV.d) (by simp [dr, hj])
    obtain ⟨u, a1, _, a3⟩ := hr 0 (.d (.int .u8 x.toNat)) rfl
    simp only [RepA, RepD] at a3
    subst a3
    rw [hm1] at a1
    simpa using a1
  have hm0 : L0.m = 2 := hok.m
  have hc := string_exact L X L0.blk L1.blk L1.cap cur1 cur fr0 (0, 0) el0 l w hb0 (by simpa [hm0] using q1) hb1 h0 hlen1 hcap1 (by rw [hcs1, hm1]; omega) hcells
  rw [show (⟨L0.blk, 0 * L0.m + 0, none⟩ : Addr) = ⟨L0.blk, 0, none⟩ by simp]
  refine hc.mono ?_
  rintro ex w' ⟨rfl, rfl⟩
  obtain ⟨g1, a1, a2, a3, k1, s1, l1⟩ := HRel.drop h 0
  obtain ⟨g2, b1, b2, b3, k2, s2, l2⟩ := HRel.drop k1 1
  have hnone : ∀ id, g2.loc id = none := fun id => k2.gone id (by
    simp only [upd1, objL, find]
    by_cases e0 : id = 0
    · subst e0; simp
    · by_cases e1 : id = 1
      · subst e1; simp
      · have h1 : ¬ (0 = id) := fun h => e0 h.symm
        have h2 : ¬ (1 = id) := fun h => e1 h.symm
        simp [e0, e1, h1, h2])
  have hro : g2.ro = g.ro := b2.trans a2
  have hsz : (w.drew.freeze ⟨L1.blk, 0, none⟩ l.length).heap.size = w.heap.size := by
    unfold World.freeze
    split
    · rfl
    · show (Array.modify w.heap _ _).size = _
      rw [Array.size_modify]
  refine ⟨_, g2, rfl, ⟨fun id o ho => (by simp [objL, find] at ho), fun id _ => hnone id, fun id M hM => (by rw [hnone] at hM; cases hM), fun id id' M M' hM => (by rw [hnone] at hM; cases hM), fun b hb => (by rw [hsz]; exact h.ro b (hro ▸ hb))⟩, by simp only [RepA, RepD], ?_, fun i j hij => by simp at hij⟩
  refine ⟨?_, ?_, ?_, by rw [hsz]; exact Nat.le_refl _, fun b hb hno => ?_, fun b ⟨x, M, hM, _⟩ => (by rw [hnone] at hM; cases hM), fun b hb => (by rw [hro]; exact hb), fun b hb => .inl (by rw [hro] at hb; exact hb)⟩
  · unfold World.freeze; split <;> rfl
  · unfold World.freeze
    split
    · exact ⟨rfl, .inr (Nat.le_succ _)⟩
    · exact ⟨rfl, .inr (Nat.le_succ _)⟩
  · unfold World.freeze; split <;> rfl
  · have hne1 : L1.blk ≠ b := fun e => hno ⟨1, L1, hL1, hv1, e⟩
    unfold World.freeze
    split
    · rfl
    · simp only
      rw [Array.getElem?_modify, if_neg hne1]
      rfl

theorem repeat_pc (hF : Flag.p) (L : Lays.n105 P ρ) (X : Builder.Extra P ρ) (hent : Enters P (ρ.f 105)) (c : UInt8) (n : Nat) (h1 : 1 ≤ n) (hn : n ≤ 140737488355328) : PC P (ρ.f 105) [strD [c], .int .i64 n] (.p (strD (List.replicate n c))) := by
  have hrep : ∀ n, Lib.repeatL [c] n = List.replicate n c := fun n => by
    induction n with
    | zero => rfl
    | succ n ih => simp [Lib.repeatL, ih, List.replicate_succ]
  refine ⟨hent, fun ro w vs hro hd => ?_⟩
  simp only [RepDs, RepD] at hd
  obtain ⟨_, _, rfl, rfl, _, _, rfl, rfl, rfl⟩ := hd
  by_cases e : n = 1
  · subst e
    refine (Any.strings_Repeat_one L ⟨[c].toArray⟩ w).mono ?_
    rintro ex w' ⟨rfl, rfl⟩
    exact ⟨_, rfl, below_refl _ _, by simp [RepRes, RepD]⟩
  · refine (Any.strings_Repeat_main L X ⟨[c].toArray⟩ n w (by omega) (by omega) (by simpa [ByteArray.size] using hn) (by simp [ByteArray.size])).mono ?_
    rintro ex w' ⟨rfl, hb⟩
    exact ⟨_, rfl, ⟨hb.os, ⟨hb.tape, .inl hF⟩, hb.output, hb.size, hb.block⟩, by simp only [RepRes, RepD, hrep]⟩

theorem count_pc (L : Lays.n138 P ρ) (hent : Enters P (ρ.f 138)) (l : List UInt8) (c : UInt8) : PC P (ρ.f 138) [strD l, strD [c]] (.p (.int .i64 (l.count c))) := by
  refine ⟨hent, fun ro w vs hro hd => ?_⟩
  simp only [RepDs, RepD] at hd
  obtain ⟨_, _, rfl, rfl, _, _, rfl, rfl, rfl⟩ := hd
  refine (Any.strings_Count_one L ⟨l.toArray⟩ c w).mono ?_
  rintro ex w' ⟨rfl, rfl⟩
  exact ⟨_, rfl, below_refl _ _, by simp [RepRes, RepD, Lib.countByte]⟩

theorem index_pc (L : Lays.n143 P ρ) (hent : Enters P (ρ.f 143)) (l : List UInt8) (c : UInt8) : PC P (ρ.f 143) [strD l, strD [c]] (.p (.int .i64 (Lib.indexByte l c))) := by
  refine ⟨hent, fun ro w vs hro hd => ?_⟩
  simp only [RepDs, RepD] at hd
  obtain ⟨_, _, rfl, rfl, _, _, rfl, rfl, rfl⟩ := hd
  refine (Any.strings_Index_one L ⟨l.toArray⟩ c w).mono ?_
  rintro ex w' ⟨rfl, rfl⟩
  exact ⟨_, rfl, below_refl _ _, by simp [RepRes, RepD]⟩
end
end Go.Abs

namespace Go.Proofs.YtgicofpllopjmaaDoor
open Go.Abs Go.Shelf
theorem size_str (l : List UInt8) : (ByteArray.mk l.toArray).size = l.length := by simp [ByteArray.size]
attribute [push_cast] size_str

def countS_ren : Go.Shelf.Ren := ⟨fun | 138 => 72 | 195 => 89 | 218 => 90 | 143 => 88 | 219 => 97 | 217 => 100 | 225 => 101 | 224 => 102 | 267 => 103 | 266 => 104 | 314 => 105 | n => n, fun | 9 => 9 | 3 => 3 | 4 => 4 | 5 => 5 | 0 => 0 | 46 => 73 | 146 => 98 | 51 => 97 | n => n, fun | 1 => 0 | n => n⟩
theorem countS_lays : Lays.n138 Tryd.prog countS_ren where
  mixed := by kernel_rfl
  f138 := Tryd.func72.trans (congrArg some (by kernel_rfl))
  f143 := Tryd.func88.trans (congrArg some (by kernel_rfl))
  f195 := Tryd.func89.trans (congrArg some (by kernel_rfl))
  f217 := Tryd.func100.trans (congrArg some (by kernel_rfl))
  f218 := Tryd.func90.trans (congrArg some (by kernel_rfl))
  f219 := Tryd.func97.trans (congrArg some (by kernel_rfl))
  f224 := Tryd.func102.trans (congrArg some (by kernel_rfl))
  f225 := Tryd.func101.trans (congrArg some (by kernel_rfl))
  f266 := Tryd.func104.trans (congrArg some (by kernel_rfl))
  f267 := Tryd.func103.trans (congrArg some (by kernel_rfl))
  f314 := Tryd.func105.trans (congrArg some (by kernel_rfl))
  t0 := Tryd.underlying0
  a0 := Tryd.isAgg0
  z0 := Tryd.sizeOf0
  v0 := Tryd.zeroValue0
  t3 := Tryd.underlying3
  a3 := Tryd.isAgg3
  z3 := Tryd.sizeOf3
  v3 := Tryd.zeroValue3
  t4 := Tryd.underlying4
  a4 := Tryd.isAgg4
  z4 := Tryd.sizeOf4
  v4 := Tryd.zeroValue4
  t5 := Tryd.underlying5
  a5 := Tryd.isAgg5
  z5 := Tryd.sizeOf5
  v5 := Tryd.zeroValue5
  t9 := Tryd.underlying9
  a9 := Tryd.isAgg9
  z9 := Tryd.sizeOf9
  v9 := Tryd.zeroValue9
  t46 := Tryd.underlying73
  a46 := Tryd.isAgg73
  z46 := Tryd.sizeOf73
  v46 := Tryd.zeroValue73
  t51 := Tryd.underlying97
  a51 := Tryd.isAgg97
  z51 := Tryd.sizeOf97
  v51 := Tryd.zeroValue97
  t146 := Tryd.underlying98
  a146 := Tryd.isAgg98
  z146 := Tryd.sizeOf98
  v146 := Tryd.zeroValue98
  g1 := by kernel_rfl
def indexS_ren : Go.Shelf.Ren := ⟨fun | 143 => 88 | 219 => 97 | 217 => 100 | 225 => 101 | 224 => 102 | 267 => 103 | 266 => 104 | 314 => 105 | n => n, fun | 9 => 9 | 3 => 3 | 4 => 4 | 5 => 5 | 46 => 73 | 146 => 98 | 51 => 97 | n => n, fun | 1 => 0 | n => n⟩
theorem indexS_lays : Lays.n143 Tryd.prog indexS_ren where
  mixed := by kernel_rfl
  f143 := Tryd.func88.trans (congrArg some (by kernel_rfl))
  f217 := Tryd.func100.trans (congrArg some (by kernel_rfl))
  f219 := Tryd.func97.trans (congrArg some (by kernel_rfl))
  f224 := Tryd.func102.trans (congrArg some (by kernel_rfl))
  f225 := Tryd.func101.trans (congrArg some (by kernel_rfl))
  f266 := Tryd.func104.trans (congrArg some (by kernel_rfl))
  f267 := Tryd.func103.trans (congrArg some (by kernel_rfl))
  f314 := Tryd.func105.trans (congrArg some (by kernel_rfl))
  t3 := Tryd.underlying3
  a3 := Tryd.isAgg3
  z3 := Tryd.sizeOf3
  v3 := Tryd.zeroValue3
  t4 := Tryd.underlying4
  a4 := Tryd.isAgg4
  z4 := Tryd.sizeOf4
  v4 := Tryd.zeroValue4
  t5 := Tryd.underlying5
  a5 := Tryd.isAgg5
  z5 := Tryd.sizeOf5
  v5 := Tryd.zeroValue5
  t9 := Tryd.underlying9
  a9 := Tryd.isAgg9
  z9 := Tryd.sizeOf9
  v9 := Tryd.zeroValue9
  t46 := Tryd.underlying73
  a46 := Tryd.isAgg73
  z46 := Tryd.sizeOf73
  v46 := Tryd.zeroValue73
  t51 := Tryd.underlying97
  a51 := Tryd.isAgg97
  z51 := Tryd.sizeOf97
  v51 := Tryd.zeroValue97
  t146 := Tryd.underlying98
  a146 := Tryd.isAgg98
  z146 := Tryd.sizeOf98
  v146 := Tryd.zeroValue98
  g1 := by kernel_rfl
theorem scount_ok (l : List UInt8) (c : UInt8) : PC Tryd.prog 72 [strD l, strD [c]] (.p (.int .i64 (l.count c))) :=
  count_pc countS_lays ⟨_, Tryd.func72, by kernel_rfl, by kernel_rfl⟩ l c
theorem sindex_ok (l : List UInt8) (c : UInt8) : PC Tryd.prog 88 [strD l, strD [c]] (.p (.int .i64 (Lib.indexByte l c))) :=
  index_pc indexS_lays ⟨_, Tryd.func88, by kernel_rfl, by kernel_rfl⟩ l c
end Go.Proofs.YtgicofpllopjmaaDoor

namespace Go.Proofs.YtgicofpllopjmaaDoor
open Go.Abs Go.Shelf

theorem str_und : Tryd.prog.underlying 9 = some .string := Tryd.underlying9
def sfxB (s : List UInt8) : Bool := decide (1 ≤ s.length) && (s.drop (s.length - 1) == [10])
theorem sfx_last {s : List UInt8} : sfxB s = decide (s.getLast? = some 10) := by
  unfold sfxB
  rcases List.eq_nil_or_concat s with rfl | ⟨m, x, rfl⟩
  · simp
  · simp
    rw [Bool.eq_iff_iff]; simp
theorem hasSfx_ok (s : List UInt8) (hs : s.length ≤ 1000000) : PC Tryd.prog 86 [strD s, strD [10]] (.p (.bool (sfxB s))) := by
  have h1 := wrap_i64 (n := (s.length : Int) - 1) (by omega) (by omega)
  by_cases q : 1 ≤ s.length
  · have q1 : decide ((1 : Int) ≤ s.length) = true := by simp; omega
    have o1 := fun (x y : Operand) => opres_slice_from (P := Tryd.prog) (x := x) (y := y) str_und s .i64 ((s.length : Int) - 1) (by omega) (by omega)
    rw [show ((s.length : Int) - 1).toNat = s.length - 1 by omega] at o1
    have o2 := fun (x y : Operand) (yt : TypeId) => opres_eq (P := Tryd.prog) (x := x) (y := y) (yt := yt) str_und (s.drop (s.length - 1)) [10]
    have hv : sfxB s = (s.drop (s.length - 1) == [10]) := by unfold sfxB; simp; omega
    rw [hv]
    generalize s.drop (s.length - 1) = d at *
    refine pc_of_awp cx (fn := Tryd.f86) (c := _) Tryd.func86 rfl rfl (Nat.le_of_ble_eq_true rfl) ?_
    rw [Tryd.ntmps86]; refine Nav.imp ?_
    refine awp_region cx [] fun K hK => ?_
    simp [push_cast]
    repeat (refine And.intro (by clear hK; intros; first | omega | (simp_all; done) | (simp_all <;> omega)) ?_)
    refine hK _ ?_; clear hK K; refine Nav.imp ?_
    refine awp_region cx [(12, .p (strD d)), (14, .p (.bool (d == [10])))] fun K hK => ?_
    simp [push_cast, q1, h1, o1, o2]
    repeat (refine And.intro (by clear hK; intros; first | omega | (simp_all; done) | (simp_all <;> omega)) ?_)
    refine hK _ ?_; clear hK K; refine Nav.imp ?_
    simp [push_cast]
  · have hv : sfxB s = false := by unfold sfxB; simp; omega
    have q1 : decide ((1 : Int) ≤ s.length) = false := by simp; omega
    rw [hv]
    refine pc_of_awp cx (fn := Tryd.f86) (c := _) Tryd.func86 rfl rfl (Nat.le_of_ble_eq_true rfl) ?_
    rw [Tryd.ntmps86]; refine Nav.imp ?_
    refine awp_region cx [] fun K hK => ?_
    simp [push_cast]
    repeat (refine And.intro (by clear hK; intros; first | omega | (simp_all; done) | (simp_all <;> omega)) ?_)
    refine hK _ ?_; clear hK K; refine Nav.imp ?_
    refine awp_region cx [(12, .skip), (14, .skip)] fun K hK => ?_
    simp [push_cast, q1]
    repeat (refine And.intro (by clear hK; intros; first | omega | (simp_all; done) | (simp_all <;> omega)) ?_)
    refine hK _ ?_; clear hK K; refine Nav.imp ?_
    simp [push_cast]
theorem cutSfx_ok (s : List UInt8) (hs : s.length ≤ 1000000) : PC Tryd.prog 70 [strD s, strD [10]] (.p (.tup [strD (if sfxB s then s.dropLast else s), .bool (sfxB s)])) := by
  have c1 := hasSfx_ok s hs
  have h1 := wrap_i64 (n := (s.length : Int) - 1) (by omega) (by omega)
  cases hv : sfxB s with
  | false =>
    rw [hv] at c1
    refine pc_of_awp cx (fn := Tryd.f70) (c := _) Tryd.func70 rfl rfl (Nat.le_of_ble_eq_true rfl) ?_
    rw [Tryd.ntmps70]; refine Nav.imp ?_
    refine awp_region cx [] fun K hK => ?_
    simp [push_cast]
    repeat (refine And.intro (by clear hK; intros; first | omega | (simp_all; done) | (simp_all <;> omega)) ?_)
    refine hK _ ?_; clear hK K; refine Nav.imp ?_
    refine awp_region cx [(2, .p (.bool false))] fun K hK => ?_
    simp [push_cast, c1]
    repeat (refine And.intro (by clear hK; intros; first | omega | (simp_all; done) | (simp_all <;> omega)) ?_)
    refine hK _ ?_; clear hK K; refine Nav.imp ?_
    refine awp_cond (b := true) (by simp [push_cast]) (fun hb => ?_) (fun hb => ?_) <;> (refine Nav.imp ?_)
    · refine awp_region cx [] fun K hK => ?_
      simp [push_cast]
      repeat (refine And.intro (by clear hK; intros; first | omega | (simp_all; done) | (simp_all <;> omega)) ?_)
      refine hK _ ?_; clear hK K; refine Nav.imp ?_
      simp [push_cast]
    · simp at hb
  | true =>
    rw [hv] at c1
    have q : 1 ≤ s.length := by
      simp only [sfxB, Bool.and_eq_true, decide_eq_true_eq] at hv
      exact hv.1
    have o1 := fun (x y : Operand) => opres_slice_to (P := Tryd.prog) (x := x) (y := y) str_und s .i64 ((s.length : Int) - 1) (by omega) (by omega)
    rw [show ((s.length : Int) - 1).toNat = s.length - 1 by omega, ← List.dropLast_eq_take] at o1
    simp only [if_true]
    generalize s.dropLast = d at *
    refine pc_of_awp cx (fn := Tryd.f70) (c := _) Tryd.func70 rfl rfl (Nat.le_of_ble_eq_true rfl) ?_
    rw [Tryd.ntmps70]; refine Nav.imp ?_
    refine awp_region cx [] fun K hK => ?_
    simp [push_cast]
    repeat (refine And.intro (by clear hK; intros; first | omega | (simp_all; done) | (simp_all <;> omega)) ?_)
    refine hK _ ?_; clear hK K; refine Nav.imp ?_
    refine awp_region cx [(2, .p (.bool true))] fun K hK => ?_
    simp [push_cast, c1]
    repeat (refine And.intro (by clear hK; intros; first | omega | (simp_all; done) | (simp_all <;> omega)) ?_)
    refine hK _ ?_; clear hK K; refine Nav.imp ?_
    refine awp_cond (b := false) (by simp [push_cast]) (fun hb => ?_) (fun hb => ?_) <;> (refine Nav.imp ?_)
    · simp at hb
    · refine awp_region cx [(6, .p (strD d))] fun K hK => ?_
      simp [push_cast, h1, o1]
      repeat (refine And.intro (by clear hK; intros; first | omega | (simp_all; done) | (simp_all <;> omega)) ?_)
      refine hK _ ?_; clear hK K; refine Nav.imp ?_
      simp [push_cast]
theorem cutSuffix_ok (s : List UInt8) (hs : s.length ≤ 1000000) : PC Tryd.prog 53 [strD s, strD [10]] (.p (.tup [strD (if sfxB s then s.dropLast else s), .bool (sfxB s)])) := by
  have c1 := cutSfx_ok s hs
  generalize (if sfxB s then s.dropLast else s) = d at *
  generalize sfxB s = b at *
  refine pc_of_awp cx (fn := Tryd.f53) (c := _) Tryd.func53 rfl rfl (Nat.le_of_ble_eq_true rfl) ?_
  rw [Tryd.ntmps53]; refine Nav.imp ?_
  refine awp_region cx [] fun K hK => ?_
  simp [push_cast]
  repeat (refine And.intro (by clear hK; intros; first | omega | (simp_all; done) | (simp_all <;> omega)) ?_)
  refine hK _ ?_; clear hK K; refine Nav.imp ?_
  refine awp_region cx [(2, .p (.tup [strD d, .bool b]))] fun K hK => ?_
  simp [push_cast, c1]
  repeat (refine And.intro (by clear hK; intros; first | omega | (simp_all; done) | (simp_all <;> omega)) ?_)
  refine hK _ ?_; clear hK K; refine Nav.imp ?_
  simp [push_cast]
abbrev sRow (x : List UInt8) : List D := [strD x]
abbrev encS (l : List (List UInt8)) : D := .sl (l.map sRow)
theorem nl_split : ∀ {l : List UInt8}, 0 < l.count 10 → ∃ a b, l = a ++ 10 :: b ∧ (10 : UInt8) ∉ a ∧ Lib.indexByte l 10 = (a.length : Nat) ∧ b.count 10 + 1 = l.count 10
  | [], h => by simp at h
  | c :: l, h => by
    by_cases e : c = 10
    · subst e
      exact ⟨[], l, rfl, by simp, by simp [Lib.indexByte], by simp⟩
    · have h2 : 0 < l.count 10 := by
        rw [List.count_cons_of_ne (by simpa using e)] at h; exact h
      obtain ⟨a, b, h3, h4, h5, h6⟩ := nl_split h2
      refine ⟨c :: a, b, by rw [h3]; rfl, by simp only [List.mem_cons, not_or]; exact ⟨fun x => e x.symm, h4⟩, ?_, by rw [List.count_cons_of_ne (by simpa using e)]; exact h6⟩
      simp [Lib.indexByte, e, h5]
set_option maxHeartbeats 4000000 in
theorem genSplit_ok (s : List UInt8) (hs : s.length ≤ 1000000) : PC Tryd.prog 71 [strD s, strD [10], .int .i64 0, .int .i64 (-1)] (.p (encS (spl s))) := by
  have c1 := fun l => sindex_ok l 10
  have c2 := scount_ok s 10
  have hcl : s.count 10 ≤ s.length := List.count_le_length
  have o0 := fun (x y : Operand) (yt : TypeId) => opres_eq (P := Tryd.prog) (x := x) (y := y) (yt := yt) str_und [10] []
  have e1 := wrap_i64 (n := (s.count 10 : Int) + 1) (by omega) (by omega)
  have e2 := wrap_i64 (n := (s.length : Int) + 1) (by omega) (by omega)
  have e3 : min ((s.count 10 : Int) + 1) ((s.length : Int) + 1) = ((s.count 10 + 1 : Nat) : Int) := by omega
  have e4 : IntKind.i64.wrap (((s.count 10 + 1 : Nat) : Int) - 1) = (s.count 10 : Nat) := by rw [wrap_i64 (by omega) (by omega)]; omega
  have e5 : ((s.count 10 + 1 : Nat) : Int) * 16 ≤ 281474976710656 := by omega
  generalize hN : s.count 10 = N at *
  refine pc_of_awp cx (fn := Tryd.f71) (c := _) Tryd.func71 rfl rfl (Nat.le_of_ble_eq_true rfl) ?_
  rw [Tryd.ntmps71]; refine Nav.imp ?_
  refine awp_region cx [] fun K hK => ?_
  simp [push_cast]
  repeat (refine And.intro (by clear hK; intros; first | omega | (simp_all; done) | (simp_all <;> omega)) ?_)
  refine hK _ ?_; clear hK K; refine Nav.imp ?_
  refine awp_region cx [] fun K hK => ?_
  simp [push_cast]
  repeat (refine And.intro (by clear hK; intros; first | omega | (simp_all; done) | (simp_all <;> omega)) ?_)
  refine hK _ ?_; clear hK K; refine Nav.imp ?_
  refine awp_cond (b := false) (by simp [push_cast]) (fun hb => ?_) (fun hb => ?_) <;> (refine Nav.imp ?_)
  · simp at hb
  · refine awp_region cx [(1, .p (.bool false))] fun K hK => ?_
    simp [push_cast, o0]
    repeat (refine And.intro (by clear hK; intros; first | omega | (simp_all; done) | (simp_all <;> omega)) ?_)
    refine hK _ ?_; clear hK K; refine Nav.imp ?_
    refine awp_cond (b := false) (by simp [push_cast]) (fun hb => ?_) (fun hb => ?_) <;> (refine Nav.imp ?_)
    · simp at hb
    · refine awp_region cx [] fun K hK => ?_
      simp [push_cast]
      repeat (refine And.intro (by clear hK; intros; first | omega | (simp_all; done) | (simp_all <;> omega)) ?_)
      refine hK _ ?_; clear hK K; refine Nav.imp ?_
      refine awp_cond (b := true) (by simp [push_cast]) (fun hb => ?_) (fun hb => ?_) <;> (refine Nav.imp ?_)
      · refine awp_region cx [(2, .p (.int .i64 N))] fun K hK => ?_
        simp [push_cast, c2, e1]
        repeat (refine And.intro (by clear hK; intros; first | omega | (simp_all; done) | (simp_all <;> omega)) ?_)
        refine hK _ ?_; clear hK K; refine Nav.imp ?_
        refine awp_region cx [] fun K hK => ?_
        simp [push_cast, e2, e3]
        repeat (refine And.intro (by clear hK; intros; first | omega | (simp_all; done) | (simp_all <;> omega)) ?_)
        refine hK _ ?_; clear hK K; refine Nav.imp ?_
        have e6 : ((N : Int) + 1).toNat = N + 1 := by omega
        have e7 : IntKind.i64.wrap ((N : Int) + 1 - 1) = N := by rw [wrap_i64 (by omega) (by omega)]; omega
        have e8 : (16 : Int) * ((N : Int) + 1) ≤ 281474976710656 := by omega
        refine awp_region cx [] fun K hK => ?_
        simp [push_cast, e6, e8]
        repeat (refine And.intro (by clear hK; intros; first | omega | (simp_all; done) | (simp_all <;> omega)) ?_)
        refine hK _ ?_; clear hK K; refine Nav.imp ?_
        refine awp_region cx [] fun K hK => ?_
        simp [push_cast, e7]
        repeat (refine And.intro (by clear hK; intros; first | omega | (simp_all; done) | (simp_all <;> omega)) ?_)
        refine hK _ ?_; clear hK K; refine Nav.imp ?_
        refine awp_region cx [] fun K hK => ?_
        simp [push_cast]
        repeat (refine And.intro (by clear hK; intros; first | omega | (simp_all; done) | (simp_all <;> omega)) ?_)
        refine hK _ ?_; clear hK K; refine Nav.imp ?_
        refine awp_loop (β := List (List UInt8) × Nat × List UInt8) (fun z => ⟨66, [(0, .d (strD z.2.2)), (1, .d (strD [10])), (2, .d (.int .i64 0)), (3, .d (.int .i64 N)), (9, .hs 0 0 (N + 1)), (10, .d (.int .i64 z.2.1))], [(0, some ⟨9, 1, dr (z.1.map sRow)⟩)], 1⟩) (fun z => z.1.length = N + 1 ∧ z.1.take z.2.1 ++ spl z.2.2 = spl s ∧ z.2.2.count 10 + z.2.1 = N ∧ z.2.2.length ≤ 1000000) (fun z => N - z.2.1) (List.replicate (N + 1) [], 0, s) ?_ ⟨by simp, by simp, by simp [hN], hs⟩ ?_
        · have e9 := wrap_i64 (n := (N : Int)) (by omega) (by omega)
          have hz : List.replicate (N + 1) [AV.d (D.str { data := #[] })] = dr (List.replicate (N + 1) (sRow [])) := by simp [dr]
          rw [hz]
          refine weak_of [(0, some 19)] rfl (by simp [upT, up, upL, push_cast, e9]) (by simp [upH, upR, upL, up, push_cast, e9]) (by simp [namesOk, push_cast]) (by simp [olds])
        · rintro ⟨L, i, r⟩ ⟨hL, hsp, hct, hrl⟩
          simp only at hL hsp hct hrl
          refine Nav.imp ?_
          refine awp_region cx [] fun K hK => ?_
          simp [push_cast]
          repeat (refine And.intro (by clear hK; intros; first | omega | (simp_all; done) | (simp_all <;> omega)) ?_)
          refine hK _ ?_; clear hK K; refine Nav.imp ?_
          refine awp_cond (b := decide (i < N)) (by simp [push_cast]) (fun hb => ?_) (fun hb => ?_) <;> (refine Nav.imp ?_)
          · have hlt : i < N := by simpa using hb
            obtain ⟨a, b, hr, hno, hix, hcb⟩ := nl_split (l := r) (by omega)
            have c3 := c1 r
            rw [hix] at c3
            have hal : a.length + 1 ≤ r.length := by rw [hr]; simp
            have o1 := fun (x y : Operand) => opres_slice_to (P := Tryd.prog) (x := x) (y := y) str_und r .i64 (a.length : Int) (by omega) (by omega)
            have o2 := fun (x y : Operand) => opres_slice_from (P := Tryd.prog) (x := x) (y := y) str_und r .i64 ((a.length : Int) + 1) (by omega) (by omega)
            rw [show ((a.length : Int)).toNat = a.length by omega, show r.take a.length = a by rw [hr]; simp] at o1
            rw [show ((a.length : Int) + 1).toNat = a.length + 1 by omega, show r.drop (a.length + 1) = b by rw [hr]; simp] at o2
            have hbl : b.length ≤ 1000000 := by rw [hr] at hrl; simp at hrl; omega
            have hsp2 : (L.set i a).take (i + 1) ++ spl b = spl s := by
              rw [hr, spl_app hno] at hsp
              rw [← hsp, List.take_set, List.take_add_one, List.set_append_right _ _ (by simp; omega)]
              have : L[i]? = some (L[i]'(by omega)) := List.getElem?_eq_getElem _
              rw [this]
              simp [show i - min i L.length = 0 by omega]
            have f1 := wrap_i64 (n := (a.length : Int)) (by omega) (by omega)
            have f2 := wrap_i64 (n := (a.length : Int) + 1) (by omega) (by omega)
            have f3 := wrap_i64 (n := (i : Int) + 1) (by omega) (by omega)
            obtain ⟨old, hold⟩ := getq (show i < L.length by omega)
            generalize hset : L.set i a = L2 at *
            have hdr : dr (L2.map sRow) = (dr (L.map sRow)).set i [AV.d (strD a)] := by rw [← hset, List.map_set, dr_set]; rfl
            have hL2 : L2.length = N + 1 := by rw [← hset]; simpa using hL
            clear hr hset
            generalize a.length = al at *
            refine awp_region cx [(2, .p (.int .i64 al))] fun K hK => ?_
            simp [push_cast, c3]
            repeat (refine And.intro (by clear hK; intros; first | omega | (simp_all; done) | (simp_all <;> omega)) ?_)
            refine hK _ ?_; clear hK K; refine Nav.imp ?_
            refine awp_region cx [] fun K hK => ?_
            simp [push_cast]
            repeat (refine And.intro (by clear hK; intros; first | omega | (simp_all; done) | (simp_all <;> omega)) ?_)
            refine hK _ ?_; clear hK K; refine Nav.imp ?_
            refine awp_cond (b := false) (by simp [push_cast]) (fun hb => ?_) (fun hb => ?_) <;> (refine Nav.imp ?_)
            · simp at hb
            · refine awp_region cx [(6, .p (strD a))] fun K hK => ?_
              simp [push_cast, o1, f1, hold]
              repeat (refine And.intro (by clear hK; intros; first | omega | (simp_all; done) | (simp_all <;> omega)) ?_)
              refine hK _ ?_; clear hK K; refine Nav.imp ?_
              refine awp_region cx [(5, .p (strD b))] fun K hK => ?_
              simp [push_cast, o2, f2]
              repeat (refine And.intro (by clear hK; intros; first | omega | (simp_all; done) | (simp_all <;> omega)) ?_)
              refine hK _ ?_; clear hK K; refine Nav.imp ?_
              refine awp_region cx [] fun K hK => ?_
              simp [push_cast, f3]
              repeat (refine And.intro (by clear hK; intros; first | omega | (simp_all; done) | (simp_all <;> omega)) ?_)
              refine hK _ ?_; clear hK K; refine Nav.imp ?_
              rw [← hdr]
              refine ⟨(L2, i + 1, b), ⟨hL2, hsp2, by simp only; omega, hbl⟩, by simp only; omega, ?_⟩
              refine weak_of [(0, some 0)] rfl (by simp [upT, up, upL, push_cast]) (by simp [upH, upR, upL, up, push_cast]) (by simp [namesOk, push_cast]) (by simp [olds])
          · have hge : i = N := by
              have := hb
              simp at this
              omega
            subst hge
            have hno : (10 : UInt8) ∉ r := by
              rw [← List.count_eq_zero]; omega
            rw [spl_none hno] at hsp
            have f3 := wrap_i64 (n := (i : Int) + 1) (by omega) (by omega)
            have hset : L.set i r = spl s := by
              rw [← hsp]
              apply List.ext_getElem?
              intro j
              by_cases h1 : j < i
              · rw [List.getElem?_set_ne (by omega), List.getElem?_append_left (by simp; omega), List.getElem?_take, if_pos h1]
              · by_cases h2 : j = i
                · subst h2
                  rw [List.getElem?_set_self (by omega), List.getElem?_append_right (by simp; omega)]
                  simp [show j - min j L.length = 0 by omega]
                · rw [List.getElem?_eq_none (by simp; omega), List.getElem?_eq_none (by simp; omega)]
            obtain ⟨old, hold⟩ := getq (show i < L.length by omega)
            have hdr : dr ((spl s).map sRow) = (dr (L.map sRow)).set i [AV.d (strD r)] := by rw [← hset, List.map_set, dr_set]; rfl
            have hlen : (spl s).length = i + 1 := by rw [← hset]; simpa using hL
            clear hset
            generalize spl s = T at *
            refine awp_region cx [] fun K hK => ?_
            simp [push_cast, hold]
            repeat (refine And.intro (by clear hK; intros; first | omega | (simp_all; done) | (simp_all <;> omega)) ?_)
            refine hK _ ?_; clear hK K; refine Nav.imp ?_
            rw [← hdr]
            refine awp_region cx [] fun K hK => ?_
            simp [push_cast, f3]
            repeat (refine And.intro (by clear hK; intros; first | omega | (simp_all; done) | (simp_all <;> omega)) ?_)
            refine hK _ ?_; clear hK K; refine Nav.imp ?_
            simp [push_cast]
            exact ⟨List.take_of_length_le (by simp; omega), by omega⟩
      · simp at hb
theorem split_ok (s : List UInt8) (hs : s.length ≤ 1000000) : PC Tryd.prog 54 [strD s, strD [10]] (.p (encS (spl s))) := by
  have c1 := genSplit_ok s hs
  generalize spl s = T at *
  refine pc_of_awp cx (fn := Tryd.f54) (c := _) Tryd.func54 rfl rfl (Nat.le_of_ble_eq_true rfl) ?_
  rw [Tryd.ntmps54]; refine Nav.imp ?_
  refine awp_region cx [] fun K hK => ?_
  simp [push_cast]
  repeat (refine And.intro (by clear hK; intros; first | omega | (simp_all; done) | (simp_all <;> omega)) ?_)
  refine hK _ ?_; clear hK K; refine Nav.imp ?_
  refine awp_region cx [(2, .p (encS T))] fun K hK => ?_
  simp [push_cast, c1]
  repeat (refine And.intro (by clear hK; intros; first | omega | (simp_all; done) | (simp_all <;> omega)) ?_)
  refine hK _ ?_; clear hK K; refine Nav.imp ?_
  simp [push_cast]
theorem count_two : ∀ l : List UInt8, decide (l.count 35 + l.count 46 = l.length) = l.all okCh ∧ l.count 35 + l.count 46 ≤ l.length
  | [] => by simp
  | c :: l => by
    obtain ⟨h1, h2⟩ := count_two l
    by_cases e1 : c = 35
    · subst e1
      refine ⟨?_, by simp; omega⟩
      rw [List.all_cons, show okCh 35 = true by rfl, Bool.true_and, ← h1]
      simp
      omega
    · by_cases e2 : c = 46
      · subst e2
        refine ⟨?_, by simp; omega⟩
        rw [List.all_cons, show okCh 46 = true by rfl, Bool.true_and, ← h1]
        simp
        omega
      · have hk : okCh c = false := by simp [okCh, e1, e2]
        rw [List.count_cons_of_ne (by simpa using e1), List.count_cons_of_ne (by simpa using e2), List.all_cons, hk]
        refine ⟨?_, by simp; omega⟩
        simp
        omega
theorem plain_ok (s : List UInt8) (hs : s.length ≤ 1000000) : PC Tryd.prog 55 [strD s] (.p (.bool (s.all okCh))) := by
  have c1 := scount_ok s 35
  have c2 := scount_ok s 46
  obtain ⟨h1, h2⟩ := count_two s
  rw [← h1]
  have e1 := wrap_i64 (n := (s.count 35 : Int) + (s.count 46 : Int)) (by omega) (by omega)
  have e2 : ((s.count 35 : Int) + (s.count 46 : Int) == (s.length : Int)) = decide (s.count 35 + s.count 46 = s.length) := by
    rw [Bool.eq_iff_iff]; simp; omega
  generalize s.count 35 = a at *
  generalize s.count 46 = b at *
  refine pc_of_awp cx (fn := Tryd.f55) (c := _) Tryd.func55 rfl rfl (Nat.le_of_ble_eq_true rfl) ?_
  rw [Tryd.ntmps55]; refine Nav.imp ?_
  refine awp_region cx [] fun K hK => ?_
  simp [push_cast]
  repeat (refine And.intro (by clear hK; intros; first | omega | (simp_all; done) | (simp_all <;> omega)) ?_)
  refine hK _ ?_; clear hK K; refine Nav.imp ?_
  refine awp_region cx [(1, .p (.int .i64 a)), (3, .p (.int .i64 b))] fun K hK => ?_
  simp [push_cast, c1, c2, e1, e2]
  repeat (refine And.intro (by clear hK; intros; first | omega | (simp_all; done) | (simp_all <;> omega)) ?_)
  refine hK _ ?_; clear hK K; refine Nav.imp ?_
  simp [push_cast]
end Go.Proofs.YtgicofpllopjmaaDoor

namespace Go.Proofs.YtgicofpllopjmaaDoor
open Go.Abs

set_option maxRecDepth 100000 in
theorem fine_big (l : List Run) (hl : l.length ≤ 9223372036854775807) : PC Tryd.prog 60 [encRuns l] (.p (.bool (fine l))) := by
  refine pc_of_awp cx (fn := Tryd.f60) (c := _) Tryd.func60 rfl rfl (Nat.le_of_ble_eq_true rfl) ?_
  rw [Tryd.ntmps60]; refine Nav.imp ?_
  refine awp_region cx [] fun K hK => ?_
  simp [push_cast]
  repeat (refine And.intro (by clear hK; intros; first | omega | (simp_all; done) | (simp_all <;> omega)) ?_)
  refine hK _ ?_; clear hK K; refine Nav.imp ?_
  refine awp_region cx [] fun K hK => ?_
  simp [push_cast]
  repeat (refine And.intro (by clear hK; intros; first | omega | (simp_all; done) | (simp_all <;> omega)) ?_)
  refine hK _ ?_; clear hK K; refine Nav.imp ?_
  refine awp_loop (β := Nat) (fun k => ⟨58, [(0, .d (encRuns l)), (3, .d (.int .i64 k))], [], 1⟩) (fun k => k ≤ l.length ∧ (List.range k).all (fnAt l) = true) (fun k => l.length - k) 0 ?_ ⟨Nat.zero_le _, rfl⟩ ?_
  · refine weak_of [] rfl (by simp [upT, up, upL, push_cast]) (by simp [upH, upR, upL, up, push_cast]) (by simp [namesOk, push_cast]) (by simp [olds])
  · intro k ⟨hk, hall⟩
    refine Nav.imp ?_
    refine awp_region cx [] fun K hK => ?_
    simp [push_cast]
    repeat (refine And.intro (by clear hK; intros; first | omega | (simp_all; done) | (simp_all <;> omega)) ?_)
    refine hK _ ?_; clear hK K; refine Nav.imp ?_
    refine awp_cond (b := decide ((k : Int) < l.length)) (by simp [push_cast]) (fun hb => ?_) (fun hb => ?_) <;> (refine Nav.imp ?_)
    · have hlt : k < l.length := by simpa using hb
      obtain ⟨r, hr⟩ := getq hlt
      obtain ⟨p, hp⟩ : ∃ p, l[k - 1]? = some p := getq (by omega)
      have e0 := wrap_i64 (n := (k : Int) + 1) (by omega) (by omega)
      have hat := fnAt_some hr hp
      obtain ⟨ra, rb⟩ := r
      by_cases hk0 : k = 0
      · subst hk0
        refine awp_region_draw cx mixed [] fun K hK => ?_
        simp [push_cast, hr, Run.row]
        repeat (refine And.intro (by clear hK; intros; first | omega | (simp_all; done) | (simp_all <;> omega)) ?_)
        refine hK _ _ (by kernel_rfl) ?_; clear hK K; refine Nav.imp ?_
        refine awp_cond (by simp [push_cast] <;> exact rfl) (fun hb => ?_) (fun hb => ?_) <;> (refine Nav.imp ?_)
        · simp at hb
          refine awp_region cx [] fun K hK => ?_
          simp [push_cast]
          repeat (refine And.intro (by clear hK; intros; first | omega | (simp_all; done) | (simp_all <;> omega)) ?_)
          refine hK _ ?_; clear hK K; refine Nav.imp ?_
          simp [push_cast]
          simp only [fine, Bool.and_eq_false_iff]
          refine .inl (all_range_false hlt ?_)
          rw [hat]; simp; omega
        · simp at hb
          refine awp_region cx [] fun K hK => ?_
          simp [push_cast, e0]
          repeat (refine And.intro (by clear hK; intros; first | omega | (simp_all; done) | (simp_all <;> omega)) ?_)
          refine hK _ ?_; clear hK K; refine Nav.imp ?_
          refine ⟨1, ⟨hlt, by rw [all_range_succ, hall, hat]; simp; omega⟩, by omega, ?_⟩
          refine weak_of [] rfl (by simp [upT, up, upL, push_cast]) (by simp [upH, upR, upL, up, push_cast]) (by simp [namesOk, push_cast]) (by simp [olds])
      · have e1 := wrap_i64 (n := (k : Int) - 1) (by omega) (by omega)
        have e2 : ((k : Int) - 1).toNat = k - 1 := by omega
        have hk1 : (0 : Int) < k := by omega
        have hk2 : (0 : Int) ≤ k - 1 := by omega
        have hk3 : 0 < k := by omega
        obtain ⟨pa, pb⟩ := p
        refine awp_region_draw cx mixed [] fun K hK => ?_
        simp [push_cast, hr, hp, Run.row, e1, e2, hk1, hk2, hk3]
        repeat (refine And.intro (by clear hK; intros; first | omega | (simp_all; done) | (simp_all <;> omega)) ?_)
        refine hK _ _ (by kernel_rfl) ?_; clear hK K; refine Nav.imp ?_
        refine awp_cond (by simp [push_cast] <;> exact rfl) (fun hb => ?_) (fun hb => ?_) <;> (refine Nav.imp ?_)
        · simp [hk3] at hb
          refine awp_region cx [] fun K hK => ?_
          simp [push_cast]
          repeat (refine And.intro (by clear hK; intros; first | omega | (simp_all; done) | (simp_all <;> omega)) ?_)
          refine hK _ ?_; clear hK K; refine Nav.imp ?_
          simp [push_cast]
          simp only [fine, Bool.and_eq_false_iff]
          refine .inl (all_range_false hlt ?_)
          rw [hat]; simp [hk0]; omega
        · simp [hk3] at hb
          refine awp_region cx [] fun K hK => ?_
          simp [push_cast, e0]
          repeat (refine And.intro (by clear hK; intros; first | omega | (simp_all; done) | (simp_all <;> omega)) ?_)
          refine hK _ ?_; clear hK K; refine Nav.imp ?_
          refine ⟨k + 1, ⟨hlt, by rw [all_range_succ, hall, hat]; simp [hk0]; omega⟩, by omega, ?_⟩
          refine weak_of [] rfl (by simp [upT, up, upL, push_cast]) (by simp [upH, upR, upL, up, push_cast]) (by simp [namesOk, push_cast]) (by simp [olds])
    · have hge : k = l.length := by simp at hb; omega
      subst hge
      refine awp_region cx [] fun K hK => ?_
      simp [push_cast]
      repeat (refine And.intro (by clear hK; intros; first | omega | (simp_all; done) | (simp_all <;> omega)) ?_)
      refine hK _ ?_; clear hK K; refine Nav.imp ?_
      simp [push_cast, fine, hall]

def smallR (R : List Row) : Prop := R.length ≤ 1000000 ∧ ∀ w ∈ R, w.runs.length ≤ 1000000
def bigR (R : List Row) : Prop := R.length ≤ 9223372036854775807 ∧ ∀ w ∈ R, w.runs.length ≤ 9223372036854775807
theorem big_of {R : List Row} (h : smallR R) : bigR R := ⟨by have := h.1; omega, fun w hw => by have := h.2 w hw; omega⟩

theorem validR_big (R : List Row) (hR : bigR R) : PC Tryd.prog 38 [.agg (regRow R)] (.p (.bool (validR R))) := by
  have hl := hR.1
  refine pc_of_awp cx (fn := Tryd.f38) (c := _) Tryd.func38 rfl rfl (Nat.le_of_ble_eq_true rfl) ?_
  rw [Tryd.ntmps38]; refine Nav.imp ?_
  refine awp_region cx [] fun K hK => ?_
  simp [push_cast]
  repeat (refine And.intro (by clear hK; intros; first | omega | (simp_all; done) | (simp_all <;> omega)) ?_)
  refine hK _ ?_; clear hK K; refine Nav.imp ?_
  refine awp_region cx [] fun K hK => ?_
  simp [push_cast]
  repeat (refine And.intro (by clear hK; intros; first | omega | (simp_all; done) | (simp_all <;> omega)) ?_)
  refine hK _ ?_; clear hK K; refine Nav.imp ?_
  refine awp_loop (β := Nat) (fun k => ⟨49, [(1, .ptr 0 0 0), (3, .d (.int .i64 k))], [(0, some ⟨24, 1, [(regRow R).map .d]⟩)], 1⟩) (fun k => k ≤ R.length ∧ (List.range k).all (rowAt R) = true) (fun k => R.length - k) 0 ?_ ⟨Nat.zero_le _, rfl⟩ ?_
  · refine weak_of [(0, some 0)] rfl (by simp [upT, up, upL, push_cast]) (by simp [upH, upR, upL, up, push_cast]) (by simp [namesOk, push_cast]) (by simp [olds])
  · intro k ⟨hk, hall⟩
    refine Nav.imp ?_
    refine awp_region cx [] fun K hK => ?_
    simp [push_cast]
    repeat (refine And.intro (by clear hK; intros; first | omega | (simp_all; done) | (simp_all <;> omega)) ?_)
    refine hK _ ?_; clear hK K; refine Nav.imp ?_
    refine awp_cond (b := decide ((k : Int) < R.length)) (by simp [push_cast]) (fun hb => ?_) (fun hb => ?_) <;> (refine Nav.imp ?_)
    · have hlt : k < R.length := by simpa using hb
      obtain ⟨r, hr⟩ := getq hlt
      obtain ⟨p, hp⟩ : ∃ p, R[k - 1]? = some p := getq (by omega)
      have e0 := wrap_i64 (n := (k : Int) + 1) (by omega) (by omega)
      have hat := rowAt_some hr hp
      have c1 := fine_big r.runs (hR.2 r (List.mem_of_getElem? hr))
      obtain ⟨y, ru⟩ := r
      simp only at c1 hat
      generalize hv : fine ru = v at c1
      rw [hv] at hat
      refine awp_region cx [] fun K hK => ?_
      simp [push_cast, hr, Row.row]
      repeat (refine And.intro (by clear hK; intros; first | omega | (simp_all; done) | (simp_all <;> omega)) ?_)
      refine hK _ ?_; clear hK K; refine Nav.imp ?_
      by_cases h1 : okB y = true
      · simp [okB] at h1
        have h1a : ¬ y < -4096 := by omega
        have h1b : ¬ (4096 ≤ y) := by omega
        have h1c : okB y = true := by simp [okB]; omega
        by_cases hk0 : k = 0
        · subst hk0
          refine awp_region cx [(28, .p (.bool v))] fun K hK => ?_
          simp [push_cast, h1a, h1b, hr, Row.row, c1]
          repeat (refine And.intro (by clear hK; intros; first | omega | (simp_all; done) | (simp_all <;> omega)) ?_)
          refine hK _ ?_; clear hK K; refine Nav.imp ?_
          refine awp_cond (b := !v) (by simp [push_cast]) (fun hb => ?_) (fun hb => ?_) <;> (refine Nav.imp ?_)
          · simp at hb
            refine awp_region cx [] fun K hK => ?_
            simp [push_cast]
            repeat (refine And.intro (by clear hK; intros; first | omega | (simp_all; done) | (simp_all <;> omega)) ?_)
            refine hK _ ?_; clear hK K; refine Nav.imp ?_
            simp [push_cast]
            exact all_range_false hlt (by rw [hat, hb]; simp)
          · simp at hb
            refine awp_region cx [] fun K hK => ?_
            simp [push_cast, e0]
            repeat (refine And.intro (by clear hK; intros; first | omega | (simp_all; done) | (simp_all <;> omega)) ?_)
            refine hK _ ?_; clear hK K; refine Nav.imp ?_
            refine ⟨1, ⟨hlt, by rw [all_range_succ, hall, hat]; simp [h1c, hb]⟩, by omega, ?_⟩
            refine weak_of [(0, some 0)] rfl (by simp [upT, up, upL, push_cast]) (by simp [upH, upR, upL, up, push_cast]) (by simp [namesOk, push_cast]) (by simp [olds])
        · have e1 := wrap_i64 (n := (k : Int) - 1) (by omega) (by omega)
          have e2 : ((k : Int) - 1).toNat = k - 1 := by omega
          have hk1 : (0 : Int) < k := by omega
          have hk2 : (0 : Int) ≤ k - 1 := by omega
          have hk3 : 0 < k := by omega
          obtain ⟨py, pr⟩ := p
          by_cases h2 : py < y
          · have h2' : ¬ (y ≤ py) := by omega
            refine awp_region cx [(28, .p (.bool v))] fun K hK => ?_
            simp [push_cast, h1a, h1b, hr, hp, Row.row, c1, hk1, hk3, e1, e2, hk2, h2']
            repeat (refine And.intro (by clear hK; intros; first | omega | (simp_all; done) | (simp_all <;> omega)) ?_)
            refine hK _ ?_; clear hK K; refine Nav.imp ?_
            refine awp_cond (b := !v) (by simp [push_cast]) (fun hb => ?_) (fun hb => ?_) <;> (refine Nav.imp ?_)
            · simp at hb
              refine awp_region cx [] fun K hK => ?_
              simp [push_cast]
              repeat (refine And.intro (by clear hK; intros; first | omega | (simp_all; done) | (simp_all <;> omega)) ?_)
              refine hK _ ?_; clear hK K; refine Nav.imp ?_
              simp [push_cast]
              exact all_range_false hlt (by rw [hat, hb]; simp)
            · simp at hb
              refine awp_region cx [] fun K hK => ?_
              simp [push_cast, e0]
              repeat (refine And.intro (by clear hK; intros; first | omega | (simp_all; done) | (simp_all <;> omega)) ?_)
              refine hK _ ?_; clear hK K; refine Nav.imp ?_
              refine ⟨k + 1, ⟨hlt, by rw [all_range_succ, hall, hat]; simp [h1c, hb, h2]⟩, by omega, ?_⟩
              refine weak_of [(0, some 0)] rfl (by simp [upT, up, upL, push_cast]) (by simp [upH, upR, upL, up, push_cast]) (by simp [namesOk, push_cast]) (by simp [olds])
          · have h2' : y ≤ py := by omega
            refine awp_region cx [(28, .skip)] fun K hK => ?_
            simp [push_cast, h1a, h1b, hr, hp, Row.row, c1, hk1, hk3, e1, e2, hk2, h2']
            repeat (refine And.intro (by clear hK; intros; first | omega | (simp_all; done) | (simp_all <;> omega)) ?_)
            refine hK _ ?_; clear hK K; refine Nav.imp ?_
            refine awp_cond (b := true) (by simp [push_cast]) (fun hb => ?_) (fun hb => ?_) <;> (refine Nav.imp ?_)
            · refine awp_region cx [] fun K hK => ?_
              simp [push_cast]
              repeat (refine And.intro (by clear hK; intros; first | omega | (simp_all; done) | (simp_all <;> omega)) ?_)
              refine hK _ ?_; clear hK K; refine Nav.imp ?_
              simp [push_cast]
              exact all_range_false hlt (by rw [hat]; simp [h2, hk0])
            · simp at hb
      · have hF : rowAt R k = false := by rw [hat]; simp [h1]
        by_cases h1a : y < -4096
        · by_cases hk0 : k = 0
          · subst hk0
            refine awp_region cx [(28, .skip)] fun K hK => ?_
            simp [push_cast, h1a, hr, Row.row]
            repeat (refine And.intro (by clear hK; intros; first | omega | (simp_all; done) | (simp_all <;> omega)) ?_)
            refine hK _ ?_; clear hK K; refine Nav.imp ?_
            refine awp_cond (b := true) (by simp [push_cast]) (fun hb => ?_) (fun hb => ?_) <;> (refine Nav.imp ?_)
            · refine awp_region cx [] fun K hK => ?_
              simp [push_cast]
              repeat (refine And.intro (by clear hK; intros; first | omega | (simp_all; done) | (simp_all <;> omega)) ?_)
              refine hK _ ?_; clear hK K; refine Nav.imp ?_
              simp [push_cast]
              exact all_range_false hlt hF
            · simp at hb
          · have e1 := wrap_i64 (n := (k : Int) - 1) (by omega) (by omega)
            have e2 : ((k : Int) - 1).toNat = k - 1 := by omega
            obtain ⟨py, pr⟩ := p
            refine awp_region cx [(28, .skip)] fun K hK => ?_
            simp [push_cast, h1a, hr, hp, e1, e2, Row.row]
            repeat (refine And.intro (by clear hK; intros; first | omega | (simp_all; done) | (simp_all <;> omega)) ?_)
            refine hK _ ?_; clear hK K; refine Nav.imp ?_
            refine awp_cond (b := true) (by simp [push_cast]) (fun hb => ?_) (fun hb => ?_) <;> (refine Nav.imp ?_)
            · refine awp_region cx [] fun K hK => ?_
              simp [push_cast]
              repeat (refine And.intro (by clear hK; intros; first | omega | (simp_all; done) | (simp_all <;> omega)) ?_)
              refine hK _ ?_; clear hK K; refine Nav.imp ?_
              simp [push_cast]
              exact all_range_false hlt hF
            · simp at hb
        · have h1b : 4096 ≤ y := by simp [okB] at h1; omega
          by_cases hk0 : k = 0
          · subst hk0
            refine awp_region cx [(28, .skip)] fun K hK => ?_
            simp [push_cast, h1a, h1b, hr, Row.row]
            repeat (refine And.intro (by clear hK; intros; first | omega | (simp_all; done) | (simp_all <;> omega)) ?_)
            refine hK _ ?_; clear hK K; refine Nav.imp ?_
            refine awp_cond (b := true) (by simp [push_cast]) (fun hb => ?_) (fun hb => ?_) <;> (refine Nav.imp ?_)
            · refine awp_region cx [] fun K hK => ?_
              simp [push_cast]
              repeat (refine And.intro (by clear hK; intros; first | omega | (simp_all; done) | (simp_all <;> omega)) ?_)
              refine hK _ ?_; clear hK K; refine Nav.imp ?_
              simp [push_cast]
              exact all_range_false hlt hF
            · simp at hb
          · have e1 := wrap_i64 (n := (k : Int) - 1) (by omega) (by omega)
            have e2 : ((k : Int) - 1).toNat = k - 1 := by omega
            obtain ⟨py, pr⟩ := p
            refine awp_region cx [(28, .skip)] fun K hK => ?_
            simp [push_cast, h1a, h1b, hr, hp, e1, e2, Row.row]
            repeat (refine And.intro (by clear hK; intros; first | omega | (simp_all; done) | (simp_all <;> omega)) ?_)
            refine hK _ ?_; clear hK K; refine Nav.imp ?_
            refine awp_cond (b := true) (by simp [push_cast]) (fun hb => ?_) (fun hb => ?_) <;> (refine Nav.imp ?_)
            · refine awp_region cx [] fun K hK => ?_
              simp [push_cast]
              repeat (refine And.intro (by clear hK; intros; first | omega | (simp_all; done) | (simp_all <;> omega)) ?_)
              refine hK _ ?_; clear hK K; refine Nav.imp ?_
              simp [push_cast]
              exact all_range_false hlt hF
            · simp at hb
    · have hge : k = R.length := by simp at hb; omega
      subst hge
      refine awp_region cx [] fun K hK => ?_
      simp [push_cast]
      repeat (refine And.intro (by clear hK; intros; first | omega | (simp_all; done) | (simp_all <;> omega)) ?_)
      refine hK _ ?_; clear hK K; refine Nav.imp ?_
      simp [push_cast, validR, hall]

theorem rows_at (R : List Row) {k : Nat} {r p : Row} {f z : Run} (hr : R[k]? = some r) (hp : R[k - 1]? = some p) (hf : r.runs[0]? = some f) (hz : r.runs[r.runs.length - 1]? = some z) :
    rowAt R k = (okB r.y && (k == 0 || decide (p.y < r.y)) && rvalid r.runs && okB f.a && okB (z.b - 1)) := by
  rw [rowAt_some hr hp, fine_iff hf hz]
  simp only [Bool.and_assoc]
theorem rows_nil (R : List Row) {k : Nat} {r : Row} (hr : R[k]? = some r) (h : r.runs = []) : rowAt R k = false := by
  have := (List.getElem?_eq_some_iff.1 hr).1
  obtain ⟨p, hp⟩ : ∃ p, R[k - 1]? = some p := getq (by omega)
  rw [rowAt_some hr hp, h]; simp [fine]

set_option maxHeartbeats 1000000 in
theorem valid_big (R : List Row) (hR : bigR R) : PC Tryd.prog 31 [.agg (regRow R)] (.p (.bool (validR R))) := by
  have hl := hR.1
  refine pc_of_awp cx (fn := Tryd.f31) (c := _) Tryd.func31 rfl rfl (Nat.le_of_ble_eq_true rfl) ?_
  rw [Tryd.ntmps31]; refine Nav.imp ?_
  refine awp_region cx [] fun K hK => ?_
  simp [push_cast]
  repeat (refine And.intro (by clear hK; intros; first | omega | (simp_all; done) | (simp_all <;> omega)) ?_)
  refine hK _ ?_; clear hK K; refine Nav.imp ?_
  refine awp_region cx [] fun K hK => ?_
  simp [push_cast]
  repeat (refine And.intro (by clear hK; intros; first | omega | (simp_all; done) | (simp_all <;> omega)) ?_)
  refine hK _ ?_; clear hK K; refine Nav.imp ?_
  refine awp_loop (β := Nat) (fun k => ⟨67, [(1, .ptr 0 0 0), (6, .d (encRows R)), (7, .d (.int .i64 R.length)), (8, .d (.int .i64 k))], [(0, some ⟨24, 1, [(regRow R).map .d]⟩)], 1⟩) (fun k => k ≤ R.length ∧ (List.range k).all (rowAt R) = true) (fun k => R.length - k) 0 ?_ ⟨Nat.zero_le _, rfl⟩ ?_
  · refine weak_of [(0, some 0)] rfl (by simp [upT, up, upL, push_cast]) (by simp [upH, upR, upL, up, push_cast]) (by simp [namesOk, push_cast]) (by simp [olds])
  · intro k ⟨hk, hall⟩
    refine Nav.imp ?_
    refine awp_region cx [] fun K hK => ?_
    simp [push_cast]
    repeat (refine And.intro (by clear hK; intros; first | omega | (simp_all; done) | (simp_all <;> omega)) ?_)
    refine hK _ ?_; clear hK K; refine Nav.imp ?_
    refine awp_cond (b := decide ((k : Int) < R.length)) (by simp [push_cast]) (fun hb => ?_) (fun hb => ?_) <;> (refine Nav.imp ?_)
    · have hlt : k < R.length := by simpa using hb
      obtain ⟨r, hr⟩ := getq hlt
      obtain ⟨p, hp⟩ : ∃ p, R[k - 1]? = some p := getq (by omega)
      have e0 := wrap_i64 (n := (k : Int) + 1) (by omega) (by omega)
      have e1 := wrap_i64 (n := (k : Int) - 1) (by omega) (by omega)
      have hrl := hR.2 r (List.mem_of_getElem? hr)
      have c1 := ok_ok r.y
      have c2 := rvalid_big r.runs hrl
      have hnil := rows_nil R hr
      have hcons := fun f z => @rows_at R k r p f z hr hp
      obtain ⟨y, ru⟩ := r
      obtain ⟨py, pr⟩ := p
      simp only at c1 c2 hnil hcons hrl
      have hno : rowAt R k = false → validR R = false := fun h => all_range_false hlt h
      have hy : okB y = false → rowAt R k = false := fun h => by rw [rowAt_some hr hp]; simp [h]
      have hpy : k ≠ 0 → y ≤ py → rowAt R k = false := fun h0 h => by rw [rowAt_some hr hp]; simp [h0, show ¬ py < y by omega]
      have hrv : rvalid ru = false → rowAt R k = false := fun h => by
        cases hru : ru with
        | nil => exact hnil hru
        | cons a b =>
          obtain ⟨f, hf⟩ : ∃ f, ru[0]? = some f := getq (by rw [hru]; simp)
          obtain ⟨z, hz⟩ : ∃ f, ru[ru.length - 1]? = some f := getq (by rw [hru]; simp)
          rw [hcons f z hf hz, h]; simp
      generalize okB y = oy at *
      generalize hrvd : rvalid ru = rv at c2 hrv hcons
      refine awp_region cx [] fun K hK => ?_
      simp [push_cast, hr, Row.row]
      repeat (refine And.intro (by clear hK; intros; first | omega | (simp_all; done) | (simp_all <;> omega)) ?_)
      refine hK _ ?_; clear hK K; refine Nav.imp ?_
      cases oy with
      | false =>
        by_cases hk0 : k = 0
        · subst hk0
          refine awp_region_draw cx mixed [(2, .p (.bool false)), (29, .skip)] fun K hK => ?_
          simp [push_cast, c1, hr, Row.row]
          repeat (refine And.intro (by clear hK; intros; first | omega | (simp_all; done) | (simp_all <;> omega)) ?_)
          refine hK _ _ (by kernel_rfl) ?_; clear hK K; refine Nav.imp ?_
          refine awp_cond (b := true) (by simp [push_cast]) (fun hb => ?_) (fun hb => ?_) <;> (refine Nav.imp ?_)
          · refine awp_region cx [] fun K hK => ?_
            simp [push_cast]
            repeat (refine And.intro (by clear hK; intros; first | omega | (simp_all; done) | (simp_all <;> omega)) ?_)
            refine hK _ ?_; clear hK K; refine Nav.imp ?_
            simp [push_cast]
            exact hno (hy rfl)
          · simp at hb
        · have e2 : ((k : Int) - 1).toNat = k - 1 := by omega
          refine awp_region_draw cx mixed [(2, .p (.bool false)), (29, .skip)] fun K hK => ?_
          simp [push_cast, c1, hp, e1, e2, Row.row]
          repeat (refine And.intro (by clear hK; intros; first | omega | (simp_all; done) | (simp_all <;> omega)) ?_)
          refine hK _ _ (by kernel_rfl) ?_; clear hK K; refine Nav.imp ?_
          refine awp_cond (b := true) (by simp [push_cast]) (fun hb => ?_) (fun hb => ?_) <;> (refine Nav.imp ?_)
          · refine awp_region cx [] fun K hK => ?_
            simp [push_cast]
            repeat (refine And.intro (by clear hK; intros; first | omega | (simp_all; done) | (simp_all <;> omega)) ?_)
            refine hK _ ?_; clear hK K; refine Nav.imp ?_
            simp [push_cast]
            exact hno (hy rfl)
          · simp at hb
      | true =>
        cases hru : ru with
        | nil =>
          subst hru
          by_cases hk0 : k = 0
          · subst hk0
            refine awp_region_draw cx mixed [(2, .p (.bool true)), (29, .skip)] fun K hK => ?_
            simp [push_cast, c1, hr, Row.row]
            repeat (refine And.intro (by clear hK; intros; first | omega | (simp_all; done) | (simp_all <;> omega)) ?_)
            refine hK _ _ (by kernel_rfl) ?_; clear hK K; refine Nav.imp ?_
            refine awp_cond (b := true) (by simp [push_cast]) (fun hb => ?_) (fun hb => ?_) <;> (refine Nav.imp ?_)
            · refine awp_region cx [] fun K hK => ?_
              simp [push_cast]
              repeat (refine And.intro (by clear hK; intros; first | omega | (simp_all; done) | (simp_all <;> omega)) ?_)
              refine hK _ ?_; clear hK K; refine Nav.imp ?_
              simp [push_cast]
              exact hno (hnil rfl)
            · simp at hb
          · have e2 : ((k : Int) - 1).toNat = k - 1 := by omega
            have hk1 : (0 : Int) < k := by omega
            have hk2 : (0 : Int) ≤ k - 1 := by omega
            have hk3 : 0 < k := by omega
            by_cases h2 : y ≤ py
            · refine awp_region_draw cx mixed [(2, .p (.bool true)), (29, .skip)] fun K hK => ?_
              simp [push_cast, c1, hp, e1, e2, hk1, hk2, hk3, h2, Row.row]
              repeat (refine And.intro (by clear hK; intros; first | omega | (simp_all; done) | (simp_all <;> omega)) ?_)
              refine hK _ _ (by kernel_rfl) ?_; clear hK K; refine Nav.imp ?_
              refine awp_cond (b := true) (by simp [push_cast]) (fun hb => ?_) (fun hb => ?_) <;> (refine Nav.imp ?_)
              · refine awp_region cx [] fun K hK => ?_
                simp [push_cast]
                repeat (refine And.intro (by clear hK; intros; first | omega | (simp_all; done) | (simp_all <;> omega)) ?_)
                refine hK _ ?_; clear hK K; refine Nav.imp ?_
                simp [push_cast]
                exact hno (hnil rfl)
              · simp at hb
            · refine awp_region_draw cx mixed [(2, .p (.bool true)), (29, .skip)] fun K hK => ?_
              simp [push_cast, c1, hp, e1, e2, hk1, hk2, hk3, h2, Row.row]
              repeat (refine And.intro (by clear hK; intros; first | omega | (simp_all; done) | (simp_all <;> omega)) ?_)
              refine hK _ _ (by kernel_rfl) ?_; clear hK K; refine Nav.imp ?_
              refine awp_cond (b := true) (by simp [push_cast]) (fun hb => ?_) (fun hb => ?_) <;> (refine Nav.imp ?_)
              · refine awp_region cx [] fun K hK => ?_
                simp [push_cast]
                repeat (refine And.intro (by clear hK; intros; first | omega | (simp_all; done) | (simp_all <;> omega)) ?_)
                refine hK _ ?_; clear hK K; refine Nav.imp ?_
                simp [push_cast]
                exact hno (hnil rfl)
              · simp at hb
        | cons x0 xr =>
          have hne : ru ≠ [] := by rw [hru]; simp
          rw [← hru]
          have hnb : ((ru.length : Int) == 0) = false := by simp [hne]
          obtain ⟨f, hf⟩ : ∃ f, ru[0]? = some f := getq (by rw [hru]; simp)
          obtain ⟨z, hz⟩ : ∃ f, ru[ru.length - 1]? = some f := getq (by rw [hru]; simp)
          have hcons' := hcons f z hf hz
          have hzb : rv = true → fitsB z = true := fun h => (rvalid_at (by rw [hrvd, h]) hz).2
          have hrp : 1 ≤ ru.length := by rw [hru]; simp
          clear hru hcons
          cases rv with
          | false =>
            by_cases hk0 : k = 0
            · subst hk0
              refine awp_region_draw cx mixed [(2, .p (.bool true)), (29, .p (.bool false))] fun K hK => ?_
              simp [push_cast, c1, c2, hr, hnb, Row.row]
              repeat (refine And.intro (by clear hK; intros; first | omega | (simp_all; done) | (simp_all <;> omega)) ?_)
              refine hK _ _ (by kernel_rfl) ?_; clear hK K; refine Nav.imp ?_
              refine awp_cond (b := true) (by simp [push_cast]) (fun hb => ?_) (fun hb => ?_) <;> (refine Nav.imp ?_)
              · refine awp_region cx [] fun K hK => ?_
                simp [push_cast]
                repeat (refine And.intro (by clear hK; intros; first | omega | (simp_all; done) | (simp_all <;> omega)) ?_)
                refine hK _ ?_; clear hK K; refine Nav.imp ?_
                simp [push_cast]
                exact hno (hrv rfl)
              · simp at hb
            · have e2 : ((k : Int) - 1).toNat = k - 1 := by omega
              have hk1 : (0 : Int) < k := by omega
              have hk2 : (0 : Int) ≤ k - 1 := by omega
              have hk3 : 0 < k := by omega
              by_cases h2 : y ≤ py
              · refine awp_region_draw cx mixed [(2, .p (.bool true)), (29, .skip)] fun K hK => ?_
                simp [push_cast, c1, hp, e1, e2, hk1, hk2, hk3, h2, Row.row]
                repeat (refine And.intro (by clear hK; intros; first | omega | (simp_all; done) | (simp_all <;> omega)) ?_)
                refine hK _ _ (by kernel_rfl) ?_; clear hK K; refine Nav.imp ?_
                refine awp_cond (b := true) (by simp [push_cast]) (fun hb => ?_) (fun hb => ?_) <;> (refine Nav.imp ?_)
                · refine awp_region cx [] fun K hK => ?_
                  simp [push_cast]
                  repeat (refine And.intro (by clear hK; intros; first | omega | (simp_all; done) | (simp_all <;> omega)) ?_)
                  refine hK _ ?_; clear hK K; refine Nav.imp ?_
                  simp [push_cast]
                  exact hno (hrv rfl)
                · simp at hb
              · refine awp_region_draw cx mixed [(2, .p (.bool true)), (29, .p (.bool false))] fun K hK => ?_
                simp [push_cast, c1, c2, hp, e1, e2, hk1, hk2, hk3, h2, hnb, Row.row]
                repeat (refine And.intro (by clear hK; intros; first | omega | (simp_all; done) | (simp_all <;> omega)) ?_)
                refine hK _ _ (by kernel_rfl) ?_; clear hK K; refine Nav.imp ?_
                refine awp_cond (b := true) (by simp [push_cast]) (fun hb => ?_) (fun hb => ?_) <;> (refine Nav.imp ?_)
                · refine awp_region cx [] fun K hK => ?_
                  simp [push_cast]
                  repeat (refine And.intro (by clear hK; intros; first | omega | (simp_all; done) | (simp_all <;> omega)) ?_)
                  refine hK _ ?_; clear hK K; refine Nav.imp ?_
                  simp [push_cast]
                  exact hno (hrv rfl)
                · simp at hb
          | true =>
            by_cases hq : k ≠ 0 ∧ y ≤ py
            · obtain ⟨hk0, h2⟩ := hq
              have e2 : ((k : Int) - 1).toNat = k - 1 := by omega
              have hk1 : (0 : Int) < k := by omega
              have hk2 : (0 : Int) ≤ k - 1 := by omega
              have hk3 : 0 < k := by omega
              refine awp_region_draw cx mixed [(2, .p (.bool true)), (29, .skip)] fun K hK => ?_
              simp [push_cast, c1, hp, e1, e2, hk1, hk2, hk3, h2, Row.row]
              repeat (refine And.intro (by clear hK; intros; first | omega | (simp_all; done) | (simp_all <;> omega)) ?_)
              refine hK _ _ (by kernel_rfl) ?_; clear hK K; refine Nav.imp ?_
              refine awp_cond (b := true) (by simp [push_cast]) (fun hb => ?_) (fun hb => ?_) <;> (refine Nav.imp ?_)
              · refine awp_region cx [] fun K hK => ?_
                simp [push_cast]
                repeat (refine And.intro (by clear hK; intros; first | omega | (simp_all; done) | (simp_all <;> omega)) ?_)
                refine hK _ ?_; clear hK K; refine Nav.imp ?_
                simp [push_cast]
                exact hno (hpy hk0 h2)
              · simp at hb
            · have hat : rowAt R k = (okB f.a && okB (z.b - 1)) := by
                rw [hcons']
                by_cases h : k = 0
                · simp [h]
                · have : py < y := by
                    apply Int.not_le.1
                    exact fun h2 => hq ⟨h, h2⟩
                  simp [h, this]
              apply cut_
              · intro key
                by_cases hk0 : k ≠ 0
                · have e2 : ((k : Int) - 1).toNat = k - 1 := by omega
                  have hk1 : (0 : Int) < k := by omega
                  have hk2 : (0 : Int) ≤ k - 1 := by omega
                  have hk3 : 0 < k := by omega
                  have h2 : ¬ y ≤ py := fun h => hq ⟨hk0, h⟩
                  refine awp_region_draw cx mixed [(2, .p (.bool true)), (29, .p (.bool true))] fun K hK => ?_
                  simp [push_cast, c1, c2, hp, e1, e2, hk1, hk2, hk3, h2, hnb, Row.row]
                  repeat (refine And.intro (by clear hK; intros; first | omega | (simp_all; done) | (simp_all <;> omega)) ?_)
                  refine hK _ _ (by kernel_rfl) ?_; clear hK K; refine Nav.imp ?_
                  refine awp_cond (b := false) (by simp [push_cast]) (fun hb => ?_) (fun hb => ?_) <;> (refine Nav.imp ?_)
                  · simp at hb
                  · refine awp_weak (s' := ⟨67, [(1, .ptr 0 0 0), (4, .ptr 1 0 0), (6, .d (encRows R)), (7, .d (.int .i64 R.length)), (8, .d (.int .i64 k))], [(0, some ⟨24, 1, [(regRow R).map .d]⟩), (1, some ⟨40, 2, [(Row.row ⟨y, ru⟩).map .d]⟩)], 2⟩) ?_ key.h
                    refine weak_of [(0, some 0), (1, some 5)] rfl (by simp [upT, up, upL, push_cast, Row.row]) (by simp [upH, upR, upL, up, push_cast, Row.row]) (by simp [namesOk, push_cast]) (by simp [olds])
                · have hk0 := Classical.not_not.1 hk0
                  subst hk0
                  refine awp_region_draw cx mixed [(2, .p (.bool true)), (29, .p (.bool true))] fun K hK => ?_
                  simp [push_cast, c1, c2, hr, hnb, Row.row]
                  repeat (refine And.intro (by clear hK; intros; first | omega | (simp_all; done) | (simp_all <;> omega)) ?_)
                  refine hK _ _ (by kernel_rfl) ?_; clear hK K; refine Nav.imp ?_
                  refine awp_cond (b := false) (by simp [push_cast]) (fun hb => ?_) (fun hb => ?_) <;> (refine Nav.imp ?_)
                  · simp at hb
                  · refine awp_weak (s' := ⟨67, [(1, .ptr 0 0 0), (4, .ptr 1 0 0), (6, .d (encRows R)), (7, .d (.int .i64 R.length)), (8, .d (.int .i64 (0 : Nat)))], [(0, some ⟨24, 1, [(regRow R).map .d]⟩), (1, some ⟨40, 2, [(Row.row ⟨y, ru⟩).map .d]⟩)], 2⟩) ?_ key.h
                    refine weak_of [(0, some 0), (1, some 5)] rfl (by simp [upT, up, upL, push_cast, Row.row]) (by simp [upH, upR, upL, up, push_cast, Row.row]) (by simp [namesOk, push_cast]) (by simp [olds])
              · refine Nav.imp ?_
                have d1 := ok_ok f.a
                have d2 := ok_ok (z.b - 1)
                have hzf := fitsB_bd (hzb rfl)
                have e3 := wrap_i64 (n := (ru.length : Int) - 1) (by omega) (by omega)
                have e4 : ((ru.length : Int) - 1).toNat = ru.length - 1 := by omega
                have e5 : (0 : Int) ≤ (ru.length : Int) - 1 := by omega
                have e6 := wrap_i64 (n := z.b - 1) (by omega) (by omega)
                obtain ⟨fa, fb⟩ := f
                obtain ⟨za, zb⟩ := z
                simp only at d1 d2 hat e6
                generalize okB fa = p1 at *
                generalize okB (zb - 1) = p2 at *
                cases p1 with
                | false =>
                  refine awp_region cx [(5, .p (.bool false)), (18, .skip)] fun K hK => ?_
                  simp [push_cast, hf, hz, Row.row, Run.row, d1, e3, e4, e5, e6]
                  repeat (refine And.intro (by clear hK; intros; first | omega | (simp_all; done) | (simp_all <;> omega)) ?_)
                  refine hK _ ?_; clear hK K; refine Nav.imp ?_
                  refine awp_cond (b := true) (by simp [push_cast]) (fun hb => ?_) (fun hb => ?_) <;> (refine Nav.imp ?_)
                  · refine awp_region cx [] fun K hK => ?_
                    simp [push_cast]
                    repeat (refine And.intro (by clear hK; intros; first | omega | (simp_all; done) | (simp_all <;> omega)) ?_)
                    refine hK _ ?_; clear hK K; refine Nav.imp ?_
                    simp [push_cast]
                    exact hno (by rw [hat]; rfl)
                  · simp at hb
                | true =>
                  refine awp_region cx [(5, .p (.bool true)), (18, .p (.bool p2))] fun K hK => ?_
                  simp [push_cast, hf, hz, Row.row, Run.row, d1, d2, e3, e4, e5, e6]
                  repeat (refine And.intro (by clear hK; intros; first | omega | (simp_all; done) | (simp_all <;> omega)) ?_)
                  refine hK _ ?_; clear hK K; refine Nav.imp ?_
                  refine awp_cond (b := !p2) (by simp [push_cast]) (fun hb => ?_) (fun hb => ?_) <;> (refine Nav.imp ?_)
                  · simp at hb
                    refine awp_region cx [] fun K hK => ?_
                    simp [push_cast]
                    repeat (refine And.intro (by clear hK; intros; first | omega | (simp_all; done) | (simp_all <;> omega)) ?_)
                    refine hK _ ?_; clear hK K; refine Nav.imp ?_
                    simp [push_cast]
                    exact hno (by rw [hat, hb]; rfl)
                  · simp at hb
                    refine awp_region cx [] fun K hK => ?_
                    simp [push_cast, e0]
                    repeat (refine And.intro (by clear hK; intros; first | omega | (simp_all; done) | (simp_all <;> omega)) ?_)
                    refine hK _ ?_; clear hK K; refine Nav.imp ?_
                    refine ⟨k + 1, ⟨hlt, by rw [all_range_succ, hall, hat, hb]; rfl⟩, by omega, ?_⟩
                    refine weak_of [(0, some 0)] rfl (by simp [upT, up, upL, push_cast]) (by simp [upH, upR, upL, up, push_cast]) (by simp [namesOk, push_cast]) (by simp [olds])
    · have hge : k = R.length := by simp at hb; omega
      subst hge
      refine awp_region cx [] fun K hK => ?_
      simp [push_cast]
      repeat (refine And.intro (by clear hK; intros; first | omega | (simp_all; done) | (simp_all <;> omega)) ?_)
      refine hK _ ?_; clear hK K; refine Nav.imp ?_
      simp [push_cast, validR, hall]
theorem valid_ok (R : List Row) (hR : smallR R) : PC Tryd.prog 31 [.agg (regRow R)] (.p (.bool (validR R))) := valid_big R (big_of hR)
end Go.Proofs.YtgicofpllopjmaaDoor
