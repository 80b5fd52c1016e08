/-
  Texts of this seat put together: Base, A1, A2, AbsY, AbsQ, R1, A3, A5.
-/
import Derived.Test.YtdddknniooimmaaGreatJT3
import Derived.Test.YtdddknniooimmaaGreatJT1
import Derived.Test.YtdddknniooimmaaGreatRows
set_option linter.unusedVariables false
set_option linter.unusedSimpArgs false
set_option maxRecDepth 100000
set_option linter.unusedSectionVars false
namespace Go.Proofs.YtdddknniooimmaaGreat
open Go.Abs
instance flag0 : Flag := ⟨False⟩
def tyTab : List (Nat × TI) := [
 (2, ⟨.int .i64, 1, 8, [.d (.int .i64 0)], 0⟩),
 (3, ⟨.int .i64, 1, 8, [.d (.int .i64 0)], 0⟩),
 (4, ⟨.bool, 1, 1, [.d (.bool false)], 0⟩),
 (5, ⟨.int .u8, 1, 1, [.d (.int .u8 0)], 0⟩),
 (7, ⟨.struct [(0, 1, false), (1, 1, false), (2, 1, false), (3, 1, false)], 4, 24, [.d (.int .i64 0), .d (.int .i64 0), .d (.bool false), .d (.int .u8 0)], 0⟩),
 (9, ⟨.str, 1, 16, [.d (.str ⟨#[]⟩)], 0⟩),
 (12, ⟨.int .u64, 1, 8, [.d (.int .u64 0)], 0⟩),
 (13, ⟨.struct [(0, 1, false), (1, 1, false)], 2, 24, [.d (.str ⟨#[]⟩), .d (.int .u64 0)], 0⟩),
 (15, ⟨.one, 1, 8, [.d .np], 0⟩),
 (16, ⟨.one, 1, 8, [.d .np], 0⟩),
 (17, ⟨.one, 1, 8, [.d .np], 0⟩),
 (18, ⟨.struct [(0, 1, false)], 1, 8, [.d .np], 0⟩),
 (21, ⟨.int .i32, 1, 4, [.d (.int .i32 0)], 0⟩),
 (22, ⟨.slice 65, 1, 24, [.nl], 0⟩),
 (23, ⟨.struct [(0, 1, false)], 1, 24, [.nl], 0⟩),
 (24, ⟨.struct [(0, 1, false)], 1, 24, [.nl], 0⟩),
 (27, ⟨.slice 24, 1, 24, [.nl], 0⟩),
 (31, ⟨.int .i64, 1, 8, [.d (.int .i64 0)], 0⟩),
 (37, ⟨.slice 94, 1, 24, [.nl], 0⟩),
 (48, ⟨.slice 55, 1, 24, [.nl], 0⟩),
 (53, ⟨.slice 58, 1, 24, [.nl], 0⟩),
 (54, ⟨.struct [(0, 1, false)], 1, 24, [.nl], 0⟩),
 (55, ⟨.struct [(0, 1, false)], 1, 24, [.nl], 0⟩),
 (57, ⟨.struct [(0, 1, false), (1, 1, false)], 2, 16, [.d (.int .i64 0), .d (.int .i64 0)], 1⟩),
 (58, ⟨.struct [(0, 1, false), (1, 1, false)], 2, 16, [.d (.int .i64 0), .d (.int .i64 0)], 1⟩),
 (63, ⟨.slice 85, 1, 24, [.nl], 0⟩),
 (64, ⟨.struct [(0, 1, false), (1, 1, false)], 2, 32, [.d (.int .i64 0), .nl], 0⟩),
 (65, ⟨.struct [(0, 1, false), (1, 1, false)], 2, 32, [.d (.int .i64 0), .nl], 0⟩),
 (67, ⟨.struct [(0, 1, false), (1, 1, false)], 2, 16, [.d (.int .i64 0), .d (.int .i64 0)], 1⟩),
 (73, ⟨.slice 75, 1, 24, [.nl], 0⟩),
 (75, ⟨.slice 67, 1, 24, [.nl], 0⟩),
 (82, ⟨.one, 1, 8, [.any], 0⟩),
 (84, ⟨.struct [(0, 1, false), (1, 1, false)], 2, 16, [.d (.int .i64 0), .d (.int .i64 0)], 1⟩),
 (85, ⟨.struct [(0, 1, false), (1, 1, false)], 2, 16, [.d (.int .i64 0), .d (.int .i64 0)], 1⟩),
 (87, ⟨.map 3 63, 1, 8, [.any], 0⟩),
 (88, ⟨.struct [(0, 1, false), (1, 1, false)], 2, 16, [.any, .any], 0⟩),
 (89, ⟨.struct [(0, 1, false), (1, 1, false)], 2, 16, [.any, .any], 0⟩),
 (93, ⟨.struct [(0, 1, false), (1, 1, false), (2, 1, false)], 3, 40, [.d (.int .i64 0), .d (.bool false), .nl], 0⟩),
 (94, ⟨.struct [(0, 1, false), (1, 1, false), (2, 1, false)], 3, 40, [.d (.int .i64 0), .d (.bool false), .nl], 0⟩),
 (97, ⟨.slice 94, 1, 24, [.nl], 0⟩),
 (111, ⟨.map 67 4, 1, 8, [.any], 0⟩),
 (113, ⟨.slice 4, 1, 24, [.nl], 0⟩),
 (117, ⟨.map 58 121, 1, 8, [.any], 0⟩),
 (118, ⟨.map 58 121, 1, 8, [.any], 0⟩),
 (121, ⟨.slice 178, 1, 24, [.nl], 0⟩),
 (123, ⟨.slice 127, 1, 24, [.nl], 0⟩),
 (126, ⟨.struct [(0, 2, true), (2, 2, true)], 4, 32, [.d (.int .i64 0), .d (.int .i64 0), .d (.int .i64 0), .d (.int .i64 0)], 0⟩),
 (127, ⟨.struct [(0, 2, true), (2, 2, true)], 4, 32, [.d (.int .i64 0), .d (.int .i64 0), .d (.int .i64 0), .d (.int .i64 0)], 0⟩),
 (131, ⟨.slice 136, 1, 24, [.nl], 0⟩),
 (134, ⟨.slice 3, 1, 24, [.nl], 0⟩),
 (135, ⟨.struct [(0, 1, false), (1, 1, false), (2, 1, false), (3, 1, false)], 4, 32, [.d (.int .i64 0), .d (.int .i64 0), .d (.int .i64 0), .d (.int .i64 0)], 1⟩),
 (136, ⟨.struct [(0, 1, false), (1, 1, false), (2, 1, false), (3, 1, false)], 4, 32, [.d (.int .i64 0), .d (.int .i64 0), .d (.int .i64 0), .d (.int .i64 0)], 1⟩),
 (146, ⟨.slice 193, 1, 24, [.nl], 0⟩),
 (151, ⟨.map 67 3, 1, 8, [.any], 0⟩),
 (158, ⟨.one, 1, 8, [.d .np], 0⟩),
 (159, ⟨.one, 1, 8, [.d .np], 0⟩),
 (168, ⟨.one, 1, 8, [.d .np], 0⟩),
 (169, ⟨.one, 1, 8, [.d .np], 0⟩),
 (174, ⟨.int .u64, 1, 8, [.d (.int .u64 0)], 0⟩),
 (178, ⟨.int .i64, 1, 8, [.d (.int .i64 0)], 0⟩),
 (183, ⟨.arr 3 178, 3, 24, [.d (.int .i64 0), .d (.int .i64 0), .d (.int .i64 0)], 1⟩),
 (192, ⟨.struct [(0, 2, true), (2, 2, true), (4, 1, false)], 5, 40, [.d (.int .i64 0), .d (.int .i64 0), .d (.int .i64 0), .d (.int .i64 0), .d (.int .i64 0)], 0⟩),
 (193, ⟨.struct [(0, 2, true), (2, 2, true), (4, 1, false)], 5, 40, [.d (.int .i64 0), .d (.int .i64 0), .d (.int .i64 0), .d (.int .i64 0), .d (.int .i64 0)], 0⟩),
 (198, ⟨.slice 200, 1, 24, [.nl], 0⟩),
 (199, ⟨.struct [(0, 1, false), (1, 1, false)], 2, 16, [.d (.int .i64 0), .d (.int .i64 0)], 1⟩),
 (200, ⟨.struct [(0, 1, false), (1, 1, false)], 2, 16, [.d (.int .i64 0), .d (.int .i64 0)], 1⟩),
 (206, ⟨.one, 1, 8, [.d .np], 0⟩),
 (207, ⟨.struct [(0, 1, false), (1, 1, false)], 2, 32, [.nl, .d (.int .i64 0)], 0⟩),
 (208, ⟨.struct [(0, 1, false), (1, 1, false)], 2, 32, [.nl, .d (.int .i64 0)], 0⟩),
 (216, ⟨.arr 2 24, 2, 48, [.nl, .nl], 0⟩),
 (221, ⟨.int .i64, 1, 8, [.d (.int .i64 0)], 0⟩),
 (228, ⟨.int .u32, 1, 4, [.d (.int .u32 0)], 0⟩),
 (230, ⟨.int .u64, 1, 8, [.d (.int .u64 0)], 0⟩),
 (256, ⟨.int .u64, 1, 8, [.d (.int .u64 0)], 0⟩),
 (260, ⟨.one, 1, 8, [.d .np], 0⟩),
 (284, ⟨.one, 1, 8, [.d .np], 0⟩),
 (307, ⟨.struct [(0, 1, false), (1, 1, false), (2, 1, false), (3, 1, false)], 4, 40, [.d .np, .d .np, .d .np, .d (.str ⟨#[]⟩)], 0⟩),
 (314, ⟨.one, 1, 8, [.any], 0⟩),
 (315, ⟨.one, 1, 8, [.d .np], 0⟩),
 (318, ⟨.struct [(0, 1, false), (1, 1, false), (2, 1, false), (3, 1, false), (4, 1, false), (5, 1, false), (6, 1, false), (7, 1, false), (8, 1, false), (9, 1, false), (10, 1, false)], 11, 48, [.d (.int .u64 0), .d (.int .u64 0), .d (.int .u32 0), .d (.int .u8 0), .d (.int .u8 0), .d (.int .u8 0), .d (.int .u8 0), .any, .d .np, .d (.int .i32 0), .d (.int .i32 0)], 0⟩),
 (320, ⟨.one, 1, 8, [.d .np], 0⟩)]

attribute [push_cast] wpT wpD confs zlr ids zhr doOp eff fixU frzE zgi zwh effPick pickA zwm effBox zwl ziz zmk zlq effBin effUn zpw zwj aggList zfg zff zwi zpv zmj zkp zie znz zjp zqc zgy lenA zwk zjq zks effX zga rn rnL rnR dn dnL dnR zen zka zdg swp gone zmw zrg frT XC.ti zca zrp two odd even cond_true cond_false sf_move ss_move sf_assign ss_assign sf_pick ss_pick sf_alloc ss_alloc sf_box ss_box sf_build ss_build sf_buildSlice ss_buildSlice sf_load ss_load sf_store ss_store sf_nilCheck ss_nilCheck sf_binOp ss_binOp sf_unOp ss_unOp sf_convert ss_convert sf_makeFunc ss_makeFunc sf_makeSlice ss_makeSlice sf_slice ss_slice sf_fieldAddr ss_fieldAddr sf_field ss_field sf_indexAddr ss_indexAddr sf_index ss_index sf_extract ss_extract sf_lookup ss_lookup sf_mapUpdate ss_mapUpdate sf_makeInterface ss_makeInterface sf_makeMap ss_makeMap sf_len sb_move sb_assign sb_pick sb_alloc sb_box sb_build sb_buildSlice sb_load sb_store sb_nilCheck sb_binOp sb_unOp sb_convert sb_makeFunc sb_makeSlice sb_slice sb_fieldAddr sb_field sb_indexAddr sb_index sb_extract sb_lookup sb_mapUpdate sb_makeInterface sb_makeMap sb_call sf_append sf_delete zpu zoa zpe zht zir zcj ztq zup sf_min sf_max sf_fun ss_call orcIds zhm zsi zto obs zjz rnL_map dnL_map rnR_dr dnR_dr dnR_app rnR_app wrap_0 wrap_1 wrap_2 wrap_n1 zhz zna zjw Res.free D.free D.frees D.freess zia zqv zed zcx zdh zuy TI.isAgg mkAgg allD zwf putCells zqk rep eqD cav zav find zdi St.get St.obj St.put St.app St.eval St.guard zcw optOb zbh sg_move so_move sg_assign so_assign sg_alloc so_alloc sg_box so_box sg_build so_build sg_buildSlice so_buildSlice sg_load so_load sg_store so_store sg_nilCheck so_nilCheck sg_binOp so_binOp sg_unOp so_unOp sg_convert so_convert sg_makeFunc so_makeFunc sg_makeSlice so_makeSlice sg_slice so_slice sg_fieldAddr so_fieldAddr sg_field so_field sg_indexAddr so_indexAddr sg_index so_index sg_extract so_extract sg_call so_call sg_lookup so_lookup sg_mapUpdate so_mapUpdate sg_makeInterface so_makeInterface sg_makeMap so_makeMap sg_pick so_pick isNil notA allD_map allS allS_map mkAgg_map upR_dr rowsD_dr dr_length dr_nil dr_cons dr_append dr_at dr_take dr_drop dr_set upR_app upR_set rowsD_app zdm take_map_len Op.operands Call.operands Abs.start zkz nbf seqQ zhw retQ zgl zhp zng tyTab po_binOp po_index po_slice po_convert po_call po_lookup po_load po_store effExt

theorem cx : Ctx Tryz.prog (find tyTab) := ctx_of_table tyTab (by kernel_rfl)
theorem mixed : Tryz.prog.follows .mixedOrders = true := by kernel_rfl

structure zf where
 x : Int
 y : Int
 deriving DecidableEq

abbrev zf.row (c : zf) : List D := [.int .i64 c.x, .int .i64 c.y]
abbrev zaj (l : List zf) : D := .sl (l.map zf.row)

structure Track where
 role : Int
 closed : Bool
 cells : List zf
 deriving DecidableEq

abbrev Track.row (t : Track) : List D := [.int .i64 t.role, .bool t.closed, zaj t.cells]
structure Run where
 a : Int
 b : Int
 deriving DecidableEq
abbrev Run.row (r : Run) : List D := [.int .i64 r.a, .int .i64 r.b]
abbrev zm (l : List Run) : D := .sl (l.map Run.row)
structure Row where
 y : Int
 runs : List Run
 deriving DecidableEq
abbrev Row.row (r : Row) : List D := [.int .i64 r.y, zm r.runs]
abbrev zz (l : List Row) : D := .sl (l.map Row.row)
abbrev zp (l : List Row) : List D := [zz l]

def onG (c : zf) : Bool := decide (-4096 <= c.x) && decide (c.x < 4096) && decide (-4096 <= c.y) && decide (c.y < 4096)
theorem onG_bd {c : zf} (h : onG c = true) : -4096 <= c.x /\ c.x < 4096 /\ -4096 <= c.y /\ c.y < 4096 := by
 simp [onG] at h; omega

theorem zds {f : Nat -> Bool} {k : Nat} : (List.range (k + 1)).all f = ((List.range k).all f && f k) := by
 simp [List.range_succ]

theorem zax {f : Nat -> Bool} {k n : Nat} (hk : k < n) (h : f k = false) : (List.range n).all f = false := by
 rw [Bool.eq_false_iff];intro ha;have := List.all_eq_true.1 ha k (by simpa using hk);rw [h] at this;cases this
theorem zcc {f : Nat -> Bool} {k n : Nat} (h : (List.range n).all f = true) (hk : k < n) : f k = true :=
 List.all_eq_true.1 h k (by simpa using hk)

theorem zux {α : Type} {l r : List α} {k : Nat} {x y : α} (h : l.take k = r.take k) (hx : l[k]? = some x) (hy : r[k]? = some y) (e : x = y) : l.take (k + 1) = r.take (k + 1) := by
 rw [List.take_add_one, List.take_add_one, h, hx, hy, e]

theorem zap {α : Type} {l : List α} {k : Nat} (h : k < l.length) : ∃ x, l[k]? = some x := ⟨l[k], List.getElem?_eq_getElem h⟩

theorem zob {α : Type} {l : List α} {k : Nat} {x : α} (h : l[k]? = some x) : l.drop k = x :: l.drop (k + 1) := by
 have hlt := (List.getElem?_eq_some_iff.1 h).1;rw [List.drop_eq_getElem_cons hlt];have := List.getElem?_eq_getElem hlt;rw [h] at this;cases this; rfl
theorem zat {α : Type} {l : List α} {k : Nat} {x : α} (h : l[k]? = some x) : l.take (k + 1) = l.take k ++ [x] := by
 rw [List.take_add_one, h]; rfl

inductive zbi (l : List zf) (adj : zf -> zf -> Bool) : zf -> zf -> Prop
 | refl {a : zf} : a ∈ l -> zbi l adj a a
 | step {a b c : zf} : zbi l adj a b -> c ∈ l -> adj b c = true -> zbi l adj a c
theorem zbi.left {l : List zf} {adj : zf -> zf -> Bool} {a b : zf} (h : zbi l adj a b) : a ∈ l := by induction h <;> assumption
theorem zbi.right {l : List zf} {adj : zf -> zf -> Bool} {a b : zf} (h : zbi l adj a b) : b ∈ l := by cases h <;> assumption
theorem zbi.trans {l : List zf} {adj : zf -> zf -> Bool} {a b c : zf} (h1 : zbi l adj a b) (h2 : zbi l adj b c) : zbi l adj a c := by
 induction h2 with
 | refl _ => exact h1
 | step _ hc ha ih => exact .step ih hc ha
theorem zbi.symm {l : List zf} {adj : zf -> zf -> Bool} (hs : ∀ x y, adj x y = true -> adj y x = true) {a b : zf} (h : zbi l adj a b) : zbi l adj b a := by
 induction h with
 | refl h => exact .refl h
 | step h1 hc ha ih => exact zbi.trans (.step (.refl hc) h1.right (hs _ _ ha)) ih
theorem zbi.mono {l m : List zf} {adj : zf -> zf -> Bool} (hs : ∀ x ∈ l, x ∈ m) {a b : zf} (h : zbi l adj a b) : zbi m adj a b := by
 induction h with
 | refl h => exact .refl (hs _ h)
 | step _ hc ha ih => exact .step ih (hs _ hc) ha

def zhf (c d : zf) : zf := ⟨c.x + d.x, c.y + d.y⟩
abbrev zcu := List (zf × Int)
def zcd (lab : Int) (c : zf) (s : zcu × List zf) (d : zf) : zcu × List zf := if zan s.1 (zhf c d) = some 0 then (zcz s.1 (zhf c d) lab, s.2 ++ [zhf c d]) else s
def zmb (lab : Int) (moves : List zf) (c : zf) (s : zcu × List zf) : zcu × List zf := moves.foldl (zcd lab c) s
def spF (lab : Int) (moves : List zf) : Nat -> zcu × List zf -> zcu
 | 0, s => s.1
 | n + 1, (M, []) => M
 | n + 1, (M, c :: q) => spF lab moves n (zmb lab moves c (M, q))
def zc (M : zcu) : Nat := (M.filter fun p => decide (p.2 = 0)).length
def zct (s : zcu × List zf) : Nat := 2 * zc s.1 + s.2.length
theorem zc_set : ∀ (M : zcu) (j : Nat) (a : zf) (v : Int), M[j]? = some (a, 0) -> v ≠ 0 -> zc (M.set j (a, v)) + 1 = zc M
 | [], j, a, v, h, _ => by simp at h
 | p :: M, 0, a, v, h, hv => by
  simp at h;subst h;simp [zc, hv]
 | p :: M, j + 1, a, v, h, hv => by
  have ih := zc_set M j a v (by simpa using h) hv;simp only [zc, List.set_cons_succ] at ih ⊢;by_cases hp : p.2 = 0
  ·rw [List.filter_cons_of_pos (by simpa using hp), List.filter_cons_of_pos (by simpa using hp)];simp only [List.length_cons]; omega
  ·rw [List.filter_cons_of_neg (by simpa using hp), List.filter_cons_of_neg (by simpa using hp)];exact ih
theorem zc_put {M : zcu} {a : zf} {v : Int} (h : zan M a = some 0) (hv : v ≠ 0) : zc (zcz M a v) + 1 = zc M := by
 unfold zcz;have hp := zdw (a := a) M;cases hq : zfk a M with
 | none => rw [hq] at hp; simp only at hp; rw [hp] at h; cases h
 | some j =>
  rw [hq] at hp;obtain ⟨b, h1, h2⟩ := hp;rw [h] at h2; cases h2;exact zc_set M j a v h1 hv
theorem put_len {M : zcu} {a : zf} {v b : Int} (h : zan M a = some b) : (zcz M a v).length = M.length := by
 unfold zcz;have hp := zdw (a := a) M;cases hq : zfk a M with
 | none => rw [hq] at hp; simp only at hp; rw [hp] at h; cases h
 | some j => simp
theorem spStep_mu {lab : Int} (hl : lab ≠ 0) (c d : zf) (s : zcu × List zf) : zct (zcd lab c s d) <= zct s := by
 unfold zcd;split
 ·rename_i h;have := zc_put (v := lab) h hl;simp only [zct, List.length_append, List.length_cons, List.length_nil]; omega
 ·exact Nat.le_refl _
theorem zid {lab : Int} (hl : lab ≠ 0) (c : zf) : ∀ (moves : List zf) (s : zcu × List zf), zct (moves.foldl (zcd lab c) s) <= zct s
 | [], s => Nat.le_refl _
 | d :: m, s => Nat.le_trans (zid hl c m _) (spStep_mu hl c d s)
theorem spF_fuel {lab : Int} (hl : lab ≠ 0) (moves : List zf) : ∀ (n m : Nat) (s : zcu × List zf), zct s <= n -> zct s <= m -> spF lab moves n s = spF lab moves m s
 | 0, m, (M, q), hn, hm => by
  have hq : q = [] := by
   simp only [zct] at hn;exact List.eq_nil_of_length_eq_zero (by omega)
  subst hq;cases m <;> rfl
 | n + 1, 0, (M, q), hn, hm => by
  have hq : q = [] := by
   simp only [zct] at hm;exact List.eq_nil_of_length_eq_zero (by omega)
  subst hq;rfl
 | n + 1, m + 1, (M, []), hn, hm => rfl
 | n + 1, m + 1, (M, c :: q), hn, hm => by
  have h1 : zct (zmb lab moves c (M, q)) <= zct (M, q) := zid hl c moves (M, q);have h2 : zct (M, c :: q) = zct (M, q) + 1 := by simp only [zct, List.length_cons]; omega
  exact spF_fuel hl moves n m _ (by omega) (by omega)
def zld (lab : Int) (moves : List zf) (s : zcu × List zf) : zcu := spF lab moves (zct s) s
theorem zkw (lab : Int) (moves : List zf) (M : zcu) : zld lab moves (M, []) = M := by
 unfold zld;cases zct (M, []) <;> rfl
theorem zor {lab : Int} (hl : lab ≠ 0) (moves : List zf) (M : zcu) (c : zf) (q : List zf) : zld lab moves (M, c :: q) = zld lab moves (zmb lab moves c (M, q)) := by
 unfold zld;have h1 : zct (zmb lab moves c (M, q)) <= zct (M, q) := zid hl c moves (M, q);have h2 : zct (M, c :: q) = zct (M, q) + 1 := by simp only [zct, List.length_cons]; omega
 rw [h2];exact spF_fuel hl moves _ _ _ (by omega) (Nat.le_refl _)
def zlc (M : zcu) (first : zf) (lab : Int) (moves : List zf) : zcu := zld lab moves (zcz M first lab, [first])

section
variable {l : List zf} {adj : zf -> zf -> Bool} {moves : List zf} {M0 : zcu} {first : zf} {lab : Int}
structure InvC (l : List zf) (adj : zf -> zf -> Bool) (M0 : zcu) (first : zf) (lab : Int) (c : zf) (s : zcu × List zf) : Prop where
 conn : ∀ x, zan s.1 x = some lab -> zbi l adj first x
 old : ∀ x, zan s.1 x = some lab \/ zan s.1 x = zan M0 x
 queue : ∀ x ∈ s.2, zan s.1 x = some lab
 closed : ∀ x, zan s.1 x = some lab -> x = c \/ x ∈ s.2 \/ ∀ y, y ≠ x -> adj x y = true -> zan s.1 y ≠ some 0
theorem spStep_zero {lab : Int} (hl : lab ≠ 0) (c d : zf) (s : zcu × List zf) (y : zf) (h : zan s.1 y ≠ some 0) : zan (zcd lab c s d).1 y ≠ some 0 := by
 unfold zcd;split
 ·simp only [zdc];split
  ·simpa using hl
  ·exact h
 ·exact h
theorem spFold_zero {lab : Int} (hl : lab ≠ 0) (c : zf) : ∀ (m : List zf) (s : zcu × List zf) (y : zf), zan s.1 y ≠ some 0 -> zan (m.foldl (zcd lab c) s).1 y ≠ some 0
 | [], s, y, h => h
 | d :: m, s, y, h => spFold_zero hl c m _ y (spStep_zero hl c d s y h)
theorem spFold_done {lab : Int} (hl : lab ≠ 0) (c : zf) : ∀ (m : List zf) (s : zcu × List zf) (d : zf), d ∈ m -> zan (m.foldl (zcd lab c) s).1 (zhf c d) ≠ some 0
 | [], s, d, h => by simp at h
 | e :: m, s, d, h => by
  rcases List.mem_cons.1 h with rfl | h
  ·refine spFold_zero hl c m _ _ ?_;unfold zcd;split
   ·simp only [zdc, if_true]; simpa using hl
   ·assumption
  ·exact spFold_done hl c m _ d h
theorem spStep_inv {c : zf} {s : zcu × List zf} (hl : lab ≠ 0) (hkeys : ∀ x, (∃ v, zan M0 x = some v) -> x ∈ l) (hadj : ∀ b x, b ≠ x -> (adj b x = true ↔ ∃ d ∈ moves, zhf b d = x)) (hcl : zbi l adj first c) (hc : zan s.1 c = some lab) {d : zf} (hd : d ∈ moves) (h : InvC l adj M0 first lab c s) :
  InvC l adj M0 first lab c (zcd lab c s d) /\ zan (zcd lab c s d).1 c = some lab := by
 unfold zcd;split
 ·rename_i hz;have hne : c ≠ zhf c d := fun e => by rw [<- e, hc] at hz; exact hl (by simpa using hz)
  have hin : zhf c d ∈ l := by
   refine hkeys _ ?_;rcases h.old (zhf c d) with h1 | h1
   ·rw [hz] at h1; exact absurd (Option.some.inj h1).symm hl
   ·exact ⟨0, by rw [<- h1]; exact hz⟩
  have hg : ∀ x, zan (zcz s.1 (zhf c d) lab) x = if x = zhf c d then some lab else zan s.1 x := fun x => zdc _ _ _ _
  refine ⟨⟨fun x hx => ?_, fun x => ?_, fun x hx => ?_, fun x hx => ?_⟩, ?_⟩
  ·rw [hg] at hx;split at hx
   ·rename_i e; rw [e]; exact .step hcl hin ((hadj c _ hne).2 ⟨d, hd, rfl⟩)
   ·exact h.conn x hx
  ·rw [hg];split
   ·exact .inl rfl
   ·exact h.old x
  ·rw [hg];split
   ·rfl
   ·rename_i e;rcases List.mem_append.1 hx with hx | hx
    ·exact h.queue x hx
    ·exact absurd (by simpa using hx) e
  ·rw [hg] at hx;split at hx
   ·rename_i e; right; left; simp [e]
   ·rcases h.closed x hx with h1 | h1 | h1
    ·exact .inl h1
    ·right; left; simp [h1]
    ·right; right
     intro y hy ha;rw [hg];split
     ·simpa using hl
     ·exact h1 y hy ha
  ·rw [hg, if_neg hne]; exact hc
 ·exact ⟨h, hc⟩
theorem spFold_inv {c : zf} (hl : lab ≠ 0) (hkeys : ∀ x, (∃ v, zan M0 x = some v) -> x ∈ l) (hadj : ∀ b x, b ≠ x -> (adj b x = true ↔ ∃ d ∈ moves, zhf b d = x)) (hcl : zbi l adj first c) : ∀ (m : List zf) (s : zcu × List zf), (∀ d ∈ m, d ∈ moves) -> zan s.1 c = some lab -> InvC l adj M0 first lab c s ->
  InvC l adj M0 first lab c (m.foldl (zcd lab c) s) /\ zan (m.foldl (zcd lab c) s).1 c = some lab
 | [], s, _, hc, h => ⟨h, hc⟩
 | d :: m, s, hm, hc, h => by
  obtain ⟨h1, h2⟩ := spStep_inv hl hkeys hadj hcl hc (hm d (by simp)) h;exact spFold_inv hl hkeys hadj hcl m _ (fun e he => hm e (by simp [he])) h2 h1
structure InvS (l : List zf) (adj : zf -> zf -> Bool) (M0 : zcu) (first : zf) (lab : Int) (s : zcu × List zf) : Prop where
 conn : ∀ x, zan s.1 x = some lab -> zbi l adj first x
 old : ∀ x, zan s.1 x = some lab \/ zan s.1 x = zan M0 x
 queue : ∀ x ∈ s.2, zan s.1 x = some lab
 closed : ∀ x, zan s.1 x = some lab -> x ∈ s.2 \/ ∀ y, y ≠ x -> adj x y = true -> zan s.1 y ≠ some 0
theorem spRound_inv (hl : lab ≠ 0) (hkeys : ∀ x, (∃ v, zan M0 x = some v) -> x ∈ l) (hadj : ∀ b x, b ≠ x -> (adj b x = true ↔ ∃ d ∈ moves, zhf b d = x)) {M : zcu} {c : zf} {q : List zf} (h : InvS l adj M0 first lab (M, c :: q)) : InvS l adj M0 first lab (zmb lab moves c (M, q)) := by
 have hc : zan M c = some lab := h.queue c (by simp);have h0 : InvC l adj M0 first lab c (M, q) := ⟨h.conn, h.old, fun x hx => h.queue x (by simp [hx]), fun x hx => by
  rcases h.closed x hx with h1 | h1
  ·rcases List.mem_cons.1 h1 with h1 | h1
   ·exact .inl h1
   ·exact .inr (.inl h1)
  ·exact .inr (.inr h1)⟩
 obtain ⟨h1, h2⟩ := spFold_inv hl hkeys hadj (h.conn c hc) moves (M, q) (fun d hd => hd) hc h0;refine ⟨h1.conn, h1.old, h1.queue, fun x hx => ?_⟩;rcases h1.closed x hx with e | h3 | h3
 ·subst e;right
  intro y hy ha;obtain ⟨d, hd, rfl⟩ := (hadj x y (fun e => hy e.symm)).1 ha;exact spFold_done hl x moves (M, q) d hd
 ·exact .inl h3
 ·exact .inr h3
theorem spEnd_inv (hl : lab ≠ 0) (hkeys : ∀ x, (∃ v, zan M0 x = some v) -> x ∈ l) (hadj : ∀ b x, b ≠ x -> (adj b x = true ↔ ∃ d ∈ moves, zhf b d = x)) : ∀ (n : Nat) (s : zcu × List zf), zct s <= n -> InvS l adj M0 first lab s -> InvS l adj M0 first lab (zld lab moves s, [])
 | n, (M, []), _, h => by rw [zkw]; exact h
 | 0, (M, c :: q), hn, h => by simp only [zct, List.length_cons] at hn; omega
 | n + 1, (M, c :: q), hn, h => by
  rw [zor hl];have h1 : zct (zmb lab moves c (M, q)) <= zct (M, q) := zid hl c moves (M, q);have h2 : zct (M, c :: q) = zct (M, q) + 1 := by simp only [zct, List.length_cons]; omega
  exact spEnd_inv hl hkeys hadj n _ (by omega) (spRound_inv hl hkeys hadj h)
theorem spread_get (hl : lab ≠ 0) (hkeys : ∀ x, (∃ v, zan M0 x = some v) ↔ x ∈ l) (hadj : ∀ b x, b ≠ x -> (adj b x = true ↔ ∃ d ∈ moves, zhf b d = x)) (hsym : ∀ x y, adj x y = true -> adj y x = true)
  (hfresh : ∀ x, zan M0 x ≠ some lab) (hfirst : zan M0 first = some 0) (hold : ∀ x y v, zan M0 x = some v -> v ≠ 0 -> y ∈ l -> adj x y = true -> zan M0 y = some v) (x : zf) :
  (zbi l adj first x -> zan (zlc M0 first lab moves) x = some lab) /\ (¬ zbi l adj first x -> zan (zlc M0 first lab moves) x = zan M0 x) := by
 have hfl : first ∈ l := (hkeys first).1 ⟨0, hfirst⟩
 have hg : ∀ x, zan (zcz M0 first lab) x = if x = first then some lab else zan M0 x := fun x => zdc _ _ _ _
 have h0 : InvS l adj M0 first lab (zcz M0 first lab, [first]) := ⟨fun x hx => by
   rw [hg] at hx;split at hx
   ·rename_i e; rw [e]; exact .refl hfl
   ·exact absurd hx (hfresh x), fun x => by
   rw [hg];split
   ·exact .inl rfl
   ·exact .inr rfl, fun x hx => by
   simp at hx; subst hx; rw [hg, if_pos rfl], fun x hx => by
   rw [hg] at hx;split at hx
   ·rename_i e; left; simp [e]
   ·exact absurd hx (hfresh x)⟩
 have h1 := spEnd_inv hl (fun x h => (hkeys x).1 h) hadj _ _ (Nat.le_refl _) h0;have hW : zld lab moves (zcz M0 first lab, [first]) = zlc M0 first lab moves := rfl
 rw [hW] at h1;generalize zlc M0 first lab moves = W at *
 -- the first one keeps its label, and the set is closed
 have hstart : zan W first = some lab := by
  rw [<- hW];have key : ∀ (n : Nat) (s : zcu × List zf), zct s <= n -> InvS l adj M0 first lab s -> zan s.1 first = some lab -> zan (zld lab moves s) first = some lab := by
   intro n;induction n with
   | zero =>
    rintro ⟨M, q⟩ hn _ h;have hq : q = [] := by
     simp only [zct] at hn;exact List.eq_nil_of_length_eq_zero (by omega)
    subst hq;rw [zkw]; exact h
   | succ n ih =>
    rintro ⟨M, q⟩ hn hi h;cases q with
    | nil => rw [zkw]; exact h
    | cons c q =>
     rw [zor hl];have h2 : zct (zmb lab moves c (M, q)) <= zct (M, q) := zid hl c moves (M, q);have h3 : zct (M, c :: q) = zct (M, q) + 1 := by simp only [zct, List.length_cons]; omega
     refine ih _ (by omega) (spRound_inv hl (fun x h => (hkeys x).1 h) hadj hi) ?_;have keep : ∀ (m : List zf) (s : zcu × List zf), zan s.1 first = some lab -> zan (m.foldl (zcd lab c) s).1 first = some lab := by
      intro m;induction m with
      | nil => intro s h; exact h
      | cons d m ihm =>
       intro s h;refine ihm _ ?_;unfold zcd;split
       ·simp only [zdc];split
        ·rfl
        ·exact h
       ·exact h
     exact keep moves (M, q) h
  exact key _ _ (Nat.le_refl _) h0 (by rw [hg, if_pos rfl])
 have hreach : ∀ x, zbi l adj first x -> zan W x = some lab := fun x hx => by
  induction hx with
  | refl _ => exact hstart
  | step hab hc ha ih =>
   rename_i b c;have ih := ih;by_cases e : c = b
   ·subst e; exact ih
   ·rcases h1.old c with h2 | h2
    ·exact h2
    ·have h3 : zan W c ≠ some 0 := by
      rcases h1.closed b ih with h4 | h4
      ·simp at h4
      ·exact h4 c e ha
     obtain ⟨v, hv⟩ := (hkeys c).2 hc;by_cases hv0 : v = 0
     ·subst hv0; rw [h2] at h3; exact absurd hv h3
     ·have := hold c b v hv hv0 hab.right (hsym _ _ ha)
      -- b was labelled in this search, so it had the label 0
      have hb0 : zan M0 b = some 0 := by
       clear ih h3;have key : ∀ x, zbi l adj first x -> zan M0 x = some 0 := by
        intro x hx;induction hx with
        | refl _ => exact hfirst
        | step p1 p2 p3 p4 =>
         obtain ⟨u, hu⟩ := (hkeys _).2 p2;by_cases hu0 : u = 0
         ·rw [hu0] at hu; exact hu
         ·have := hold _ _ u hu hu0 p1.right (hsym _ _ p3);rw [p4 ] at this;exact absurd (Option.some.inj this).symm hu0
       exact key b hab
      rw [hb0] at this;exact absurd (Option.some.inj this).symm hv0
 refine ⟨hreach x, fun hn => ?_⟩;rcases h1.old x with h2 | h2
 ·exact absurd (h1.conn x h2) hn
 ·exact h2
end

section
open Classical
variable (l : List zf) (adj : zf -> zf -> Bool)
noncomputable def hdS : Nat -> List zf
 | 0 => []
 | k + 1 => match l[k]? with
  | some c => if ∃ h ∈ hdS k, zbi l adj h c then hdS k else hdS k ++ [c]
  | none => hdS k
noncomputable def cls (h : zf) (m : List zf) : List zf := m.filter fun x => decide (zbi l adj h x)
noncomputable def zez (k : Nat) : List (List zf) := (hdS l adj k).map fun h => cls l adj h (l.take k)
noncomputable def zeb : List (List zf) := (hdS l adj l.length).map fun h => cls l adj h l
noncomputable def zqn (H : List zf) (x : zf) : Nat := match H.findIdx? fun h => decide (zbi l adj h x) with
 | some i => i + 1
 | none => 0
end
section
variable {l : List zf} {adj : zf -> zf -> Bool}
theorem zgp {k : Nat} {c : zf} (h : l[k]? = some c) : ((∃ x ∈ hdS l adj k, zbi l adj x c) /\ hdS l adj (k + 1) = hdS l adj k) \/ ((¬ ∃ x ∈ hdS l adj k, zbi l adj x c) /\ hdS l adj (k + 1) = hdS l adj k ++ [c]) := by
 by_cases q : ∃ x ∈ hdS l adj k, zbi l adj x c
 ·left; refine ⟨q, ?_⟩; simp only [hdS, h]; rw [if_pos q]
 ·right; refine ⟨q, ?_⟩; simp only [hdS, h]; rw [if_neg q]
theorem zvx : ∀ (k : Nat) (x : zf), x ∈ hdS l adj k -> x ∈ l.take k
 | 0, x, h => by simp [hdS] at h
 | k + 1, x, h => by
  cases hk : l[k]? with
  | none =>
   have e : hdS l adj (k + 1) = hdS l adj k := by simp only [hdS, hk]
   rw [e] at h;have := zvx k x h;exact List.mem_of_mem_take (i := k) (by rwa [List.take_take, Nat.min_eq_left (by omega)]) 
  | some c =>
   rw [zat hk];rcases zgp (adj := adj) hk with ⟨_, e⟩ | ⟨_, e⟩
   ·rw [e] at h; exact List.mem_append_left _ (zvx k x h)
   ·rw [e] at h;rcases List.mem_append.1 h with h | h
    ·exact List.mem_append_left _ (zvx k x h)
    ·exact List.mem_append_right _ h
theorem hdS_in {k : Nat} {x : zf} (h : x ∈ hdS l adj k) : x ∈ l := List.mem_of_mem_take (zvx k x h)
theorem znq : ∀ (k : Nat), k <= l.length -> ∀ x ∈ l.take k, ∃ h ∈ hdS l adj k, zbi l adj h x
 | 0, _, x, h => by simp at h
 | k + 1, hk, x, h => by
  obtain ⟨c, hc⟩ := zap (show k < l.length by omega);rw [zat hc] at h;have ih := znq k (by omega);rcases zgp (adj := adj) hc with ⟨q, e⟩ | ⟨q, e⟩
  ·rw [e];rcases List.mem_append.1 h with h | h
   ·exact ih x h
   ·simp at h; subst h; exact q
  ·rw [e];rcases List.mem_append.1 h with h | h
   ·obtain ⟨y, hy, h2⟩ := ih x h; exact ⟨y, by simp [hy], h2⟩
   ·simp at h; subst h; exact ⟨x, by simp, .refl (List.mem_of_getElem? hc)⟩
theorem hdS_pw (hsym : ∀ x y, adj x y = true -> adj y x = true) : ∀ (k : Nat), (hdS l adj k).Pairwise fun a b => ¬ zbi l adj a b
 | 0 => by simp [hdS]
 | k + 1 => by
  have ih := hdS_pw hsym k;cases hk : l[k]? with
  | none => have e : hdS l adj (k + 1) = hdS l adj k := by simp only [hdS, hk]
            rw [e]; exact ih
  | some c =>
   rcases zgp (adj := adj) hk with ⟨_, e⟩ | ⟨q, e⟩
   ·rw [e]; exact ih
   ·rw [e, List.pairwise_append];refine ⟨ih, by simp, fun a ha b hb => ?_⟩;simp at hb; subst hb;exact fun h => q ⟨a, ha, h⟩
theorem zvw (hsym : ∀ x y, adj x y = true -> adj y x = true) {k : Nat} {i j : Nat} {a b x : zf} (hi : (hdS l adj k)[i]? = some a) (hj : (hdS l adj k)[j]? = some b) (ha : zbi l adj a x) (hb : zbi l adj b x) : i = j := by
 have hp := List.pairwise_iff_getElem.1 (hdS_pw (l := l) hsym k);obtain ⟨i1, i2⟩ := List.getElem?_eq_some_iff.1 hi;obtain ⟨j1, j2⟩ := List.getElem?_eq_some_iff.1 hj;rcases (by omega : i < j \/ i = j \/ j < i) with h | h | h
 ·exact absurd (ha.trans (hb.symm hsym)) (by have := hp i j i1 j1 h; rwa [i2, j2] at this)
 ·exact h
 ·exact absurd (hb.trans (ha.symm hsym)) (by have := hp j i j1 i1 h; rwa [j2, i2] at this)
theorem hdS_len : ∀ k, (hdS l adj k).length <= k
 | 0 => by simp [hdS]
 | k + 1 => by
  have ih := hdS_len k;cases hk : l[k]? with
  | none => have e : hdS l adj (k + 1) = hdS l adj k := by simp only [hdS, hk]
            rw [e]; omega
  | some c =>
   rcases zgp (adj := adj) hk with ⟨_, e⟩ | ⟨q, e⟩
   ·rw [e]; omega
   ·rw [e]; simp; omega
theorem labN_zero {H : List zf} {x : zf} : zqn l adj H x = 0 ↔ ∀ h ∈ H, ¬ zbi l adj h x := by
 unfold zqn;split
 ·rename_i i hi;constructor
  ·intro h; omega
  ·intro h;obtain ⟨hl, h1, _⟩ := List.findIdx?_eq_some_iff_getElem.1 hi;exact absurd (by simpa using h1) (h _ (List.getElem_mem hl))
 ·rename_i hi;rw [List.findIdx?_eq_none_iff] at hi;constructor
  ·intro _ h hh hc;have := hi h hh;simp [hc] at this
  ·intro _; rfl
theorem zim {H : List zf} (hone : ∀ (i j : Nat) (a b x : zf), H[i]? = some a -> H[j]? = some b -> zbi l adj a x -> zbi l adj b x -> i = j) {x : zf} {i : Nat} : zqn l adj H x = i + 1 ↔ ∃ h, H[i]? = some h /\ zbi l adj h x := by
 unfold zqn;split
 ·rename_i j hj;obtain ⟨hl, h1, _⟩ := List.findIdx?_eq_some_iff_getElem.1 hj;have h1 : zbi l adj H[j] x := by simpa using h1
  constructor
  ·intro h;have : j = i := by omega
   subst this;exact ⟨H[j], List.getElem?_eq_getElem hl, h1⟩
  ·rintro ⟨h, h2, h3⟩;have := hone j i _ _ x (List.getElem?_eq_getElem hl) h2 h1 h3;omega
 ·rename_i hj;rw [List.findIdx?_eq_none_iff] at hj;constructor
  ·intro h; omega
  ·rintro ⟨h, h2, h3⟩;have := hj h (List.mem_of_getElem? h2);simp [h3] at this
theorem cls_get {h : zf} {k : Nat} {c : zf} (hk : l[k]? = some c) : (zbi l adj h c /\ cls l adj h (l.take (k + 1)) = cls l adj h (l.take k) ++ [c]) \/ (¬ zbi l adj h c /\ cls l adj h (l.take (k + 1)) = cls l adj h (l.take k)) := by
 unfold cls;rw [zat hk, List.filter_append];by_cases q : zbi l adj h c
 ·left; exact ⟨q, by rw [List.filter_cons_of_pos (by simpa using q)]; rfl⟩
 ·right; exact ⟨q, by rw [List.filter_cons_of_neg (by simpa using q)]; simp⟩
theorem zfr {h : zf} {m : List zf} {x : zf} : x ∈ cls l adj h m ↔ x ∈ m /\ zbi l adj h x := by simp [cls]
theorem grpTo_all : zez l adj l.length = zeb l adj := by unfold zez zeb; rw [List.take_length]
theorem grpTo_len (k : Nat) : (zez l adj k).length = (hdS l adj k).length := by simp [zez]
theorem grpTo_old (hsym : ∀ x y, adj x y = true -> adj y x = true) {k : Nat} {c : zf} (hk : l[k]? = some c) {i : Nat} {h : zf} (hi : (hdS l adj k)[i]? = some h) (hc : zbi l adj h c) :
  hdS l adj (k + 1) = hdS l adj k /\ zez l adj (k + 1) = (zez l adj k).set i (cls l adj h (l.take k) ++ [c]) /\ (zez l adj k)[i]? = some (cls l adj h (l.take k)) := by
 have e : hdS l adj (k + 1) = hdS l adj k := by
  rcases zgp (adj := adj) hk with ⟨_, e⟩ | ⟨q, e⟩
  ·exact e
  ·exact absurd ⟨h, List.mem_of_getElem? hi, hc⟩ q
 refine ⟨e, ?_, by simp [zez, hi]⟩;unfold zez;rw [e];refine List.ext_getElem? fun j => ?_;rw [List.getElem?_set, List.getElem?_map, List.length_map];by_cases hj : i = j
 ·subst hj;rw [if_pos rfl, hi, if_pos (List.getElem?_eq_some_iff.1 hi).1];rcases cls_get (adj := adj) (h := h) hk with ⟨_, e2⟩ | ⟨q, _⟩
  ·simp [e2]
  ·exact absurd hc q
 ·rw [if_neg hj, List.getElem?_map];cases hb : (hdS l adj k)[j]? with
  | none => rfl
  | some b =>
   simp only [Option.map_some];rcases cls_get (adj := adj) (h := b) hk with ⟨q, _⟩ | ⟨_, e2⟩
   ·exact absurd (zvw hsym hi hb hc q) hj
   ·rw [e2]
theorem grpTo_new (hsym : ∀ x y, adj x y = true -> adj y x = true) {k : Nat} {c : zf} (hk : l[k]? = some c) (hno : ∀ h ∈ hdS l adj k, ¬ zbi l adj h c) :
  hdS l adj (k + 1) = hdS l adj k ++ [c] /\ zez l adj (k + 1) = zez l adj k ++ [[c]] := by
 have e : hdS l adj (k + 1) = hdS l adj k ++ [c] := by
  rcases zgp (adj := adj) hk with ⟨⟨x, hx, hc⟩, _⟩ | ⟨_, e⟩
  ·exact absurd hc (hno x hx)
  ·exact e
 refine ⟨e, ?_⟩;have hcl : c ∈ l := List.mem_of_getElem? hk;unfold zez;rw [e, List.map_append]
 congr 1
 ·refine List.map_congr_left fun h hh => ?_;rcases cls_get (adj := adj) (h := h) hk with ⟨q, _⟩ | ⟨_, e2⟩
  ·exact absurd q (hno h hh)
  ·exact e2
 ·simp only [List.map_cons, List.map_nil, List.cons.injEq, and_true];rcases cls_get (adj := adj) (h := c) hk with ⟨_, e2⟩ | ⟨q, _⟩
  ·rw [e2];have : cls l adj c (l.take k) = [] := by
    rw [List.eq_nil_iff_forall_not_mem];intro x hx;obtain ⟨h1, h2⟩ := zfr.1 hx;obtain ⟨h, hh, h3⟩ := znq (adj := adj) k (by have := (List.getElem?_eq_some_iff.1 hk).1; omega) x h1;exact hno h hh (h3.trans (h2.symm hsym))
   rw [this]; rfl
  ·exact absurd (.refl hcl) q
end
end Go.Proofs.YtdddknniooimmaaGreat

namespace Go.Proofs.YtdddknniooimmaaGreat
open Go.Abs

def zao (t : Bool) (c x : zf) : Bool := (decide (-1 <= x.x - c.x) && decide (x.x - c.x <= 1) && decide (-1 <= x.y - c.y) && decide (x.y - c.y <= 1)) && (t || decide (x.x - c.x = 0) || decide (x.y - c.y = 0))
theorem adjR_symm {t : Bool} {c x : zf} (h : zao t c x = true) : zao t x c = true := by
 simp only [zao, Bool.and_eq_true, Bool.or_eq_true, decide_eq_true_eq] at h ⊢;obtain ⟨⟨⟨⟨h1, h2⟩, h3⟩, h4⟩, h5⟩ := h;refine ⟨⟨⟨⟨by omega, by omega⟩, by omega⟩, by omega⟩, ?_⟩;rcases h5 with (h5 | h5) | h5
 ·exact .inl (.inl h5)
 ·exact .inl (.inr (by omega))
 ·exact .inr (by omega)
section
variable {l : List zf} {t : Bool} {i0 : Nat} {first : zf}
end
end Go.Proofs.YtdddknniooimmaaGreat

namespace Go.Abs
variable [Flag]

def zko (P : Program) (f : FuncId) (c : XC) (ti : List (Nat × Nat)) (obj : Nat -> Option Ob) (args : List AV) : Eff :=
 {val := dn (swp ti) c.r, wr := gone c.σ ++ zmw (swp ti) c.hp' ti,
  ob := (zen c.σ c.as args /\ zka obj c.σ c.hp /\ zdg (c.σ.map (·.2)) = true /\ c.σ.map (·.1) = c.hp.map (·.1) /\ zdg (ti.map (·.1)) = true /\ zdg (ti.map (·.2)) = true) /\ PX P f c.as c.hp c.pin c.hp' c.r }

def AfterN (g : G) (obj : Nat -> Option Ob) (w : World) (N : Nat -> Prop) (e : Eff) (v : Value) (w' : World) : Prop :=
 ∃ g', zah g' (zcm obj e.wr) w' /\ zam g w g' w' /\ zbt g w g' w' /\ (∀ k, g'.used k -> g.used k \/ N k) /\ zi g' w' e.val v

theorem y_sound {P : Program} {f : FuncId} {g : G} {obj : Nat -> Option Ob} {w : World} (h : zah g obj w) {c : XC} {ti : List (Nat × Nat)} {N : Nat -> Prop} (hid : ∀ x, N x -> ¬ g.used x) (hti : ∀ x j, find ti x = some j -> N x \/ ∃ i, (i, j) ∈ c.pin /\ find c.σ i = some x) {args : List AV} {us : List Value} (hargs : zk g w args us) (hob : (zko P f c ti obj args).ob) :
  Calls P f us.toArray w fun e w' => ∃ v, e = .returned v /\ AfterN g obj w N (zko P f c ti obj args) v w' := by
 obtain ⟨⟨ha, hhp, hσ0, hdom, ht10, ht20⟩, _, hpx⟩ := hob;have hσ := zes hσ0;have ht1 := zes ht10;have ht2 := zes ht20;have hin : ∀ {i x}, find c.σ i = some x -> (find c.hp i).isSome = true := fun {i x} hi => by
  have := zhs hi;rw [hdom] at this;obtain ⟨v, hv⟩ := zev this;rw [hv]; rfl
 let g0 : G := via g c.σ c.hp
 have hloc0 : ∀ i x, find c.σ i = some x -> g0.loc i = g.loc x := fun i x hi => zhk hi;have hused0 : ∀ i x, find c.σ i = some x -> g0.used i := fun i x hi => hin hi;have hl0 : ∀ i L, g0.loc i = some L -> ∃ x, find c.σ i = some x /\ g.loc x = some L := fun i L hL => zjd hL;have hH0 : zah g0 (zfy c.hp) w := zsk h hhp hσ hdom;refine (hpx g0 w us hH0 (fun _ hk => hk) (zii hused0 hloc0 (fun _ hb => hb) ha hargs)).mono fun e w' ⟨v, g1, he, hH1, hr1, hs1, hp1⟩ => ⟨v, he, ?_⟩
 have hown0 : ∀ b, g0.owns b -> ∃ x, x ∈ c.σ.map (·.2) /\ ∃ L, g.loc x = some L /\ L.virt = false /\ L.blk = b := by
  rintro b ⟨i, L, hL, hv, hb⟩;obtain ⟨x, h1, h2⟩ := hl0 i L hL;exact ⟨x, znv h1, L, h2, hv, hb⟩
 have hkeep : ∀ x L, x ∉ c.σ.map (·.2) -> g.loc x = some L -> L.virt = false -> ¬ g0.owns L.blk := by
  rintro x L hx hL hv ho;obtain ⟨y, hy, M, hM, hvM, hb⟩ := hown0 _ ho;have := h.inj y x M L hM hL hvM hv hb;exact hx (this ▸ hy)
 let g2 : G := ⟨g1.ro, fun x => match find ti x with | some j => g1.loc j | none => if x ∈ c.σ.map (·.2) then none else g.loc x, fun x => g.used x \/ find ti x ≠ none⟩
 have hg2t : ∀ x j, find ti x = some j -> g2.loc x = g1.loc j := fun x j hx => by simp only [g2, hx]
 have hg2n : ∀ x, find ti x = none -> g2.loc x = if x ∈ c.σ.map (·.2) then none else g.loc x := fun x hx => by simp only [g2, hx]
 have hτ : ∀ i x, find (swp ti) i = some x -> find ti x = some i := fun i x hi => zva ht1 ht2 hi;have hlater : zbt g w g2 w' := by
  refine ⟨fun b hb => ⟨hs1.ro b hb, ?_⟩, fun x hx => .inl hx, fun x hx => ?_⟩
  ·refine hs1.block b (h.ro b hb) fun ho => ?_;obtain ⟨y, hy, M, hM, hvM, hbb⟩ := hown0 b ho;exact ((h.live y M hM).2 hvM).2 (hbb ▸ hb)
  ·cases hf : find ti x with
   | none =>
    rw [hg2n x hf];split
    ·exact .inr rfl
    ·exact .inl rfl
   | some j =>
    rcases hti x j hf with hN | ⟨i, h1, h2⟩
    ·exact absurd hx (hid x hN)
    ·left
     rw [hg2t x j hf, hp1 i j h1, hloc0 i x h2]
 have hobj2 : ∀ x, zcm obj (zko P f c ti obj args).wr x = match find ti x with
   | some j => (find c.hp' j).map fun o => ⟨o.elem, o.m, dnR (swp ti) o.rows⟩
   | none => if x ∈ c.σ.map (·.2) then none else obj x := by
  intro x;simp only [zko];rw [zje, zhl (by rw [zoi]; exact ht1), zhl (by rw [zns]; exact hσ), zoj, znt];cases find ti x with
  | some j => rfl
  | none => simp only [Option.map_none, Option.getD_none]; split <;> rfl
 refine ⟨g2, ⟨?_, ?_, ?_, ?_, hH1.ro⟩, ?_, hlater, ?_, ?_⟩
 ·intro x o ho;rw [hobj2] at ho;cases hf : find ti x with
  | some j =>
   rw [hf] at ho;simp only [Option.map_eq_some_iff] at ho;obtain ⟨o1, ho1, rfl⟩ := ho;obtain ⟨L, hL, hok⟩ := hH1.own j o1 ho1;refine ⟨L, by rw [hg2t x j hf]; exact hL, hok.m, hok.pos, by simpa only [zpx] using hok.len, fun hv => by simp [hok.virt hv, dnR], fun hv => ?_, fun hv => ⟨(hok.ents hv).1, (hok.ents hv).2.imp fun es he => he.imp fun clock he => ⟨he.1, he.2.1, zwp (fun i y hy => Or.inr (by rw [hτ i y hy]; simp)) (fun i y hy => hg2t y i (hτ i y hy)) (fun _ hb => hb) _ _ he.2.2⟩⟩⟩;obtain ⟨cur, c1, c2, c3, c5⟩ := hok.cells hv;refine ⟨cur, c1, c2, c3, fun k row hi => ?_⟩;obtain ⟨r0, hr0, rfl⟩ := dnR_get _ _ k row hi;obtain ⟨d1, d2⟩ := c5 k r0 hr0;refine ⟨by rw [zpy]; exact d1, fun q av hq => ?_⟩;obtain ⟨a0, ha0, rfl⟩ := dnL_get _ _ q av hq;obtain ⟨u, q1, q2, q3⟩ := d2 q a0 ha0;exact ⟨u, q1, q2, zrz (fun i y hy => Or.inr (by rw [hτ i y hy]; simp)) (fun i y hy => hg2t y i (hτ i y hy)) (fun _ hb => hb) _ _ q3⟩
  | none =>
   rw [hf] at ho;simp only at ho;split at ho
   ·cases ho
   ·rename_i hx;obtain ⟨L, hL, hok⟩ := h.own x o ho;exact ⟨L, by rw [hg2n x hf, if_neg hx]; exact hL, hok.later hlater fun hv => hs1.block _ ((h.live x L hL).2 hv).1 (hkeep x L hx hL hv)⟩
 ·intro x hx;rw [hobj2] at hx;cases hf : find ti x with
  | some j =>
   rw [hf] at hx;rw [hg2t x j hf];simp only [Option.map_eq_none_iff] at hx;exact hH1.gone j hx
  | none =>
   rw [hf] at hx;simp only at hx;rw [hg2n x hf];split
   ·rfl
   ·rename_i hn; rw [if_neg hn] at hx; exact h.gone x hx
 ·intro x L hL;cases hf : find ti x with
  | some j =>
   rw [hg2t x j hf] at hL;exact ⟨.inr (by rw [hf]; simp), (hH1.live j L hL).2⟩
  | none =>
   rw [hg2n x hf] at hL;split at hL
   ·cases hL
   ·rename_i hx;refine ⟨.inl (h.live x L hL).1, fun hv => ⟨Nat.lt_of_lt_of_le ((h.live x L hL).2 hv).1 hs1.size, fun hro => ?_⟩⟩;rcases hs1.ro' _ hro with h1 | h1 | h1
    ·exact ((h.live x L hL).2 hv).2 h1
    ·have := ((h.live x L hL).2 hv).1; omega
    ·exact hkeep x L hx hL hv h1
 ·intro x y L L' hL hL' hv hv' hb;have mix : ∀ x y L L', (∃ j, find ti x = some j) -> find ti y = none -> g2.loc x = some L -> g2.loc y = some L' -> L.virt = false -> L'.virt = false -> L.blk = L'.blk -> False := by
   rintro x y L L' ⟨j, hx⟩ hy hL hL' hv hv' hb;rw [hg2t x j hx] at hL;rw [hg2n y hy] at hL';split at hL'
   ·cases hL'
   ·rename_i hny;rcases hs1.own L.blk ⟨j, L, hL, hv, rfl⟩ with h1 | h1
    ·have := ((h.live y L' hL').2 hv').1; omega
    ·exact hkeep y L' hny hL' hv' (hb ▸ h1)
  cases hx : find ti x with
  | some j =>
   cases hy : find ti y with
   | some k =>
    rw [hg2t x j hx] at hL;rw [hg2t y k hy] at hL';have := hH1.inj j k L L' hL hL' hv hv' hb;subst this;exact znx ht2 hx hy
   | none => exact (mix x y L L' ⟨j, hx⟩ hy hL hL' hv hv' hb).elim
  | none =>
   cases hy : find ti y with
   | some k => exact (mix y x L' L ⟨k, hy⟩ hx hL' hL hv' hv hb.symm).elim
   | none =>
    rw [hg2n x hx] at hL;rw [hg2n y hy] at hL';split at hL
    ·cases hL
    ·split at hL'
     ·cases hL'
     ·exact h.inj x y L L' hL hL' hv hv' hb
 ·refine ⟨hs1.os, hs1.tape, hs1.output, hs1.size, fun b hb hn => hs1.block b hb fun ho => hn ?_, ?_, fun b hb => hs1.ro b hb, fun b hb => ?_⟩
  ·obtain ⟨x, _, L, h1, h2, h3⟩ := hown0 b ho;exact ⟨x, L, h1, h2, h3⟩
  ·rintro b ⟨x, L, hL, hv, hb⟩;cases hf : find ti x with
   | some j =>
    rw [hg2t x j hf] at hL;rcases hs1.own b ⟨j, L, hL, hv, hb⟩ with h1 | h1
    ·exact .inl h1
    ·obtain ⟨y, _, M, q1, q2, q3⟩ := hown0 b h1;exact .inr ⟨y, M, q1, q2, q3⟩
   | none =>
    rw [hg2n x hf] at hL;split at hL
    ·cases hL
    ·exact .inr ⟨x, L, hL, hv, hb⟩
  ·rcases hs1.ro' b hb with h1 | h1 | h1
   ·exact .inl h1
   ·exact .inr (.inl h1)
   ·obtain ⟨y, _, M, q1, q2, q3⟩ := hown0 b h1;exact .inr (.inr ⟨y, M, q1, q2, q3⟩)
 ·intro k hk;rcases hk with hk | hk
  ·exact .inl hk
  ·cases hf : find ti k with
   | none => exact absurd hf hk
   | some j =>
    rcases hti k j hf with hN | ⟨i, h1, h2⟩
    ·exact .inr hN
    ·have h3 := hin h2;obtain ⟨o, ho⟩ := Option.isSome_iff_exists.1 h3;obtain ⟨x', o', q1, q2, _⟩ := znp hhp i o ho;rw [h2] at q1;cases q1;obtain ⟨L, hL, _⟩ := h.own k o' q2;exact .inl (h.live k L hL).1
 ·exact zrz (fun i y hy => Or.inr (by rw [hτ i y hy]; simp)) (fun i y hy => hg2t y i (hτ i y hy)) (fun _ hb => hb) _ _ hr1

theorem zfb {P : Program} {ty : TypeId -> Option TI} (hc : Ctx P ty) {orc : List (Nat × Res)} {gs : List (Option Tmp)} {ops : Array Oper} (hgs : ∀ j : Nat, gs[j]? = (ops[j]?).map fun o : Oper => o.dst) {base nxt : Nat} {Q : Exit -> Act -> World -> Prop} {K : St -> Prop} {g0 : G} {w0 : World}
  {l2 : List Oper} {en n0 : Nat} (hQ : ∀ s g a w, s.nxt = nxt -> s.n = n0 -> Rel (· < base + en) g s.get s.obj s.n a w -> zam g0 w0 g w -> K s -> wpList P ops Q l2 a w) :
  ∀ (l : List Oper) (i : Nat) (s : St) (g : G) (a : Act) (w : World), i + l.length = en -> s.nxt = nxt -> s.n = n0 -> Rel (· < base + i) g s.get s.obj s.n a w -> zam g0 w0 g w -> wpT ty P orc gs base i l s K -> wpList P ops Q (l ++ l2) a w
 | [], i, s, g, a, w, hle, hnx, hn0, h, hs, hk => hQ s g a w hnx hn0 (by simp at hle; rw [<- hle]; exact h) hs hk
 | o :: rest, i, s, g, a, w, hle, hnx, hn0, h, hs, hk => by
  simp only [List.length_cons] at hle;have hargs : zk g w (o.op.operands.toList.map s.eval) (o.op.operands.toList.map a.eval) := by
   refine zk.of_get (by simp) fun j av hj => ?_;rw [List.getElem?_map] at hj ⊢;cases hx : o.op.operands.toList[j]? with
   | none => rw [hx] at hj; cases hj
   | some x => rw [hx] at hj; cases hj; exact ⟨a.eval x, rfl, zec h (fun _ => rfl) x⟩
  have relapp : ∀ (e : Eff) (g' : G) (a' : Act) (w' : World), Rel (fun k => k < base + i \/ k = base + i) g' (zhj s.get o.dst e.val) (zcm s.obj e.wr) s.n a' w' -> Rel (· < base + (i + 1)) g' (s.app o.dst e).get (s.app o.dst e).obj (s.app o.dst e).n a' w' := by
   intro e g' a' w' hr;have hn : (s.app o.dst e).n = s.n := by unfold St.app St.put; cases o.dst <;> rfl
   rw [hn];exact ⟨hr.defers, hr.size, fun t => by rw [zku]; exact hr.tmp t, fun id hu => by
    have := hr.used id hu
    show id < base + (i + 1)
    rcases this with hh | hh <;> omega, by
    have : (s.app o.dst e).obj = zcm s.obj e.wr := funext (zkt s o.dst e);rw [this]; exact hr.heap⟩
  have hnapp : ∀ e, (s.app o.dst e).nxt = nxt := fun e => by rw [<- hnx]; unfold St.app St.put; cases o.dst <;> rfl
  have hna : ∀ e, (s.app o.dst e).n = s.n := fun e => by unfold St.app St.put; cases o.dst <;> rfl
  have hnput : ∀ v, (s.put o.dst v).nxt = nxt := fun v => by rw [<- hnx]; unfold St.put; cases o.dst <;> rfl
  have hnn : ∀ v, (s.put o.dst v).n = s.n := fun v => by unfold St.put; cases o.dst <;> rfl
  have relput : ∀ (v : AV) (g' : G) (a' : Act) (w' : World) (U : Nat -> Prop), (∀ k, U k -> k < base + (i + 1)) -> Rel U g' (zhj s.get o.dst v) s.obj s.n a' w' -> Rel (· < base + (i + 1)) g' (s.put o.dst v).get (s.put o.dst v).obj (s.put o.dst v).n a' w' := by
   intro v g' a' w' U hU hr;rw [hnn];have := hr.congr (get' := (s.put o.dst v).get) (obj' := (s.put o.dst v).obj) (fun t => St.get_put s o.dst v t) (fun id => zme s o.dst v id);exact ⟨this.defers, this.size, this.tmp, fun k hk => hU k (this.used k hk), this.heap⟩
  have skipped : ∀ v, (∀ d, o.dst = some d -> d < s.n) -> zi g w v undef -> wpT ty P orc gs base (i + 1) rest (s.put o.dst v) K -> wpList P ops Q (rest ++ l2) (a.put o.dst undef) w := by
   intro v hd hv hrest;have hr := zcb (U' := (· < base + i)) (dst := o.dst) (v := v) (u := undef) h h.heap ⟨fun b hb => ⟨hb, rfl⟩, fun _ hx => hx, fun _ _ => .inl rfl⟩ (fun k hk => h.used k hk) hv hd;exact zfb (nxt := nxt) hc hgs hQ rest (i + 1) _ g _ w (by omega) (hnput v) ((hnn v).trans hn0) (relput v g _ w _ (fun k hk => by omega) hr) hs hrest
  simp only [List.cons_append, wpList];unfold wpT at hk;split at hk
  ·rename_i hg;have hw : Region.wanted o (yielded ops a.tmps) = true := by simp [Region.wanted, hg]
   rw [if_pos hw];left
   unfold doOp at hk;split at hk
   ·rename_i e he;obtain ⟨hob, hd, hrest⟩ := hk;exact zge hc (nid := base + i) h (by simp) hargs he hob (fun d hd' => by rw [hd'] at hd; exact hd) fun g' a' w' hr hst =>
     zfb (nxt := nxt) hc hgs hQ rest (i + 1) (s.app o.dst e) g' a' w' (by omega) (hnapp e) ((hna e).trans hn0) (relapp e g' a' w' hr) (hs.trans hst) hrest
   ·exact hk.elim
  ·rename_i j want hg;split at hk
   ·rename_i x hgv;have hw := zkn (a := a) hgs h.tmp hg hgv;rw [hw];obtain ⟨hd, hk⟩ := hk;have hd' : ∀ d, o.dst = some d -> d < s.n := fun d hd' => by rw [hd'] at hd; exact hd
    split at hk
    ·rename_i e he;split at hk
     ·rename_i hwr;obtain ⟨hexec, hrest⟩ := hk;cases x with
      | true =>
       rw [if_pos rfl];left
       obtain ⟨hso, hob⟩ := hexec rfl;refine zge hc (nid := base + i) h (by simp) (zdy hargs hso) he hob hd' fun g' a' w' hr hst => ?_;rw [hwr] at hr;exact zfb (nxt := nxt) hc hgs hQ rest (i + 1) _ g' a' w' (by omega) (hnput _) ((hnn _).trans hn0) (relput _ g' a' w' _ (fun k hk => by rcases hk with hh | hh <;> omega) hr.opt) (hs.trans hst) hrest
      | false =>
       rw [if_neg (by simp)];exact skipped _ hd' (by simp [zi]) hrest
     ·obtain ⟨rfl, hso, hob, hrest⟩ := hk;rw [if_pos rfl];left
      exact zge hc (nid := base + i) h (by simp) (zdy hargs hso) he hob hd' fun g' a' w' hr hst =>
       zfb (nxt := nxt) hc hgs hQ rest (i + 1) (s.app o.dst e) g' a' w' (by omega) (hnapp e) ((hna e).trans hn0) (relapp e g' a' w' hr) (hs.trans hst) hrest
    ·obtain ⟨rfl, hrest⟩ := hk;rw [if_neg (by simp)];exact skipped _ hd' (by simp [zi]) hrest
   ·exact hk.elim


def zix (lo n : Nat) : List (Nat × Nat) -> Prop
 | [] => True
 | (x, _) :: r => (lo <= x /\ x < lo + n) /\ zix lo n r
theorem zwc {lo n x j : Nat} : ∀ {l : List (Nat × Nat)}, zix lo n l -> find l x = some j -> lo <= x /\ x < lo + n
 | [], _, h => by simp [find] at h
 | (y, k) :: r, hl, h => by
  simp only [zix] at hl;simp only [find] at h;split at h
  ·rename_i e; rw [<- e]; exact hl.1
  ·exact zwc hl.2 h
theorem zpr {α : Type} (x : Nat) : ∀ (a b : List (Nat × α)), find (a ++ b) x = (find a x).or (find b x)
 | [], b => by simp [find]
 | (y, k) :: r, b => by
  simp only [List.cons_append, find];split
  ·rfl
  ·exact zpr x r b

instance fls_l {n : Nat} : Fls (Nat.beq 0 (n + 1)) := ⟨rfl⟩
instance fls_r {n : Nat} : Fls (Nat.beq (n + 1) 0) := ⟨rfl⟩
instance fls_s {m n : Nat} [h : Fls (Nat.beq m n)] : Fls (Nat.beq (m + 1) (n + 1)) := ⟨h.h⟩


theorem ztv {P : Program} (w : World) (t ty e : TypeId) (i : TypeInfo) (ht : P.underlying t = some (.slice e)) (hi : P.info? e = some i)
  (g oo sLen sCap : Nat) (cur : Array Value) (hg : w.heap[g]? = some (.cells cur e (0, 0)))
  (a : Addr) (m c : Nat) (news : List Value) (hl : news.length = m * i.size) (hnews : ∀ j u, news[j]? = some u -> w.cell? (a.add j) = some u) (h1 : ∀ u ∈ news, u.oneCell' = true)
  (hroom : sLen + m <= sCap) (hfit : oo + sLen * i.size + news.length <= cur.size) :
  (Builtin.append_ #[t, t] ty #[.slice (some ⟨g, oo, none⟩) sLen sCap, .slice (some a) m c]).run P w =
   .ok (.slice (some ⟨g, oo, none⟩) (sLen + m) sCap) (w.setRow g (cur.toList.take (oo + sLen * i.size) ++ news ++ cur.toList.drop (oo + sLen * i.size + news.length)).toArray) := by
 have hf := run_firstCells_some (P := P) w i.size m a m c news hl hnews;have hst := run_storeCells_at P g (oo + sLen * i.size) e news 0 cur w hg (by simpa using hfit) h1;simp only [Nat.add_zero] at hst;simp [Builtin.append_, run_underlying ht, sizeOf, typeInfo, hi, Builtin.lenOf, hroom, hf, Addr.add_lit, hst]

def offOut (off : Nat) (rows r2 : List (List AV)) (q : Nat × List (List AV)) : Prop := q = (off, rows ++ r2) \/ q = (0, rows.drop off ++ r2)

theorem append_off_sound {P : Program} {t e ty : TypeId} {ti te : TI} (ht : TOk P t ti) (hk : ti.kind = .slice e) (he : TOk P e te) (hpos : 0 < te.size) (hbpos : 0 < te.bytes) {g : G} {obj : Nat -> Option Ob} {w : World} (h : zah g obj w) {nid : Nat} (hid : ¬ g.used nid)
  {id off len : Nat} {o : Ob} {x : AV} {vs vx : Value} {r2 : List (List AV)} {p2 : Prop} (hs : zi g w (.hs id off len) vs) (hx : zi g w x vx) (ho : obj id = some o) (hm : o.m = te.size) (hel : o.elem = e) (hfull : o.rows.length = off + len)
  (hsrc : zcx obj te.size x = some (r2, p2)) (hp2 : p2) (hr0 : 0 < r2.length) (hb : (len + r2.length) * te.bytes <= 140737488355328) :
  ∃ v w', (Builtin.append_ #[t, t] ty #[vs, vx]).run P w = .ok v w' /\ ∃ q, offOut off o.rows r2 q /\
   zaf g obj w nid { val := .hs nid q.1 (len + r2.length), wr := [(id, none), (nid, some ⟨e, te.size, q.2⟩)] } v w' := by
 by_cases hoff : off = 0
 ·subst hoff;have hlen : o.rows.length = len := by omega
  have htk : o.rows.take len = o.rows := List.take_of_length_le (by omega);have hd : zed obj e te.size (.hs id 0 len) = some (o.rows, [(id, none)], len <= o.rows.length) := by
   simp [zed, ho, hm, hel, htk]
  obtain ⟨v, w', hrun, hA⟩ := zww (ty := ty) ht hk he hpos hbpos h hid hs hx hd (by omega) hsrc hp2 (by rw [hlen]; exact hb);refine ⟨v, w', hrun, (0, o.rows ++ r2), .inl rfl, ?_⟩;rw [hlen] at hA;exact hA
 obtain ⟨i, z, hi, hsz, hby, hz, hzc, hzs, hzo⟩ := he.info;have hu : P.underlying t = some (.slice e) := by have := ht.kind; rw [hk] at this; exact this
 have h63 : len + r2.length <= maxLen := by
  have : len + r2.length <= (len + r2.length) * te.bytes := Nat.le_mul_of_pos_right _ hbpos;simp only [maxLen]; omega
 obtain ⟨b, o2, c, news, rfl, hnl, hc, hnr⟩ : ∃ b o2 c flat, vx = .slice (some ⟨b, o2, none⟩) r2.length c /\ flat.length = r2.length * te.size /\ zck w b o2 flat /\ zel g w te.size r2 flat := by
  rcases src_sound h hsrc hp2 hx with ⟨hv, _⟩ | hv
  ·rw [hv] at hr0; simp at hr0
  ·exact hv
 have hnews : ∀ j u, news[j]? = some u -> w.cell? ((⟨b, o2, none⟩ : Addr).add j) = some u := fun j u hj => by rw [Addr.add_lit]; exact (hc j u hj).1
 obtain ⟨L, hL, hok⟩ := h.own id o ho;have hne : nid ≠ id := fun e' => hid (e' ▸ (h.live id L hL).1);simp only [zi] at hs;rcases hs.2 L hL with ⟨hv, h0, _⟩ | ⟨hv, hle, hvs⟩
 ·exfalso
  have := hok.virt hv;rw [this] at hfull;simp only [List.length_nil] at hfull;omega
 ·obtain ⟨cur, hc1, hc2, hc3, hc5⟩ := hok.cells hv;have hmL : L.m = te.size := by rw [hok.m, hm]
  have hcap : off + len <= L.cap := by have := hok.len hv.2; omega
  have hvs' : vs = .slice (some ⟨L.blk, off * te.size, none⟩) len (L.cap - off) := by rw [hvs, hmL]
  have hin : ∀ n, n <= L.cap -> n * te.size <= cur.size := fun n hn => by rw [hc2, hmL]; exact Nat.mul_le_mul_right _ hn
  have hc1 := hc1.plain (by rw [hel]; exact he.ne);rw [hel] at hc1;by_cases hroom : len + r2.length <= L.cap - off
  ·-- in place
   have hfit : off * te.size + len * te.size + news.length <= cur.size := by
    rw [hnl, <- Nat.add_mul, <- Nat.add_mul]; exact hin _ (by omega)
   have hrun := ztv (P := P) w t ty e i hu hi L.blk (off * te.size) len (L.cap - off) cur hc1 ⟨b, o2, none⟩ r2.length c news (by rw [hsz]; exact hnl) hnews hc.one hroom (by rw [hsz]; exact hfit);rw [hsz] at hrun;rw [hvs'];refine ⟨_, _, hrun, (off, o.rows ++ r2), .inl rfl, ?_⟩;have hold : (cur.toList.take (off * te.size + len * te.size)).length = o.rows.length * te.size := by
    rw [hfull, Nat.add_mul, List.length_take, Array.length_toList];have := hin (off + len) hcap;rw [Nat.add_mul] at this; omega
   have hr1 : zel g w te.size o.rows (cur.toList.take (off * te.size + len * te.size)) := by
    intro k row hk';obtain ⟨a1, a2⟩ := hc5 k row hk';refine ⟨by rw [a1, hmL], fun j av hj => ?_⟩;obtain ⟨u, q1, q2, q3⟩ := a2 j av hj;refine ⟨u, ?_, q2, q3⟩;have hjm : j < te.size := by rw [<- hmL, <- a1]; exact (List.getElem?_eq_some_iff.1 hj).1
    have hkl : k < off + len := by rw [<- hfull]; exact (List.getElem?_eq_some_iff.1 hk').1
    have hlt : k * te.size + j < off * te.size + len * te.size := by
     have := Nat.mul_le_mul_right te.size (show k + 1 <= off + len from hkl);rw [Nat.succ_mul, Nat.add_mul] at this;omega
    rw [List.getElem?_take, if_pos hlt, <- hmL];simpa using q1
   obtain ⟨g', a1, a2, a3, a4, a5, a6⟩ := zah.write (w' := w.setRow L.blk (cur.toList.take (off * te.size + len * te.size) ++ news ++ cur.toList.drop (off * te.size + len * te.size + news.length)).toArray) (cap := L.cap) (B := L.blk) h hL hv (.inr hid) ⟨e, te.size, o.rows ++ r2⟩
    (cur.toList.take (off * te.size + len * te.size) ++ news ++ cur.toList.drop (off * te.size + len * te.size + news.length)).toArray rfl ⟨rfl, .inr (Nat.le_refl _)⟩ rfl (by simp [World.setRow]) (fun b _ hb => setRow_other w L.blk b _ hb) (.inl rfl) (.of (setRow_heap w L.blk cur _ e _ hc1)) hmL.symm hok.pos
    (by simp only [List.size_toArray, List.length_append, List.length_take, List.length_drop, Array.length_toList]; rw [<- hmL] at hfit ⊢; omega)
    (by simp only [List.length_append]; omega) hc3 (fun e' => absurd e' hne)
    (fun k row hk' => by
     obtain ⟨c1, c2⟩ := (hr1.append hold hnr) k row hk';refine ⟨by rw [c1, hmL], fun j av hj => ?_⟩;obtain ⟨u, q1, q2, q3⟩ := c2 j av hj;refine ⟨u, ?_, q2, q3⟩;rw [hmL, List.getElem?_toArray, List.getElem?_append_left (List.getElem?_eq_some_iff.1 q1).1];exact q1)
   refine ⟨g', by simpa [zcm] using a4, a5, a6, fun k hk' => by rw [a2] at hk'; exact hk', ?_⟩;simp only [zi];refine ⟨⟨by rw [a2]; exact .inr rfl, by trivial⟩, fun M hM => ?_⟩;rw [a1] at hM; cases hM;exact .inr ⟨⟨rfl, rfl⟩, by simp only; omega, by simp only [hmL]⟩
  ·-- to a row of its own
   have hxl : ((cur.toList.drop (off * te.size)).take (len * te.size)).length = len * te.size := by
    rw [List.length_take, List.length_drop, Array.length_toList];have := hin (off + len) hcap;rw [Nat.add_mul] at this; omega
   have holds : ∀ j v, ((cur.toList.drop (off * te.size)).take (len * te.size))[j]? = some v -> w.cell? ((⟨L.blk, off * te.size, none⟩ : Addr).add j) = some v := fun j v hj => by
    rw [Addr.add_lit, cell_of_row w L.blk _ cur e (0, 0) hc1];rw [List.getElem?_take] at hj;split at hj
    ·rw [List.getElem?_drop] at hj; simpa using hj
    ·cases hj
   have hrun := run_append_grow (P := P) w t ty e i z hu hi hz ⟨L.blk, off * te.size, none⟩ len (L.cap - off) _ (by rw [hsz]; exact hxl) holds ⟨b, o2, none⟩ r2.length c news (by rw [hsz]; exact hnl) hnews (by omega) (by simp only [maxLen] at h63; omega) (growslice_fits (by omega) (by rw [hby]; exact hb));rw [hvs'];refine ⟨_, _, hrun, (0, o.rows.drop off ++ r2), .inr rfl, ?_⟩;have hge := grownCap_ge w (len + r2.length) (L.cap - off) e;have hcm := grownCap_le_maxLen w (len + r2.length) (L.cap - off) e h63;generalize grownCap w (len + r2.length) (L.cap - off) e = N at *;have hdl : (o.rows.drop off).length = len := by rw [List.length_drop]; omega
   have hr1 : zel g w te.size (o.rows.drop off) ((cur.toList.drop (off * te.size)).take (len * te.size)) := by
    intro k row hk';have hkl : k < len := by have := (List.getElem?_eq_some_iff.1 hk').1; omega
    rw [List.getElem?_drop] at hk';obtain ⟨a1, a2⟩ := hc5 _ row hk';refine ⟨by rw [a1, hmL], fun j av hj => ?_⟩;obtain ⟨u, q1, q2, q3⟩ := a2 j av hj;refine ⟨u, ?_, q2, q3⟩;have hjm : j < te.size := by rw [<- hmL, <- a1]; exact (List.getElem?_eq_some_iff.1 hj).1
    have hlt : k * te.size + j < len * te.size := by
     have := Nat.mul_le_mul_right te.size (show k + 1 <= len from hkl);rw [Nat.succ_mul] at this;omega
    rw [List.getElem?_take, if_pos hlt, List.getElem?_drop];rw [hmL, Nat.add_mul] at q1;rw [<- Nat.add_assoc];simpa using q1
   obtain ⟨g1, b1, b2, b3, b4, b5, b6⟩ := h.drop id;have hall : zel g1 w te.size (o.rows.drop off ++ r2) ((cur.toList.drop (off * te.size)).take (len * te.size) ++ news) := by
    intro k row hk';obtain ⟨c1, c2⟩ := (hr1.append (by rw [hxl, hdl]) hnr) k row hk';refine ⟨c1, fun j av hj => ?_⟩;obtain ⟨u, q1, q2, q3⟩ := c2 j av hj;exact ⟨u, q1, q2, zi.later b6 av u q3⟩
   have hcellN : (w.drew.alloc (.cells (((cur.toList.drop (off * te.size)).take (len * te.size)).toArray ++ news.toArray ++ Builtin.zeroCells z.cells (N - (len + r2.length))) e)).heap[w.heap.size]? = some (.cells (((cur.toList.drop (off * te.size)).take (len * te.size)).toArray ++ news.toArray ++ Builtin.zeroCells z.cells (N - (len + r2.length))) e (0, 0)) := heap_alloc_new w.drew _;obtain ⟨g', a1, a2, a3, a4, a5, a6⟩ := zah.new (w' := w.drew.alloc (.cells (((cur.toList.drop (off * te.size)).take (len * te.size)).toArray ++ news.toArray ++ Builtin.zeroCells z.cells (N - (len + r2.length))) e)) (B := w.heap.size) (cap := N) b4 (id := nid) (by rw [b1]; exact hid)
    ⟨e, te.size, o.rows.drop off ++ r2⟩ (((cur.toList.drop (off * te.size)).take (len * te.size)).toArray ++ news.toArray ++ Builtin.zeroCells z.cells (N - (len + r2.length))) rfl ⟨rfl, .inr (Nat.le_succ _)⟩ rfl (Nat.le_refl _) (Array.getElem?_eq_some_iff.1 hcellN).1
    (fun k hk' => Go.heap_alloc_old w.drew _ hk') (.of hcellN) hpos
    (by simp only [Array.size_append, List.size_toArray, size_zeroCells, hzs, hxl, hnl, <- Nat.add_mul]; congr 1; omega)
    (by simp only [List.length_append, hdl]; omega) hcm
    (fun k row hk' => by
     obtain ⟨c1, c2⟩ := hall k row hk';refine ⟨c1, fun j av hj => ?_⟩;obtain ⟨u, q1, q2, q3⟩ := c2 j av hj;refine ⟨u, ?_, q2, q3⟩;have hlt := (List.getElem?_eq_some_iff.1 q1).1;have hlt2 : k * te.size + j < (((cur.toList.drop (off * te.size)).take (len * te.size)).toArray ++ news.toArray).size := by simpa using hlt
     rw [Array.getElem?_append_left hlt2, <- q1, <- Array.getElem?_toList];simp only [Array.toList_append])
   refine ⟨g', by simpa [zcm] using a4, b5.trans a5, ?_, fun k hk' => by rw [a2, b1] at hk'; exact hk', ?_⟩
   ·exact ⟨fun b hb => by
     have := a6.fut b (by rw [b2]; exact hb);exact this, fun k hk => a6.used k (by rw [b1]; exact hk), fun k hk => by
     have h1 := a6.loc k (by rw [b1]; exact hk);rw [b3] at h1;by_cases e' : k = id
     ·simp only [e', if_true] at h1 ⊢;right
      rcases h1 with h1 | h1 <;> exact h1
     ·simpa [e'] using h1⟩
   ·exact zrc (L := ⟨w.heap.size, te.size, N, false, false⟩) (by rw [a2]; exact .inr rfl) a1 ⟨rfl, rfl⟩ hge

theorem awp_region_app {P : Program} {ty : TypeId -> Option TI} (hc : Ctx P ty) (orc : List (Nat × Res)) {id : Nat} {l : List Oper} (pre post : List Oper) (o : Oper) (hl : l = pre ++ o :: post) (hg : o.guard = none) {cl : Call} (ho : o.op = .call cl) (hcal : cl.callee = .builtin .append) {t e : TypeId} {ti te : TI} {ox oy : Operand}
  (hat : cl.argTypes = #[t, t]) (hargs0 : cl.args = #[ox, oy]) {d : Tmp} (hdst : o.dst = some d) (hti : ty t = some ti) (hk : ti.kind = .slice e) (hte : ty e = some te) (hpos : 0 < te.size) (hbpos : 0 < te.bytes)
  (idq off len : Nat) (rows r2 : List (List AV)) {Q : Exit -> St -> Prop} {s : St}
  (h : ∀ K : St -> Prop, (∀ s', Q .normal s' -> K s') -> wpT ty P orc (l.map (·.dst)) s.nxt 0 pre { s with nxt := s.nxt + l.length } fun s1 =>
   s1.eval ox = .hs idq off len /\ s1.obj idq = some ⟨e, te.size, rows⟩ /\ rows.length = off + len /\ (∃ p2, zcx s1.obj te.size (s1.eval oy) = some (r2, p2) /\ p2) /\ 0 < r2.length /\ (len + r2.length) * te.bytes <= 140737488355328 /\ d < s1.n /\
   ∀ q, offOut off rows r2 q -> wpT ty P orc (l.map (·.dst)) s.nxt (pre.length + 1) post (s1.app (some d) { val := .hs (s.nxt + pre.length) q.1 (len + r2.length), wr := [(idq, none), (s.nxt + pre.length, some ⟨e, te.size, q.2⟩)] }) K) : AWp P (.region id l.toArray false) Q s := by
 intro g a w hr;refine wp_region ?_;have hgs : ∀ j : Nat, (l.map (·.dst))[j]? = (l.toArray[j]?).map fun o : Oper => o.dst := by intro j; simp
 have hlen : l.length = pre.length + 1 + post.length := by rw [hl]; simp; omega
 have hh := h _ fun _ hq => hq;have key : wpList P l.toArray (fun e a' w' => ∃ s' g', zcn s' g' a' w' /\ zam g w g' w' /\ Q e s') l a w := by
  have h2 := zfb (P := P) hc (orc := orc) (gs := l.map (·.dst)) (ops := l.toArray) hgs (base := s.nxt) (nxt := s.nxt + l.length)
   (Q := fun e a' w' => ∃ s' g', zcn s' g' a' w' /\ zam g w g' w' /\ Q e s') (g0 := g) (w0 := w) (l2 := o :: post) (en := pre.length) (n0 := s.n) (K := fun s1 =>
    s1.eval ox = .hs idq off len /\ s1.obj idq = some ⟨e, te.size, rows⟩ /\ rows.length = off + len /\ (∃ p2, zcx s1.obj te.size (s1.eval oy) = some (r2, p2) /\ p2) /\ 0 < r2.length /\ (len + r2.length) * te.bytes <= 140737488355328 /\ d < s1.n /\
    ∀ q, offOut off rows r2 q -> wpT ty P orc (l.map (·.dst)) s.nxt (pre.length + 1) post (s1.app (some d) { val := .hs (s.nxt + pre.length) q.1 (len + r2.length), wr := [(idq, none), (s.nxt + pre.length, some ⟨e, te.size, q.2⟩)] }) fun s' => Q .normal s') ?_ pre 0 { s with nxt := s.nxt + l.length } g a w (by simp) rfl rfl ⟨hr.defers, hr.size, hr.tmp, fun id hu => by have := hr.used id hu; simpa using this, hr.heap⟩ (zam.refl g w) hh
  ·rw [<- hl] at h2; exact h2
  ·intro s1 g1 a1 w1 hnx hn0 hrel hst hkk;simp only [wpList];have hw : Region.wanted o (yielded l.toArray a1.tmps) = true := by simp [Region.wanted, hg]
   rw [if_pos hw];left
   have hev : ∀ x : Operand, zi g1 w1 (s1.eval x) (a1.eval x) := fun x => zec hrel (fun _ => rfl) x;obtain ⟨k1, k2, k3, ⟨p2, k4, k5⟩, k6, k7, k8, k9⟩ := hkk;have r1 := hev ox;rw [k1] at r1;have r3 := hev oy;have hidn : ¬ g1.used (s.nxt + pre.length) := fun hu => by have := hrel.used _ hu; omega
   obtain ⟨v, w2, hrun, q, hO, hA⟩ := append_off_sound (ty := 0) (hc.ok t ti hti) hk (hc.ok e te hte) hpos hbpos hrel.heap hidn r1 r3 k2 rfl rfl k3 k4 k5 k6 k7;have hexec : (execOp a1.eval o).run P w1 = .ok (.value v) w2 := by
    have hb : ∀ ty' cs, builtin .append cl.argTypes ty' cs (cl.args.map a1.eval) = (do pure (.value (<- Builtin.append_ #[t, t] 0 #[a1.eval ox, a1.eval oy]))) := fun ty' cs => by
     have hca : cl.args.map a1.eval = #[a1.eval ox, a1.eval oy] := by rw [hargs0]; simp
     simp only [builtin, hat, hca];rfl
    simp only [execOp, ho, resolve, hcal, pure_bind, invoke, hb, Sem.run_bind, hrun, Result.andThen_ok, Sem.run_pure]
   refine zx hexec hA _ _ fun v' w' hA' => ?_;obtain ⟨g2, j1, j2, j3, j4, j5⟩ := hA';have hrest := k9 q hO;have hput := zcb (U' := fun x => x < s.nxt + (pre.length + 1)) (dst := o.dst) hrel j1 j3 (fun x hx => by
    rcases j4 x hx with hx | hx
    ·have := hrel.used x hx; omega
    ·omega) j5 (fun d' hd' => by rw [hdst] at hd'; cases hd'; exact k8)
   rw [hdst] at hput;rw [hdst];have hn : (s1.app (some d) { val := .hs (s.nxt + pre.length) q.1 (len + r2.length), wr := [(idq, none), (s.nxt + pre.length, some ⟨e, te.size, q.2⟩)] }).n = s1.n := rfl;have hnx' : (s1.app (some d) { val := .hs (s.nxt + pre.length) q.1 (len + r2.length), wr := [(idq, none), (s.nxt + pre.length, some ⟨e, te.size, q.2⟩)] }).nxt = s.nxt + l.length := by rw [<- hnx]; rfl
   refine zfo (P := P) hc (orc := orc) (gs := l.map (·.dst)) (ops := l.toArray) hgs (base := s.nxt) (nxt := s.nxt + l.length) (K := fun s' => Q .normal s') (g0 := g) (w0 := w)
    (fun s' g' a' w' h1 h2 h3 => ⟨s', g', h1, h2, h3⟩) post (pre.length + 1) _ g2 _ w' (by omega) hnx' ?_ (hst.trans j2) hrest
   rw [hn];exact ⟨hput.defers, hput.size, fun t => by rw [zku]; exact hput.tmp t, hput.used, by
    have : (s1.app (some d) { val := .hs (s.nxt + pre.length) q.1 (len + r2.length), wr := [(idq, none), (s.nxt + pre.length, some ⟨e, te.size, q.2⟩)] }).obj = zcm s1.obj [(idq, none), (s.nxt + pre.length, some ⟨e, te.size, q.2⟩)] := funext (zkt s1 (some d) _);rw [this]; exact hput.heap⟩
 have := wpOps_eq_wpList (P := P) (ops := l.toArray) (Q := fun e a' w' => ∃ s' g', zcn s' g' a' w' /\ zam g w g' w' /\ Q e s') l 0 (by intro j; simp);rw [show List.range l.toArray.size = List.range' 0 l.length by simp [List.range_eq_range'], this];exact key

theorem cut_sound {P : Program} {ty : TypeId -> Option TI} (hc : Ctx P ty) {t e : TypeId} {ti te : TI} (hti : ty t = some ti) (hk : ti.kind = .slice e) (hte : ty e = some te) (hpos : 0 < te.size) {g : G} {obj : Nat -> Option Ob} {w : World} (h : zah g obj w) {nid : Nat} (hid : ¬ g.used nid)
  {o : Oper} {a : Act} {ox ol : Operand} (ho : o.op = .slice t ox (some ol) none none) {id off len : Nat} {ob : Ob} {k : IntKind} (hx : zi g w (.hs id off len) (a.eval ox)) (hl : a.eval ol = .int k (len : Int)) (hob : obj id = some ob) (hm : ob.m = te.size) (hlen : 0 < len) :
  ∃ v, (execOp a.eval o).run P w = .ok (.value v) w /\ (zaf g obj w nid { val := .hs id (off + len) 0 } v w \/ zaf g obj w nid { val := .hs nid 0 0, wr := [(id, none), (nid, some ⟨e, te.size, []⟩)] } v w) := by
 have hu := zeh (hc.ok t ti hti) hk;obtain ⟨L, hL, hok⟩ := h.own id ob hob;have hmL : L.m = te.size := by rw [hok.m, hm]
 have hne : nid ≠ id := fun e' => hid (e' ▸ (h.live id L hL).1);simp only [zi] at hx;rcases hx.2 L hL with ⟨_, _, h0, _⟩ | ⟨hv, hle, hxv⟩
 ·omega
 have hrun : (execOp a.eval o).run P w = .ok (.value (.slice (if L.cap - off = len then some (⟨L.blk, off * L.m, none⟩ : Addr) else (some (⟨L.blk, off * L.m, none⟩ : Addr)).map (·.add (len * te.size))) (len - len) (L.cap - off - len))) w := by
  have hb := zqi (P := P) (w := w) (len := len) (cap := L.cap - off) (lo := some (.int k (len : Int))) (hi := none) (l := len) (h := len) (.inr ⟨k, rfl⟩) (.inl ⟨rfl, rfl⟩) (by omega) (Int.le_refl _) (Int.le_refl _) (by omega);simp only [Int.toNat_natCast] at hb;simp only [execOp, ho, hxv, hl, Sem.run_bind, Instr.sliceAt, run_underlying hu, Result.andThen_ok, Instr.slice, Option.map_some, Option.map_none, hb, (hc.ok e te hte).sizeOf, Sem.run_pure]
 rw [Nat.sub_self] at hrun;refine ⟨_, hrun, ?_⟩;by_cases hcap : L.cap - off = len
 ·right
  rw [if_pos hcap, hcap, Nat.sub_self];obtain ⟨g1, b1, b2, b3, b4, b5, b6⟩ := h.drop id;obtain ⟨g', a1, a2, a3, a4, a5, a6⟩ := b4.newVirt (id := nid) (by rw [b1]; exact hid) e te.size hpos;refine ⟨g', by simpa [zcm] using a4, b5.trans a5, ?_, fun x hx' => by rw [a2, b1] at hx'; exact hx', ?_⟩
  ·exact ⟨fun b hb => by
    have := a6.fut b (by rw [b2]; exact hb);exact this, fun x hx' => a6.used x (by rw [b1]; exact hx'), fun x hx' => by
    have h1 := a6.loc x (by rw [b1]; exact hx');rw [b3] at h1;by_cases e' : x = id
    ·simp only [e', if_true] at h1 ⊢;right
     rcases h1 with h1 | h1 <;> exact h1
    ·simpa [e'] using h1⟩
  ·simp only [zi];refine ⟨⟨by rw [a2]; exact .inr rfl, rfl⟩, fun M hM => ?_⟩;rw [a1] at hM; cases hM;exact .inl ⟨by trivial, by trivial, by trivial, _, rfl⟩
 ·left
  rw [if_neg hcap];refine zaf.same h ?_;simp only [zi];refine ⟨⟨hx.1.1, rfl⟩, fun M hM => ?_⟩;rw [hL] at hM; cases hM;refine .inr ⟨hv, by omega, ?_⟩;simp only [Option.map_some, zol, hmL, Nat.add_mul]
  congr 1
  omega

theorem awp_region_cut {P : Program} {ty : TypeId -> Option TI} (hc : Ctx P ty) (orc : List (Nat × Res)) {id : Nat} {l : List Oper} (pre post : List Oper) (o : Oper) (hl : l = pre ++ o :: post) (hg : o.guard = none) {t e : TypeId} {ti te : TI} {ox ol : Operand}
  (ho : o.op = .slice t ox (some ol) none none) {d : Tmp} (hdst : o.dst = some d) (hti : ty t = some ti) (hk : ti.kind = .slice e) (hte : ty e = some te) (hpos : 0 < te.size)
  (idq off len : Nat) {Q : Exit -> St -> Prop} {s : St}
  (h : ∀ K : St -> Prop, (∀ s', Q .normal s' -> K s') -> wpT ty P orc (l.map (·.dst)) s.nxt 0 pre { s with nxt := s.nxt + l.length } fun s1 =>
   s1.eval ox = .hs idq off len /\ (∃ k, s1.eval ol = .d (.int k (len : Int))) /\ (∃ ob, s1.obj idq = some ob /\ ob.m = te.size) /\ 0 < len /\ d < s1.n /\
   wpT ty P orc (l.map (·.dst)) s.nxt (pre.length + 1) post (s1.app (some d) { val := .hs idq (off + len) 0 }) K /\
   wpT ty P orc (l.map (·.dst)) s.nxt (pre.length + 1) post (s1.app (some d) { val := .hs (s.nxt + pre.length) 0 0, wr := [(idq, none), (s.nxt + pre.length, some ⟨e, te.size, []⟩)] }) K) : AWp P (.region id l.toArray false) Q s := by
 intro g a w hr;refine wp_region ?_;have hgs : ∀ j : Nat, (l.map (·.dst))[j]? = (l.toArray[j]?).map fun o : Oper => o.dst := by intro j; simp
 have hlen : l.length = pre.length + 1 + post.length := by rw [hl]; simp; omega
 have hh := h _ fun _ hq => hq;have key : wpList P l.toArray (fun e a' w' => ∃ s' g', zcn s' g' a' w' /\ zam g w g' w' /\ Q e s') l a w := by
  have h2 := zfb (P := P) hc (orc := orc) (gs := l.map (·.dst)) (ops := l.toArray) hgs (base := s.nxt) (nxt := s.nxt + l.length)
   (Q := fun e a' w' => ∃ s' g', zcn s' g' a' w' /\ zam g w g' w' /\ Q e s') (g0 := g) (w0 := w) (l2 := o :: post) (en := pre.length) (n0 := s.n) (K := fun s1 =>
    s1.eval ox = .hs idq off len /\ (∃ k, s1.eval ol = .d (.int k (len : Int))) /\ (∃ ob, s1.obj idq = some ob /\ ob.m = te.size) /\ 0 < len /\ d < s1.n /\
    wpT ty P orc (l.map (·.dst)) s.nxt (pre.length + 1) post (s1.app (some d) { val := .hs idq (off + len) 0 }) (fun s' => Q .normal s') /\
    wpT ty P orc (l.map (·.dst)) s.nxt (pre.length + 1) post (s1.app (some d) { val := .hs (s.nxt + pre.length) 0 0, wr := [(idq, none), (s.nxt + pre.length, some ⟨e, te.size, []⟩)] }) fun s' => Q .normal s') ?_ pre 0 { s with nxt := s.nxt + l.length } g a w (by simp) rfl rfl ⟨hr.defers, hr.size, hr.tmp, fun id hu => by have := hr.used id hu; simpa using this, hr.heap⟩ (zam.refl g w) hh
  ·rw [<- hl] at h2; exact h2
  ·intro s1 g1 a1 w1 hnx hn0 hrel hst hkk;simp only [wpList];have hw : Region.wanted o (yielded l.toArray a1.tmps) = true := by simp [Region.wanted, hg]
   rw [if_pos hw];left
   have hev : ∀ x : Operand, zi g1 w1 (s1.eval x) (a1.eval x) := fun x => zec hrel (fun _ => rfl) x;obtain ⟨k1, ⟨kk, k2⟩, ⟨ob, k3, k4⟩, k5, k6, k7, k8⟩ := hkk;have r1 := hev ox;rw [k1] at r1;have r2 := hev ol;rw [k2] at r2;simp only [zi, zv] at r2;have hidn : ¬ g1.used (s.nxt + pre.length) := fun hu => by have := hrel.used _ hu; omega
   obtain ⟨v, hrun, hA⟩ := cut_sound hc hti hk hte hpos hrel.heap hidn ho r1 r2 k3 k4 k5;have fin : ∀ (ef : Eff), zaf g1 s1.obj w1 (s.nxt + pre.length) ef v w1 -> wpT ty P orc (l.map (·.dst)) s.nxt (pre.length + 1) post (s1.app (some d) ef) (fun s' => Q .normal s') -> o.wp P a1 w1 (fun a' w' => wpList P l.toArray (fun e a' w' => ∃ s' g', zcn s' g' a' w' /\ zam g w g' w' /\ Q e s') post a' w') (fun e a' w' => ∃ s' g', zcn s' g' a' w' /\ zam g w g' w' /\ Q e s') := by
    intro ef hA hrest;refine zx hrun hA _ _ fun v' w' hA' => ?_;obtain ⟨g2, j1, j2, j3, j4, j5⟩ := hA';have hput := zcb (U' := fun x => x < s.nxt + (pre.length + 1)) (dst := o.dst) hrel j1 j3 (fun x hx => by
     rcases j4 x hx with hx | hx
     ·have := hrel.used x hx; omega
     ·omega) j5 (fun d' hd' => by rw [hdst] at hd'; cases hd'; exact k6)
    rw [hdst] at hput;rw [hdst];have hn : (s1.app (some d) ef).n = s1.n := rfl;have hnx' : (s1.app (some d) ef).nxt = s.nxt + l.length := by rw [<- hnx]; rfl
    refine zfo (P := P) hc (orc := orc) (gs := l.map (·.dst)) (ops := l.toArray) hgs (base := s.nxt) (nxt := s.nxt + l.length) (K := fun s' => Q .normal s') (g0 := g) (w0 := w)
     (fun s' g' a' w' h1 h2 h3 => ⟨s', g', h1, h2, h3⟩) post (pre.length + 1) _ g2 _ w' (by omega) hnx' ?_ (hst.trans j2) hrest
    rw [hn];exact ⟨hput.defers, hput.size, fun t => by rw [zku]; exact hput.tmp t, hput.used, by
     have : (s1.app (some d) ef).obj = zcm s1.obj ef.wr := funext (zkt s1 (some d) _);rw [this]; exact hput.heap⟩
   rcases hA with hA | hA
   ·exact fin _ hA k7
   ·exact fin _ hA k8
 have := wpOps_eq_wpList (P := P) (ops := l.toArray) (Q := fun e a' w' => ∃ s' g', zcn s' g' a' w' /\ zam g w g' w' /\ Q e s') l 0 (by intro j; simp);rw [show List.range l.toArray.size = List.range' 0 l.length by simp [List.range_eq_range'], this];exact key
end Go.Abs

namespace Go.Proofs.YtdddknniooimmaaGreat
open Go.Abs

def okB (x : Int) : Bool := decide (-4096 <= x) && decide (x < 4096)
def zjn (r : Run) : Bool := decide (-1048576 <= r.a) && decide (r.a <= 1048576) && decide (-1048576 <= r.b) && decide (r.b <= 1048576)
def rvAt (l : List Run) (i : Nat) : Bool := match l[i]?, l[i - 1]? with
 | some r, some p => decide (r.a < r.b) && zjn r && (i == 0 || decide (p.b < r.a))
 | _, _ => false
def zal (l : List Run) : Bool := (List.range l.length).all (rvAt l)
def fnAt (l : List Run) (i : Nat) : Bool := match l[i]?, l[i - 1]? with
 | some r, some p => decide (-4096 <= r.a) && decide (r.a < r.b) && decide (r.b <= 4096) && (i == 0 || decide (p.b < r.a))
 | _, _ => false
def zfm (l : List Run) : Bool := (List.range l.length).all (fnAt l) && decide (0 < l.length)
def zmc (l : List Row) (i : Nat) : Bool := match l[i]?, l[i - 1]? with
 | some r, some p => okB r.y && (i == 0 || decide (p.y < r.y)) && zfm r.runs
 | _, _ => false
def zo (l : List Row) : Bool := (List.range l.length).all (zmc l)

theorem zhd {l : List Run} {i : Nat} {r p : Run} (h : l[i]? = some r) (hp : l[i - 1]? = some p) : rvAt l i = (decide (r.a < r.b) && zjn r && (i == 0 || decide (p.b < r.a))) := by simp only [rvAt, h, hp]
theorem ziq {l : List Run} {i : Nat} {r p : Run} (h : l[i]? = some r) (hp : l[i - 1]? = some p) : fnAt l i = (decide (-4096 <= r.a) && decide (r.a < r.b) && decide (r.b <= 4096) && (i == 0 || decide (p.b < r.a))) := by simp only [fnAt, h, hp]
theorem zfv {l : List Row} {i : Nat} {r p : Row} (h : l[i]? = some r) (hp : l[i - 1]? = some p) : zmc l i = (okB r.y && (i == 0 || decide (p.y < r.y)) && zfm r.runs) := by simp only [zmc, h, hp]

theorem zln {r : Run} (h : zjn r = true) : -1048576 <= r.a /\ r.a <= 1048576 /\ -1048576 <= r.b /\ r.b <= 1048576 := by
 simp [zjn] at h; omega

theorem zle {l : List Run} (h : zal l = true) : ∀ (j i : Nat) (r p : Run), i <= j -> l[i]? = some p -> l[j]? = some r -> p.a <= r.a /\ p.b <= r.b
 | 0, i, r, p, hij, hp, hr => by
  have : i = 0 := by omega
  subst this;rw [hp] at hr; cases hr; exact ⟨Int.le_refl _, Int.le_refl _⟩
 | j + 1, i, r, p, hij, hp, hr => by
  by_cases e : i = j + 1
  ·subst e; rw [hp] at hr; cases hr; exact ⟨Int.le_refl _, Int.le_refl _⟩
  ·have hj := (List.getElem?_eq_some_iff.1 hr).1;obtain ⟨q, hq⟩ : ∃ q, l[j]? = some q := zap (by omega);have ih := zle h j i q p (by omega) hp hq;have h1 := zcc h hj;have h2 := zcc h (show j < l.length by omega);obtain ⟨q', hq'⟩ : ∃ q, l[j - 1]? = some q := zap (by omega);rw [zhd hr (by simpa using hq)] at h1;rw [zhd hq hq'] at h2;simp at h1 h2;omega
theorem zem {l : List Run} (h : zal l = true) {i : Nat} {r : Run} (hr : l[i]? = some r) : r.a < r.b /\ zjn r = true := by
 have hi := (List.getElem?_eq_some_iff.1 hr).1;obtain ⟨p, hp⟩ : ∃ q, l[i - 1]? = some q := zap (by omega);have h1 := zcc h hi;rw [zhd hr hp] at h1;simp at h1;exact ⟨h1.1.1, h1.1.2⟩

theorem zfc {l : List Run} (h : zfm l = true) : zal l = true := by
 simp only [zfm, Bool.and_eq_true] at h;apply List.all_eq_true.2
 intro i hi;have hi : i < l.length := by simpa using hi
 obtain ⟨r, hr⟩ := zap hi;obtain ⟨p, hp⟩ : ∃ q, l[i - 1]? = some q := zap (by omega);have h1 := zcc h.1 hi;rw [ziq hr hp] at h1;rw [zhd hr hp];simp [zjn] at h1 ⊢;refine ⟨⟨by omega, by omega⟩, h1.2⟩

theorem fine_iff {l : List Run} {f z : Run} (hf : l[0]? = some f) (hz : l[l.length - 1]? = some z) : zfm l = (zal l && okB f.a && okB (z.b - 1)) := by
 have hl := (List.getElem?_eq_some_iff.1 hf).1;apply Bool.eq_iff_iff.2
 constructor
 ·intro h;have h0 := zfc h;simp only [zfm, Bool.and_eq_true] at h;have h1 := zcc h.1 hl;have h2 := zcc h.1 (show l.length - 1 < l.length by omega);obtain ⟨p, hp⟩ : ∃ q, l[l.length - 1 - 1]? = some q := zap (by omega);rw [ziq hf (by simpa using hf)] at h1;rw [ziq hz hp] at h2;simp [okB] at h1 h2 ⊢;exact ⟨⟨h0, by omega⟩, by omega⟩
 ·intro h;simp only [Bool.and_eq_true] at h;obtain ⟨⟨h0, h1⟩, h2⟩ := h;simp [okB] at h1 h2;simp only [zfm, Bool.and_eq_true];refine ⟨List.all_eq_true.2 fun i hi => ?_, by simpa using hl⟩;have hi : i < l.length := by simpa using hi
  obtain ⟨r, hr⟩ := zap hi;obtain ⟨p, hp⟩ : ∃ q, l[i - 1]? = some q := zap (by omega);have a1 := zle h0 i 0 r f (Nat.zero_le _) hf hr;have a2 := zle h0 (l.length - 1) i z r (by omega) hr hz;have a3 := zem h0 hr;have a4 := zcc h0 hi;rw [zhd hr hp] at a4;rw [ziq hr hp];simp at a4 ⊢;exact ⟨⟨⟨by omega, a3.1⟩, by omega⟩, a4.2⟩

theorem ok_ok (x : Int) : PC Tryz.prog 106 [.int .i64 x] (.p (.bool (okB x))) := by
 refine pw cx Tryz.func106 Tryz.ntmps106 ?_;refine rg cx ?_;refine rg cx ?_;simp [push_cast, okB]

theorem fits_ok (r : Run) : PC Tryz.prog 167 [.agg r.row] (.p (.bool (zjn r))) := by
 refine pw cx Tryz.func167 Tryz.ntmps167 ?_;refine rg cx ?_;refine rg cx ?_;simp [push_cast, zjn, Bool.and_assoc]

theorem rvalid_big (l : List Run) (hl : l.length <= 9223372036854775807) : PC Tryz.prog 118 [zm l] (.p (.bool (zal l))) := by
 refine pw cx Tryz.func118 Tryz.ntmps118 ?_;refine rg cx ?_;refine rg cx ?_;refine zu (β := Nat) (fun k => ⟨38, [(0, .d (zm l)), (5, .d (zm l)), (6, .d (.int .i64 l.length)), (7, .d (.int .i64 k))], [], 1⟩) (fun k => k <= l.length /\ (List.range k).all (rvAt l) = true) (fun k => l.length - k) 0 ?_ ⟨Nat.zero_le _, rfl⟩ ?_
 ·refine wk []
 ·intro k ⟨hk, hall⟩;refine Nav.imp ?_;refine rg cx ?_;refine awp_cd (decide ((k : Int) < l.length)) (fun hb => ?_) fun hb => ?_
  ·have hlt : k < l.length := by simpa using hb
   obtain ⟨r, hr⟩ := zap hlt;obtain ⟨p, hp⟩ : ∃ p, l[k - 1]? = some p := zap (by omega);have e0 := wI ((k : Int) + 1);have hat := zhd hr hp;have c1 := fits_ok r;obtain ⟨ra, rb⟩ := r;refine rx cx [] (fun K hK => by simp [push_cast, hr, Run.row]; (repeat refine ob ?_); exact hK) ?_;by_cases h1 : ra < rb
   ·have h1' : ¬ (rb <= ra) := by omega
    generalize hv : zjn ⟨ra, rb⟩ = v at c1;rw [hv] at hat;cases v with
    | true =>
     by_cases hk0 : k = 0
     ·subst hk0;refine rd cx mixed [(7, .p (.bool true))] (fun K hK => by simp [push_cast, h1', c1, hr, Run.row]; (repeat refine ob ?_); exact hK) ?_;refine awp_cd false (fun hb => ?_) fun hb => ?_
      ·simp at hb
      ·refine rx cx [] (fun K hK => by simp [push_cast, e0]; (repeat refine ob ?_); exact hK) ?_;refine ⟨1, ⟨hlt, by rw [zds, hall, hat]; simp [h1]⟩, by omega, ?_⟩;refine wk []
     ·have e1 := wI ((k : Int) - 1);have e2 : ((k : Int) - 1).toNat = k - 1 := by omega
      have hk1 : (0 : Int) < k := by omega
      have hk2 : (0 : Int) <= k - 1 := by omega
      have hk3 : 0 < k := by omega
      obtain ⟨pa, pb⟩ := p;refine rd cx mixed [(7, .p (.bool true))] (fun K hK => by simp [push_cast, h1', c1, hk1, hk3, hk2, e1, e2, hp, Run.row]; (repeat refine ob ?_); exact hK) ?_;refine awp_cn (decide (ra <= pb)) (by simp [push_cast, hk3]) (fun hb => ?_) fun hb => ?_
      ·have h3 : ¬ pb < ra := by simpa using hb
       refine rg cx ?_;simp [push_cast];refine zax hlt ?_;rw [hat]; simp [h1, hk0, h3]
      ·have h3 : pb < ra := by simpa using hb
       refine rx cx [] (fun K hK => by simp [push_cast, e0]; (repeat refine ob ?_); exact hK) ?_;refine ⟨k + 1, ⟨hlt, by rw [zds, hall, hat]; simp [h1, h3]⟩, by omega, ?_⟩;refine wk []
    | false =>
     by_cases hk0 : k = 0
     ·subst hk0;refine rd cx mixed [(7, .p (.bool false))] (fun K hK => by simp [push_cast, h1', c1, hr, Run.row]; (repeat refine ob ?_); exact hK) ?_;refine awp_cd true (fun hb => ?_) fun hb => ?_
      ·refine rg cx ?_;simp [push_cast];refine zax hlt ?_;rw [hat]; simp
      ·simp at hb
     ·have e1 := wI ((k : Int) - 1);have e2 : ((k : Int) - 1).toNat = k - 1 := by omega
      obtain ⟨pa, pb⟩ := p;refine rd cx mixed [(7, .p (.bool false))] (fun K hK => by simp [push_cast, h1', c1, e1, e2, hp, Run.row]; (repeat refine ob ?_); exact hK) ?_;refine awp_cd true (fun hb => ?_) fun hb => ?_
      ·refine rg cx ?_;simp [push_cast];refine zax hlt ?_;rw [hat]; simp
      ·simp at hb
   ·have h1' : rb <= ra := by omega
    have e1 := wI ((k : Int) - 1);by_cases hk0 : k = 0
    ·subst hk0;refine rd cx mixed [(7, .skip)] (fun K hK => by simp [push_cast, h1', hr, Run.row]; (repeat refine ob ?_); exact hK) ?_;refine awp_cd true (fun hb => ?_) fun hb => ?_
     ·refine rg cx ?_;simp [push_cast];refine zax hlt ?_;rw [hat]; simp [h1]
     ·simp at hb
    ·have e2 : ((k : Int) - 1).toNat = k - 1 := by omega
     obtain ⟨pa, pb⟩ := p;refine rd cx mixed [(7, .skip)] (fun K hK => by simp [push_cast, h1', e1, e2, hp, Run.row]; (repeat refine ob ?_); exact hK) ?_;refine awp_cd true (fun hb => ?_) fun hb => ?_
     ·refine rg cx ?_;simp [push_cast];refine zax hlt ?_;rw [hat]; simp [h1]
     ·simp at hb
  ·have hge : k = l.length := by simp at hb; omega
   subst hge;refine rg cx ?_;simp [push_cast];exact hall
theorem zne (l : List Run) (hl : l.length <= 1000000) : PC Tryz.prog 118 [zm l] (.p (.bool (zal l))) := rvalid_big l (by omega)


def zfz (M : zcu) : List (List D) := zmo (fun c => D.agg (zf.row c)) (fun v => D.int .i64 v) M
theorem eqK_cell (a b : zf) : eqK (.agg (zf.row a)) (.agg (zf.row b)) = some (decide (a = b)) := by
 obtain ⟨ax, ay⟩ := a;obtain ⟨bx, bz⟩ := b;simp only [eqK, zf.row, eqD, if_true, true_and, Option.map_some, and_self];by_cases h1 : ax = bx
 ·by_cases h2 : ay = bz
  ·simp [h1, h2]
  ·simp [h1, h2]
 ·simp [h1]
theorem putR_lm (c : zf) (v : Int) (M : zcu) : zlw (.agg [.int .i64 c.x, .int .i64 c.y]) (.d (.int .i64 v)) (dr (zfz M)) = some (dr (zfz (zcz M c v))) :=
 putR_row (kd := fun c => D.agg (zf.row c)) (vd := fun v => D.int .i64 v) eqK_cell c v M
theorem look_lm2 (c : zf) (M : zcu) : zgx (.d (.int .i64 0)) true (zhg (.agg [.int .i64 c.x, .int .i64 c.y]) (dr (zfz M))) (.tup [.int .i64 ((zan M c).getD 0), .bool (zan M c).isSome]) = True := by
 rw [show dr (zfz M) = dr (zmo (fun c => D.agg (zf.row c)) (fun v => D.int .i64 v) M) from rfl, show D.agg [.int .i64 c.x, .int .i64 c.y] = (fun c => D.agg (zf.row c)) c from rfl, zsx (kd := fun c => D.agg (zf.row c)) (vd := fun v => D.int .i64 v) eqK_cell c M];cases zan M c <;> simp [zgx, outD]
theorem look_lm1 (c : zf) (M : zcu) : zgx (.d (.int .i64 0)) false (zhg (.agg [.int .i64 c.x, .int .i64 c.y]) (dr (zfz M))) (.int .i64 ((zan M c).getD 0)) = True := by
 rw [show dr (zfz M) = dr (zmo (fun c => D.agg (zf.row c)) (fun v => D.int .i64 v) M) from rfl, show D.agg [.int .i64 c.x, .int .i64 c.y] = (fun c => D.agg (zf.row c)) c from rfl, zsx (kd := fun c => D.agg (zf.row c)) (vd := fun v => D.int .i64 v) eqK_cell c M];cases zan M c <;> simp [zgx, outD]
theorem lm_nil : ([] : List (List AV)) = dr (zfz []) := rfl

def smC (x : zf) : Prop := -100000 <= x.x /\ x.x <= 100000 /\ -100000 <= x.y /\ x.y <= 100000
def okS (s : zcu × List zf) : Prop := (∀ x v, zan s.1 x = some v -> smC x) /\ ∀ x ∈ s.2, smC x
theorem okS_step {lab : Int} {c d : zf} {s : zcu × List zf} (h : okS s) : okS (zcd lab c s d) := by
 unfold zcd;split
 ·rename_i hz;have hd := h.1 _ _ hz;refine ⟨fun x v hx => ?_, fun x hx => ?_⟩
  ·rw [zdc] at hx;split at hx
   ·rename_i e; rw [e]; exact hd
   ·exact h.1 x v hx
  ·rcases List.mem_append.1 hx with hx | hx
   ·exact h.2 x hx
   ·simp at hx; rw [hx]; exact hd
 ·exact h
theorem okS_fold {lab : Int} {c : zf} : ∀ (m : List zf) (s : zcu × List zf), okS s -> okS (m.foldl (zcd lab c) s)
 | [], s, h => h
 | d :: m, s, h => okS_fold m _ (okS_step h)
theorem zc_le (M : zcu) : zc M <= M.length := List.length_filter_le _ _

set_option maxHeartbeats 16000000 in
theorem spread_px (M0 : zcu) (first : zf) (lab : Int) (moves : List zf) (hlab : lab ≠ 0) (hml : moves.length <= 100) (hmv : ∀ d ∈ moves, -1 <= d.x /\ d.x <= 1 /\ -1 <= d.y /\ d.y <= 1) (hM0 : ∀ x v, zan M0 x = some v -> smC x) (hlen : M0.length <= 100000000) (hf : zan M0 first = some 0) :
  PX Tryz.prog 112 [.hm 0, .d (.agg first.row), .d (.int .i64 lab), .d (zaj moves)] [(0, ⟨151, mapM, dr (zfz M0)⟩)] [(0, 0)] [(0, ⟨151, mapM, dr (zfz (zlc M0 first lab moves))⟩)] (.tup []) := by
 have hW : zlc M0 first lab moves = zld lab moves (zcz M0 first lab, [first]) := rfl
 have hmu0 : zct (zcz M0 first lab, [first]) <= 2 * M0.length + 1 := by
  have h1 := zc_put hf hlab;have h2 := zc_le M0;simp only [zct, List.length_cons, List.length_nil]; omega
 have hok0 : okS (zcz M0 first lab, [first]) := by
  have hfs := hM0 _ _ hf;refine ⟨fun x v hx => ?_, fun x hx => by simp at hx; rw [hx]; exact hfs⟩;rw [zdc] at hx;split at hx
  ·rename_i e; rw [e]; exact hfs
  ·exact hM0 x v hx
 have hput := fun c v M => putR_lm c v M;have hlook := fun c M => look_lm2 c M;have p0 := hput first lab M0
 rw [hW];clear hW;generalize zcz M0 first lab = M1 at *
 generalize hWW : zld lab moves (M1, [first]) = W;obtain ⟨fx, fy⟩ := first
 simp only at p0;refine zeo cx (fn := Tryz.f112) (c := _) 1 Tryz.func112 rfl rfl (lB rfl) rfl rfl fun Ls => ?_;rw [Tryz.ntmps112]; refine Nav.imp ?_;refine rg cx ?_;refine rx cx [] (fun K hK => by simp [push_cast, p0, zf.row]; (repeat refine ob ?_); exact hK) ?_;refine rx cx [] (fun K hK => by simp [push_cast, zf.row]; (repeat refine ob ?_); exact hK) ?_;refine zu (β := zcu × List zf × List zf) (fun s => ⟨64, [(0, .hm 0), (2, .d (.int .i64 lab)), (3, .d (zaj moves)), (8, .hs 1 s.2.1.length s.2.2.length), (64, .pin 0 (Ls 0))], [(0, some ⟨151, mapM, dr (zfz s.1)⟩), (1, some ⟨67, 2, dr ((s.2.1 ++ s.2.2).map zf.row)⟩)], 2⟩) (fun s => zld lab moves (s.1, s.2.2) = W /\ okS (s.1, s.2.2) /\ zct (s.1, s.2.2) <= 2 * M0.length + 1) (fun s => zct (s.1, s.2.2)) (M1, [], [⟨fx, fy⟩]) ?_ ⟨hWW, hok0, hmu0⟩ ?_
 ·refine wq [(0, some 0), (1, some 7)] (by simp [upT, upH, upR, upL, up, push_cast, zf.row])
 ·rintro ⟨M, P, q⟩ ⟨hE, hok, hmu⟩;simp only at hE hok hmu;refine Nav.imp ?_;cases q with
  | nil =>
   rw [zkw] at hE;subst hE;refine rg cx ?_;refine awp_cd false (fun hb => ?_) fun hb => ?_
   ·simp at hb
   ·first | refine rx_r [(0, 0)] ?_ | refine rx_n [(0, 0)] ?_
    simp [push_cast];try decide
  | cons c q =>
   have hcs := hok.2 c (by simp);rw [zor hlab] at hE;have hmu2 : zct (M, c :: q) = zct (M, q) + 1 := by simp only [zct, List.length_cons]; omega
   have hPp : (dr ((P ++ c :: q).map zf.row))[P.length]? = some [.d (.int .i64 c.x), .d (.int .i64 c.y)] := by simp [dr]
   have hEr : zld lab moves (moves.foldl (zcd lab c) (M, q)) = W := hE;have hmu3 : zct (M, q) <= 2 * M0.length := by omega
   have hdr : dr ((P ++ c :: q).map zf.row) = dr (((P ++ [c]) ++ q).map zf.row) := by simp
   have hokq : okS (M, q) := ⟨hok.1, fun x hx => hok.2 x (by simp [hx])⟩
   have hinv : ∀ k, okS ((moves.take k).foldl (zcd lab c) (M, q)) /\ zct ((moves.take k).foldl (zcd lab c) (M, q)) <= zct (M, q) := fun k => ⟨okS_fold _ _ hokq, zid hlab c _ _⟩
   have hnext : ∀ k d, moves[k]? = some d -> (moves.take (k + 1)).foldl (zcd lab c) (M, q) = zcd lab c ((moves.take k).foldl (zcd lab c) (M, q)) d := fun k d hd => by
    rw [zat hd, List.foldl_append]; rfl
   refine rg cx ?_;refine awp_cd true (fun hb => ?_) fun hb => ?_
   ·refine rx cx [] (fun K hK => by simp [push_cast, hPp, zf.row]; (repeat refine ob ?_); exact hK) ?_;apply cut_
    ·intro key;by_cases hq0 : q = []
     ·refine awp_region_cut cx [] [_] [_] _ rfl rfl rfl rfl rfl rfl rfl (by decide) 1 P.length 1 fun K hK => ?_;simp [push_cast, hq0];refine ⟨hK _ ?_, hK _ ?_⟩
      ·clear hK K;refine Nav.imp ?_;refine rg cx ?_;refine zu (β := Nat × zcu × List zf × List zf) (fun s => ⟨64, [(0, .hm 0), (2, .d (.int .i64 lab)), (3, .d (zaj moves)), (8, .hs 1 s.2.2.1.length s.2.2.2.length), (9, .ptr 2 0 0), (28, .d (zaj moves)), (29, .d (.int .i64 moves.length)), (30, .d (.int .i64 s.1)), (64, .pin 0 (Ls 0))], [(0, some ⟨151, mapM, dr (zfz s.2.1)⟩), (1, some ⟨67, 2, dr ((s.2.2.1 ++ s.2.2.2).map zf.row)⟩), (2, some ⟨67, 2, [(zf.row c).map .d]⟩)], 3⟩) (fun s => s.1 <= moves.length /\ (s.2.1, s.2.2.2) = (moves.take s.1).foldl (zcd lab c) (M, q)) (fun s => moves.length - s.1) (0, M, P ++ [c], q) ?_ ⟨Nat.zero_le _, rfl⟩ key.h;refine wq [(0, some 0), (1, some 1), (2, some 8)] (by simp [upT, upH, upR, upL, up, push_cast, hdr, zf.row, hq0])
      ·clear hK K;refine Nav.imp ?_;refine rg cx ?_;refine zu (β := Nat × zcu × List zf × List zf) (fun s => ⟨64, [(0, .hm 0), (2, .d (.int .i64 lab)), (3, .d (zaj moves)), (8, .hs 1 s.2.2.1.length s.2.2.2.length), (9, .ptr 2 0 0), (28, .d (zaj moves)), (29, .d (.int .i64 moves.length)), (30, .d (.int .i64 s.1)), (64, .pin 0 (Ls 0))], [(0, some ⟨151, mapM, dr (zfz s.2.1)⟩), (1, some ⟨67, 2, dr ((s.2.2.1 ++ s.2.2.2).map zf.row)⟩), (2, some ⟨67, 2, [(zf.row c).map .d]⟩)], 3⟩) (fun s => s.1 <= moves.length /\ (s.2.1, s.2.2.2) = (moves.take s.1).foldl (zcd lab c) (M, q)) (fun s => moves.length - s.1) (0, M, [], q) ?_ ⟨Nat.zero_le _, rfl⟩ key.h;refine wq [(0, some 0), (1, some 11), (2, some 8)] (by simp [upT, upH, upR, upL, up, push_cast, hdr, zf.row, hq0])
     ·have hq1 : 0 < q.length := List.length_pos_iff.2 hq0;have hq2 : (1 : Int) < (q.length : Int) + 1 := by omega
      have hq3 : (0 : Int) <= (q.length : Int) := by omega
      refine rx cx [] (fun K hK => by simp [push_cast, hq1, hq2, hq3]; (repeat refine ob ?_); exact hK) ?_;refine rg cx ?_;refine zu (β := Nat × zcu × List zf × List zf) (fun s => ⟨64, [(0, .hm 0), (2, .d (.int .i64 lab)), (3, .d (zaj moves)), (8, .hs 1 s.2.2.1.length s.2.2.2.length), (9, .ptr 2 0 0), (28, .d (zaj moves)), (29, .d (.int .i64 moves.length)), (30, .d (.int .i64 s.1)), (64, .pin 0 (Ls 0))], [(0, some ⟨151, mapM, dr (zfz s.2.1)⟩), (1, some ⟨67, 2, dr ((s.2.2.1 ++ s.2.2.2).map zf.row)⟩), (2, some ⟨67, 2, [(zf.row c).map .d]⟩)], 3⟩) (fun s => s.1 <= moves.length /\ (s.2.1, s.2.2.2) = (moves.take s.1).foldl (zcd lab c) (M, q)) (fun s => moves.length - s.1) (0, M, P ++ [c], q) ?_ ⟨Nat.zero_le _, rfl⟩ key.h;refine wq [(0, some 0), (1, some 1), (2, some 8)] (by simp [upT, upH, upR, upL, up, push_cast, hdr, zf.row, hq1, hq2, hq3])
    ·rintro ⟨k, M', P', q'⟩ ⟨hk, hst⟩;simp only at hk hst;have hv1 := hinv k;rw [<- hst] at hv1;obtain ⟨hok', hmu'⟩ := hv1;refine Nav.imp ?_;refine rg cx ?_;refine awp_cd (decide ((k : Int) < moves.length)) (fun hb => ?_) fun hb => ?_
     ·have hlt : k < moves.length := by simpa using hb
      obtain ⟨d, hd⟩ := zap hlt;have hds := hmv d (List.mem_of_getElem? hd);have e0 := wI ((k : Int) + 1);have hnx := hnext k d hd;rw [<- hst] at hnx;have hstp : zcd lab c (M', q') d = if zan M' ⟨c.x + d.x, c.y + d.y⟩ = some 0 then (zcz M' ⟨c.x + d.x, c.y + d.y⟩ lab, q' ++ [⟨c.x + d.x, c.y + d.y⟩]) else (M', q') := rfl
      have hlk := hlook ⟨c.x + d.x, c.y + d.y⟩ M';have hpt := hput ⟨c.x + d.x, c.y + d.y⟩ lab M';unfold smC at hcs;obtain ⟨cx', cy'⟩ := c;obtain ⟨dx, dy⟩ := d;simp only at hcs hds hlk hpt hstp;have w1 := wI (cx' + dx);have w2 := wI (cy' + dy);generalize hx : (⟨cx' + dx, cy' + dy⟩ : zf) = x at *;have hxx : cx' + dx = x.x := by rw [<- hx]
      have hxy : cy' + dy = x.y := by rw [<- hx]
      refine rx cx [] (fun K hK => by simp [push_cast, hd, zf.row]; (repeat refine ob ?_); exact hK) ?_;refine rx cx [] (fun K hK => by simp [push_cast, w1, w2, zf.row]; (repeat refine ob ?_); exact hK) ?_;have hql : q'.length <= 200000001 := by simp only [zct] at hmu' hmu3; omega
      cases hg : zan M' x with
      | none =>
       rw [hg] at hlk;rw [hg, if_neg (by simp)] at hstp;simp only [Option.getD_none, Option.isSome_none] at hlk;refine rx cx [(2, .p (.tup [.int .i64 0, .bool false]))] (fun K hK => by simp [push_cast, hlk]; (repeat refine ob ?_); exact hK) ?_;refine rg cx ?_;refine awp_cd false (fun hb => ?_) fun hb => ?_
       ·simp at hb
       ·refine rx cx [] (fun K hK => by simp [push_cast, e0]; (repeat refine ob ?_); exact hK) ?_;refine ⟨(k + 1, M', P', q'), ⟨hlt, by rw [hnx, hstp]⟩, by simp only; omega, ?_⟩;refine wq [(0, some 0), (1, some 1), (2, some 2)] (by simp [upT, upH, upR, upL, up, push_cast, zf.row])
      | some v =>
       rw [hg] at hlk;simp only [Option.getD_some, Option.isSome_some] at hlk;by_cases hv : v = 0
       ·subst hv;rw [hg, if_pos rfl] at hstp;refine rx cx [(2, .p (.tup [.int .i64 0, .bool true]))] (fun K hK => by simp [push_cast, hlk]; (repeat refine ob ?_); exact hK) ?_;refine rg cx ?_;refine awp_cd true (fun hb => ?_) fun hb => ?_
        ·refine rx cx [] (fun K hK => by simp [push_cast, hpt]; (repeat refine ob ?_); exact hK) ?_;refine awp_region_app cx [] [_, _, _] [_] _ rfl rfl rfl rfl rfl rfl rfl rfl rfl rfl (by decide) (by decide) 1 P'.length q'.length (dr ((P' ++ q').map zf.row)) [[.d (.int .i64 (cx' + dx)), .d (.int .i64 (cy' + dy))]] fun K hK => ?_;simp [push_cast, offOut];refine ⟨⟨True, trivial⟩, by omega, hK _ ?_, hK _ ?_⟩
         ·clear hK K;refine Nav.imp ?_;refine rx cx [] (fun K hK => by simp [push_cast, e0]; (repeat refine ob ?_); exact hK) ?_;refine ⟨(k + 1, zcz M' x lab, P', q' ++ [x]), ⟨hlt, by rw [hnx, hstp]⟩, by simp only; omega, ?_⟩;refine wq [(0, some 0), (1, some 41), (2, some 2)] (by simp [upT, upH, upR, upL, up, push_cast, zf.row, hxx, hxy])
         ·clear hK K;refine Nav.imp ?_;refine rx cx [] (fun K hK => by simp [push_cast, e0]; (repeat refine ob ?_); exact hK) ?_;refine ⟨(k + 1, zcz M' x lab, [], q' ++ [x]), ⟨hlt, by rw [hnx, hstp]⟩, by simp only; omega, ?_⟩;refine wq [(0, some 0), (1, some 41), (2, some 2)] (by simp [upT, upH, upR, upL, up, push_cast, zf.row, hxx, hxy])
        ·simp at hb
       ·have hv2 : ¬ (0 : Int) = v := fun e => hv e.symm;rw [hg, if_neg (fun e => hv (Option.some.inj e))] at hstp;refine rx cx [(2, .p (.tup [.int .i64 v, .bool true]))] (fun K hK => by simp [push_cast, hlk]; (repeat refine ob ?_); exact hK) ?_;refine rx cx [] (fun K hK => by simp [push_cast, hv]; (repeat refine ob ?_); exact hK) ?_;refine awp_cn false (by simp [push_cast, hv]) (fun hb => ?_) fun hb => ?_
        ·simp at hb
        ·refine rx cx [] (fun K hK => by simp [push_cast, e0]; (repeat refine ob ?_); exact hK) ?_;refine ⟨(k + 1, M', P', q'), ⟨hlt, by rw [hnx, hstp]⟩, by simp only; omega, ?_⟩;refine wq [(0, some 0), (1, some 1), (2, some 2)] (by simp [upT, upH, upR, upL, up, push_cast, zf.row])
     ·have hke : k = moves.length := by simp at hb; omega
      subst hke;rw [List.take_length] at hst;rw [<- hst] at hEr;refine ⟨(M', P', q'), ⟨hEr, hok', by show zct (M', q') <= 2 * M0.length + 1; omega⟩, by show zct (M', q') < zct (M, c :: q); omega, ?_⟩;refine wk [(0, some 0), (1, some 1)]
   ·simp at hb
end Go.Proofs.YtdddknniooimmaaGreat
