/-
  Texts of this seat put together: L0, L3, S10, S11, S12, S13, S15, S14.
-/
import Derived.Test.YtgicofpllopjmaaDoorJ4
import Derived.Test.YtgicofpllopjmaaDoorJ3
import Derived.Test.YtgicofpllopjmaaDoorJ8
import Derived.Test.YtgicofpllopjmaaDoorChecked
import Derived.Test.YtgicofpllopjmaaDoorTie
import Derived.Test.YtgicofpllopjmaaDoorCards
import Derived.ProofKit
import Derived.OpenShut
import Derived.LaidMore
import Derived.Lay
import Derived.SevenTiedAt
import Derived.Stop.Joined
set_option linter.unusedVariables false
set_option linter.unusedSimpArgs false
set_option maxRecDepth 100000
namespace Go.Proofs.YtgicofpllopjmaaDoor
open Go.Abs

theorem run_of {f : Nat} {ds : List D} (h : hasT Tryd.prog (f + 2) 37 ds) : ∃ c : Run, ds = c.row := by
  obtain ⟨hl, hp⟩ := hasT_struct (n := 2) (ts := [3, 3]) Tryd.underlying37 (by kernel_rfl) rfl (by kernel_rfl) h
  obtain ⟨d0, r0, e0, h0, hp0⟩ := parts_one (by kernel_rfl) hp (by simp_all <;> omega)
  subst e0
  obtain ⟨d1, r1, e1, h1, hp1⟩ := parts_one (by kernel_rfl) hp0 (by simp_all <;> omega)
  subst e1
  simp only [parts] at hp1
  subst hp1
  obtain ⟨n0, e0, w0⟩ := hasT_int Tryd.underlying3 h0
  cases e0
  obtain ⟨n1, e1, w1⟩ := hasT_int Tryd.underlying3 h1
  cases e1
  exact ⟨⟨n0, n1⟩, rfl⟩
theorem runs_of {f : Nat} {d : D} (h : hasT Tryd.prog (f + 3) 38 [d]) : ∃ l : List Run, d = encRuns l := by
  obtain ⟨rows, he, _, hr⟩ := hasT_slice Tryd.underlying38 h
  cases he
  obtain ⟨l, rfl⟩ := rows_of (row := Run.row) fun r hr' => run_of (hr r hr')
  exact ⟨l, rfl⟩
theorem regrows_of {f : Nat} {d : D} (h : hasT Tryd.prog (f + 5) 22 [d]) : ∃ l : List Row, d = encRows l := by
  obtain ⟨rows, he, _, hr⟩ := hasT_slice Tryd.underlying22 h
  cases he
  obtain ⟨l, rfl⟩ := rows_of (row := Row.row) fun r hr' => by
    obtain ⟨hl, hp⟩ := hasT_struct (n := 2) (ts := [3, 38]) Tryd.underlying40 (by kernel_rfl) rfl (by kernel_rfl) (hr r hr')
    obtain ⟨d0, r0, e0, h0, hp0⟩ := parts_one (by kernel_rfl) hp (by simp_all <;> omega)
    subst e0
    obtain ⟨d1, r1, e1, h1, hp1⟩ := parts_one (by kernel_rfl) hp0 (by simp_all <;> omega)
    subst e1
    simp only [parts] at hp1
    subst hp1
    obtain ⟨n0, e0, w0⟩ := hasT_int Tryd.underlying3 h0
    cases e0
    obtain ⟨c, rfl⟩ := runs_of h1
    exact ⟨⟨n0, c⟩, rfl⟩
  exact ⟨l, rfl⟩
theorem region_of {f : Nat} {ds : List D} (h : hasT Tryd.prog (f + 6) 24 ds) : ∃ l : List Row, ds = regRow l := by
  obtain ⟨hl, hp⟩ := hasT_struct (n := 1) (ts := [22]) Tryd.underlying24 (by kernel_rfl) rfl (by kernel_rfl) h
  obtain ⟨d0, r0, e0, h0, hp0⟩ := parts_one (by kernel_rfl) hp (by simp_all <;> omega)
  subst e0
  simp only [parts] at hp0
  subst hp0
  obtain ⟨c, rfl⟩ := regrows_of h0
  exact ⟨c, rfl⟩

theorem arg_region {x : D} (h : hasV Tryd.prog 24 x) : ∃ R : List Row, x = .agg (regRow R) := by
  simp only [hasV, Tryd.underlying24] at h
  obtain ⟨cs, rfl, h⟩ := h
  obtain ⟨s, rfl⟩ := region_of (f := 24) h
  exact ⟨s, rfl⟩
theorem arg_int {x : D} (h : hasV Tryd.prog 3 x) : ∃ n : Int, x = .int .i64 n := by
  obtain ⟨n, rfl, _⟩ := hasV_int Tryd.underlying3 h
  exact ⟨n, rfl⟩

theorem own : ownKnob Tryd.prog.godebug = none := by kernel_rfl
theorem laidOut : laidOutB Tryd.prog = true := by kernel_rfl
def zeroCell : Value := .agg #[.int .i64 0, .int .i64 0]
def zeroReg : Value := .agg #[.slice none 0 0]
end Go.Proofs.YtgicofpllopjmaaDoor

namespace Go.Proofs.YtgicofpllopjmaaDoor
open Go.Abs Go.ChangeShapes Go.WideShapes Go.ChangeAt Go.RowKit

def awL : List Cell := [⟨1, 0⟩, ⟨0, 0⟩, ⟨3, 0⟩, ⟨0, 2⟩]
def awS : List Cell := [⟨0, 0⟩, ⟨1, 0⟩, ⟨3, 0⟩, ⟨0, 2⟩]
def awR : List Row := [⟨0, [⟨0, 2⟩, ⟨3, 4⟩]⟩, ⟨2, [⟨0, 1⟩]⟩]
theorem aw_sort : sortY awL = awS := sortedY_uniq ((sortY_perm awL).trans (by decide)) (sortY_le awL) (by decide)
theorem aw_of : ofR awL = awR := by
  have h : awL.all onG = true := by decide
  unfold ofR
  rw [if_pos h, aw_sort]
  decide
theorem aw_e : ofE awL = 0 := by
  have h : awL.all onG = true := by decide
  unfold ofE
  rw [if_pos h]
theorem aw_count : countR awR = 4 := by decide
theorem awake18_ok : PC Tryd.prog 26 [] (.p (.bool true)) := by
  have c1 := of_ok awL (by decide)
  have hD : ofD awL = .tup [.agg (regRow (ofR awL)), .int .i64 (ofE awL)] := rfl
  rw [hD, aw_of, aw_e] at c1
  have c2 := count_ok awR ⟨by decide, by decide⟩
  rw [aw_count] at c2
  simp only [awL, awR, regRow] at c1 c2
  refine pc_of_awp cx (fn := Tryd.f26) (c := _) Tryd.func26 rfl rfl (Nat.le_of_ble_eq_true rfl) ?_
  rw [Tryd.ntmps26]; refine Nav.imp ?_
  refine awp_region cx [] fun K hK => ?_
  simp [push_cast]
  repeat (refine And.intro (by clear hK; intros; first | omega | (simp_all; done) | (simp_all <;> omega)) ?_)
  refine hK _ ?_; clear hK K; refine Nav.imp ?_
  refine awp_region cx [(4, .f (encCells awL)), (5, .p (.tup [.agg (regRow awR), .int .i64 0]))] fun K hK => ?_
  simp [push_cast, c1, awL, awR, Cell.row]
  repeat (refine And.intro (by clear hK; intros; first | omega | (simp_all; done) | (simp_all <;> omega)) ?_)
  refine hK _ ?_; clear hK K; refine Nav.imp ?_
  refine awp_region cx [(38, .p (.int .i64 4))] fun K hK => ?_
  simp [push_cast, c2, awR, Row.row, Run.row]
  repeat (refine And.intro (by clear hK; intros; first | omega | (simp_all; done) | (simp_all <;> omega)) ?_)
  refine hK _ ?_; clear hK K; refine Nav.imp ?_
  simp [push_cast]


end Go.Proofs.YtgicofpllopjmaaDoor

namespace Go.Proofs.YtgicofpllopjmaaDoor
open Go.Abs Go.Shelf

instance flagT : Flag := ⟨True⟩
theorem below_t {B : Nat} {w w' : World} (h : @Below flag0 B w w') : @Below flagT B w w' := by
  obtain ⟨h1, h2, h3, h4, h5⟩ := h
  exact @Below.mk flagT B w w' h1 ⟨h2.1, .inl trivial⟩ h3 h4 h5
theorem pcT {f : FuncId} {ds : List D} {r : Res} (h : @PC flag0 Tryd.prog f ds r) : @PC flagT Tryd.prog f ds r := by
  refine ⟨h.1, fun ro w vs hro hd => (h.2 ro w vs hro hd).mono ?_⟩
  rintro e w' ⟨v, h1, h2, h3⟩
  exact ⟨v, h1, below_t h2, h3⟩
def repeatS_ren : Go.Shelf.Ren := ⟨fun | 105 => 18 | 212 => 39 | 99 => 40 | 165 => 41 | 166 => 42 | 170 => 43 | 169 => 21 | 263 => 61 | 264 => 62 | 206 => 63 | 240 => 47 | 241 => 64 | 276 => 66 | 277 => 75 | n => n, fun | 9 => 9 | 3 => 3 | 4 => 4 | 20 => 20 | 0 => 0 | 46 => 73 | 109 => 74 | 5 => 5 | 72 => 50 | 76 => 55 | 51 => 97 | 146 => 98 | 53 => 100 | 148 => 101 | 70 => 47 | 37 => 48 | 75 => 54 | 127 => 83 | 164 => 103 | 80 => 57 | n => n, fun n => n⟩
theorem repeatS_lays : Lays.n105 Tryd.prog repeatS_ren where
  mixed := by kernel_rfl
  f99 := Tryd.func40.trans (congrArg some (by kernel_rfl))
  f105 := Tryd.func18.trans (congrArg some (by kernel_rfl))
  f165 := Tryd.func41.trans (congrArg some (by kernel_rfl))
  f166 := Tryd.func42.trans (congrArg some (by kernel_rfl))
  f169 := Tryd.func21.trans (congrArg some (by kernel_rfl))
  f170 := Tryd.func43.trans (congrArg some (by kernel_rfl))
  f206 := Tryd.func63.trans (congrArg some (by kernel_rfl))
  f212 := Tryd.func39.trans (congrArg some (by kernel_rfl))
  f240 := Tryd.func47.trans (congrArg some (by kernel_rfl))
  f241 := Tryd.func64.trans (congrArg some (by kernel_rfl))
  f263 := Tryd.func61.trans (congrArg some (by kernel_rfl))
  f264 := Tryd.func62.trans (congrArg some (by kernel_rfl))
  f276 := Tryd.func66.trans (congrArg some (by kernel_rfl))
  f277 := Tryd.func75.trans (congrArg some (by kernel_rfl))
  t0 := Tryd.underlying0
  a0 := Tryd.isAgg0
  z0 := Tryd.sizeOf0
  v0 := Tryd.zeroValue0
  t3 := Tryd.underlying3
  a3 := Tryd.isAgg3
  z3 := Tryd.sizeOf3
  v3 := Tryd.zeroValue3
  t4 := Tryd.underlying4
  a4 := Tryd.isAgg4
  z4 := Tryd.sizeOf4
  v4 := Tryd.zeroValue4
  t5 := Tryd.underlying5
  a5 := Tryd.isAgg5
  z5 := Tryd.sizeOf5
  v5 := Tryd.zeroValue5
  t9 := Tryd.underlying9
  a9 := Tryd.isAgg9
  z9 := Tryd.sizeOf9
  v9 := Tryd.zeroValue9
  t20 := Tryd.underlying20
  a20 := Tryd.isAgg20
  z20 := Tryd.sizeOf20
  v20 := Tryd.zeroValue20
  t37 := Tryd.underlying48
  a37 := Tryd.isAgg48
  z37 := Tryd.sizeOf48
  v37 := Tryd.zeroValue48
  t46 := Tryd.underlying73
  a46 := Tryd.isAgg73
  z46 := Tryd.sizeOf73
  v46 := Tryd.zeroValue73
  t51 := Tryd.underlying97
  a51 := Tryd.isAgg97
  z51 := Tryd.sizeOf97
  v51 := Tryd.zeroValue97
  t53 := Tryd.underlying100
  a53 := Tryd.isAgg100
  z53 := Tryd.sizeOf100
  v53 := Tryd.zeroValue100
  t70 := Tryd.underlying47
  a70 := Tryd.isAgg47
  z70 := Tryd.sizeOf47
  v70 := Tryd.zeroValue47
  t72 := Tryd.underlying50
  a72 := Tryd.isAgg50
  z72 := Tryd.sizeOf50
  v72 := Tryd.zeroValue50
  t75 := Tryd.underlying54
  a75 := Tryd.isAgg54
  z75 := Tryd.sizeOf54
  v75 := Tryd.zeroValue54
  t76 := Tryd.underlying55
  a76 := Tryd.isAgg55
  z76 := Tryd.sizeOf55
  v76 := Tryd.zeroValue55
  t109 := Tryd.underlying74
  a109 := Tryd.isAgg74
  z109 := Tryd.sizeOf74
  v109 := Tryd.zeroValue74
  t127 := Tryd.underlying83
  a127 := Tryd.isAgg83
  z127 := Tryd.sizeOf83
  v127 := Tryd.zeroValue83
  t146 := Tryd.underlying98
  a146 := Tryd.isAgg98
  z146 := Tryd.sizeOf98
  v146 := Tryd.zeroValue98
  t148 := Tryd.underlying101
  a148 := Tryd.isAgg101
  z148 := Tryd.sizeOf101
  v148 := Tryd.zeroValue101
  t164 := Tryd.underlying103
  a164 := Tryd.isAgg103
  z164 := Tryd.sizeOf103
  v164 := Tryd.zeroValue103
theorem copyS_lays : Lays.n240 Tryd.prog repeatS_ren := { repeatS_lays with }
theorem stringS_lays : Lays.n169 Tryd.prog repeatS_ren := { repeatS_lays with }
theorem repeatS_x : Builder.Extra Tryd.prog repeatS_ren where
  sizeBuilder := by kernel_rfl
  liesBuilder := by kernel_rfl
  t5 := Tryd.underlying5
  a5 := Tryd.isAgg5
  z5 := Tryd.sizeOf5
  v5 := Tryd.zeroValue5
  infoByte := by kernel_rfl
  cellsByte := by kernel_rfl
  sizeByte := by kernel_rfl
  neB5 := by decide
theorem repeat_ok (c : UInt8) (n : Nat) (h1 : 1 ≤ n) (hn : n ≤ 140737488355328) : PC Tryd.prog 18 [strD [c], .int .i64 n] (.p (strD (List.replicate n c))) :=
  repeat_pc trivial repeatS_lays repeatS_x ⟨_, Tryd.func18, by kernel_rfl, by kernel_rfl⟩ c n h1 hn
theorem copyNew_ok : PX Tryd.prog 47 [.ptr 0 0 0] [(0, ⟨50, 2, [[.d .np, .nl]]⟩)] [(0, 0)] [(0, ⟨50, 2, [[.ptr 0 0 0, .nl]]⟩)] (.tup []) :=
  copyNew_px copyS_lays repeatS_x.toX72 ⟨_, Tryd.func47, by kernel_rfl, by kernel_rfl⟩ (Nat.le_of_ble_eq_true (by kernel_rfl)) (by kernel_rfl) (by decide)
theorem copyUsed_ok (n : Nat) (rows : List (List AV)) : PX Tryd.prog 47 [.ptr 0 0 0] [(0, ⟨50, 2, [[.ptr 0 0 0, .hs 1 0 n]]⟩), (1, ⟨5, 1, rows⟩)] [(0, 0), (1, 1)] [(0, ⟨50, 2, [[.ptr 0 0 0, .hs 1 0 n]]⟩), (1, ⟨5, 1, rows⟩)] (.tup []) :=
  copyUsed_px copyS_lays repeatS_x.toX72 ⟨_, Tryd.func47, by kernel_rfl, by kernel_rfl⟩ 5 n rows
theorem string_ok (p : AV) (l : List UInt8) (h0 : l ≠ []) : PX Tryd.prog 21 [.ptr 0 0 0] [(0, ⟨50, 2, [[p, .hs 1 0 l.length]]⟩), (1, ⟨5, 1, dr (l.map bRow)⟩)] [] [] (.d (strD l)) :=
  string_px stringS_lays repeatS_x ⟨_, Tryd.func21, by kernel_rfl, by kernel_rfl⟩ (by decide) p l h0
end Go.Proofs.YtgicofpllopjmaaDoor

namespace Go.Proofs.YtgicofpllopjmaaDoor
open Go.Abs Go.Shelf

abbrev bld (n : Nat) : List (Nat × Ob) := [(0, ⟨50, 2, [[.ptr 0 0 0, .hs 1 0 n]]⟩)]
set_option maxHeartbeats 2000000 in
theorem writeNew_px (l : List UInt8) (h0 : l ≠ []) (hl : l.length ≤ 1000000) :
    PX Tryd.prog 20 [.ptr 0 0 0, .d (.sl (l.map bRow))] [(0, ⟨50, 2, [[.d .np, .nl]]⟩)] [(0, 0)] [(0, ⟨50, 2, [[.ptr 0 0 0, .hs 1 0 l.length]]⟩), (1, ⟨5, 1, dr (l.map bRow)⟩)] .any := by
  have c1 := copyNew_ok
  have h16 : l.length * 1 ≤ 140737488355328 := by omega
  have h17 : l.length ≤ 140737488355328 := by omega
  refine px_of_awp cx (fn := Tryd.f20) (c := _) 1 Tryd.func20 rfl rfl (Nat.le_of_ble_eq_true rfl) rfl rfl fun Ls => ?_
  rw [Tryd.ntmps20]; refine Nav.imp ?_
  refine awp_region cx [] fun K hK => ?_
  simp [push_cast]
  repeat (refine And.intro (by clear hK; intros; first | omega | (simp_all; done) | (simp_all <;> omega)) ?_)
  refine hK _ ?_; clear hK K; refine Nav.imp ?_
  refine awp_region cx [(1, .x ⟨[(0, 0)], [.ptr 0 0 0], [(0, ⟨50, 2, [[.d .np, .nl]]⟩)], [(0, 0)], none, [(0, ⟨50, 2, [[.ptr 0 0 0, .nl]]⟩)], .tup []⟩)] fun K hK => ?_
  simp [push_cast, c1]
  repeat (refine And.intro (by clear hK; intros; first | omega | (simp_all; done) | (simp_all <;> omega)) ?_)
  refine hK _ ?_; clear hK K; refine Nav.imp ?_
  refine awp_region cx [] fun K hK => ?_
  simp [push_cast, h16, h17]
  repeat (refine And.intro (by clear hK; intros; first | omega | (simp_all; done) | (simp_all <;> omega)) ?_)
  refine hK _ ?_; clear hK K; refine Nav.imp ?_
  refine awp_region cx [] fun K hK => ?_
  simp [push_cast]
  repeat (refine And.intro (by clear hK; intros; first | omega | (simp_all; done) | (simp_all <;> omega)) ?_)
  refine hK _ ?_; clear hK K; refine Nav.imp ?_
  first | refine rx_r [(0, 0), (1, 11)] ?_ | refine rx_n [(0, 0), (1, 11)] ?_
  simp [push_cast]
  try decide
set_option maxHeartbeats 2000000 in
theorem writeUsed_px (m l : List UInt8) (h0 : m ≠ []) (hl : m.length + l.length ≤ 1000000) :
    PX Tryd.prog 20 [.ptr 0 0 0, .d (.sl (l.map bRow))] [(0, ⟨50, 2, [[.ptr 0 0 0, .hs 1 0 m.length]]⟩), (1, ⟨5, 1, dr (m.map bRow)⟩)] [(0, 0)] [(0, ⟨50, 2, [[.ptr 0 0 0, .hs 1 0 (m ++ l).length]]⟩), (1, ⟨5, 1, dr ((m ++ l).map bRow)⟩)] .any := by
  have c1 := copyUsed_ok m.length (dr (m.map bRow))
  have h16 : (m.length + l.length) * 1 ≤ 140737488355328 := by omega
  have h17 : m.length + l.length ≤ 140737488355328 := by omega
  refine px_of_awp cx (fn := Tryd.f20) (c := _) 2 Tryd.func20 rfl rfl (Nat.le_of_ble_eq_true rfl) rfl rfl fun Ls => ?_
  rw [Tryd.ntmps20]; refine Nav.imp ?_
  refine awp_region cx [] fun K hK => ?_
  simp [push_cast]
  repeat (refine And.intro (by clear hK; intros; first | omega | (simp_all; done) | (simp_all <;> omega)) ?_)
  refine hK _ ?_; clear hK K; refine Nav.imp ?_
  refine awp_region cx [(1, .x ⟨[(0, 0), (1, 1)], [.ptr 0 0 0], [(0, ⟨50, 2, [[.ptr 0 0 0, .hs 1 0 m.length]]⟩), (1, ⟨5, 1, dr (m.map bRow)⟩)], [(0, 0), (1, 1)], none, [(0, ⟨50, 2, [[.ptr 0 0 0, .hs 1 0 m.length]]⟩), (1, ⟨5, 1, dr (m.map bRow)⟩)], .tup []⟩)] fun K hK => ?_
  simp [push_cast, c1]
  repeat (refine And.intro (by clear hK; intros; first | omega | (simp_all; done) | (simp_all <;> omega)) ?_)
  refine hK _ ?_; clear hK K; refine Nav.imp ?_
  refine awp_region cx [] fun K hK => ?_
  simp [push_cast, h16, h17]
  repeat (refine And.intro (by clear hK; intros; first | omega | (simp_all; done) | (simp_all <;> omega)) ?_)
  refine hK _ ?_; clear hK K; refine Nav.imp ?_
  refine awp_region cx [] fun K hK => ?_
  simp [push_cast]
  repeat (refine And.intro (by clear hK; intros; first | omega | (simp_all; done) | (simp_all <;> omega)) ?_)
  refine hK _ ?_; clear hK K; refine Nav.imp ?_
  first | refine rx_r [(0, 0), (1, 12)] ?_ | refine rx_n [(0, 0), (1, 12)] ?_
  simp [push_cast]
  try decide
end Go.Proofs.YtgicofpllopjmaaDoor

namespace Go.Proofs.YtgicofpllopjmaaDoor
open Go.Abs Go.Shelf

def lnP (l : List Run) (ax : Int) (w : Nat) : List UInt8 := (List.range w).map (fun k : Nat => if inR l (ax + (k : Int)) then (35 : UInt8) else 46) ++ [10]
theorem lnP_len (l : List Run) (ax : Int) (w : Nat) : (lnP l ax w).length = w + 1 := by simp [lnP]
theorem lnP_nil (ax : Int) (w : Nat) : lnP [] ax w = List.replicate w 46 ++ [10] := by
  unfold lnP
  congr 1
  exact List.ext_getElem (by simp) fun i h1 h2 => by simp [inR]
theorem lnP_row (R : List Row) (ax y : Int) (w : Nat) : lnP (rowOf R y) ax w = plin R ax y w ++ [10] := rfl
theorem lnP_ext {l l' : List Run} (ax : Int) (w : Nat) (h : ∀ x, inR l x = inR l' x) : lnP l ax w = lnP l' ax w := by
  unfold lnP
  simp only [h]
theorem inR_app3 (l m : List Run) (x : Int) : inR (l ++ m) x = (inR l x || inR m x) := by simp [inR]
theorem lnP_start (l : List Run) (a ax : Int) (w : Nat) : lnP (l ++ [⟨a, a⟩]) ax w = lnP l ax w := lnP_ext ax w fun x => by
  rw [inR_app3]
  have : inR [⟨a, a⟩] x = false := by simp [inR]
  rw [this, Bool.or_false]
theorem dr_get (l : List UInt8) (k : Nat) (h : k < (dr (l.map bRow)).length) : (dr (l.map bRow))[k] = [AV.d (.int .u8 (l[k]'(by simpa [dr] using h)).toNat)] := by simp [dr]
theorem lnP_step (l : List Run) (a x ax : Int) (w k : Nat) (hk : k < w) (hx : x = ax + k) (ha : a ≤ x) : (lnP (l ++ [⟨a, x⟩]) ax w).set k 35 = lnP (l ++ [⟨a, x + 1⟩]) ax w := by
  unfold lnP
  rw [List.set_append_left _ _ (by simpa using hk)]
  congr 1
  apply List.ext_getElem?
  intro i
  rw [List.getElem?_set]
  by_cases hi : i < w
  · by_cases e : k = i
    · subst e
      rw [if_pos rfl, if_pos (by simpa using hk)]
      simp only [List.getElem?_map, List.getElem?_range hi, Option.map_some]
      rw [if_pos]
      rw [inR_app3]
      simp [inR]
      right
      omega
    · rw [if_neg e]
      simp only [List.getElem?_map, List.getElem?_range hi, Option.map_some]
      have h1 : inR [(⟨a, x⟩ : Run)] (ax + (i : Int)) = inR [(⟨a, x + 1⟩ : Run)] (ax + (i : Int)) := by
        have hne : ax + (i : Int) ≠ x := by omega
        generalize ax + (i : Int) = z at *
        rw [Bool.eq_iff_iff]
        simp only [inR, List.any_cons, List.any_nil, Bool.or_false, Bool.and_eq_true, decide_eq_true_eq]
        omega
      rw [inR_app3, inR_app3, h1]
  · by_cases e : k = i
    · omega
    · rw [if_neg e, List.getElem?_eq_none (by simp; omega), List.getElem?_eq_none (by simp; omega)]
theorem row_rng {R : List Row} (hv : validR R = true) {y : Int} {r : Run} (hr : r ∈ rowOf R y) : lowX R ≤ r.a ∧ r.a ≤ r.b ∧ r.b ≤ highX R + 1 := by
  rcases rowOf_cases hv y with ⟨w, hw, _, e⟩ | ⟨_, e⟩
  · rw [e] at hr
    obtain ⟨k, hk, rfl⟩ := List.mem_iff_getElem.1 hw
    have h1 := row_box hv (List.getElem?_eq_getElem hk)
    have hf := (row_fine hv (List.getElem_mem hk)).2
    have h2 := (row_ends0 hf).1 r hr
    obtain ⟨i, hi, rfl⟩ := List.mem_iff_getElem.1 hr
    have h3 := fine_at hf (List.getElem?_eq_getElem hi)
    omega
  · rw [e] at hr; cases hr
set_option maxHeartbeats 8000000 in
theorem picture_ok (R : List Row) (hR : smallR R) : PC Tryd.prog 8 [.agg (regRow R)] (.p (strD (picS R))) := by
  have c1 := pcT (box_ok R hR)
  have hl := hR.1
  have hB : boxD R = .tup [.agg (boxLo R).row, .agg (boxHi R).row, .bool (some? R)] := rfl
  rw [hB] at c1
  clear hB
  by_cases hs : some? R = true
  · obtain ⟨b1, b2, hv, hp, r1, r2, r3, r4, r5, r6, r7, r8⟩ := pic_facts hs
    have hP : picS R = if (widR R + 1) * higR R ≤ 65536 then pics R (lowX R) (lstY R) (widR R) (higR R) else [] := by
      unfold picS
      simp [hs]
    rw [b1, b2, hs] at c1
    rw [hP]
    have row_rng2 := fun (r : Run) (y : Int) (hr : r ∈ rowOf R y) => row_rng hv hr
    clear b1 b2 hP hs
    generalize lowX R = ax at *
    generalize fstY R = ay at *
    generalize highX R = bx at *
    generalize lstY R = by0 at *
    generalize widR R = w at *
    generalize higR R = h at *
    have hpr : (bx - ax + 2) * (by0 - ay + 1) = (((w + 1) * h : Nat) : Int) := by
      rw [r2, r6]
      push_cast
      congr 1 <;> omega
    have hmx : (w + 1) * h ≤ 8193 * 8192 := Nat.mul_le_mul (by omega) (by omega)
    have hcm := Nat.mul_comm (w + 1) h
    generalize (w + 1) * h = pr at *
    have g1 := wrap_i64 (n := bx - ax) (by omega) (by omega)
    have g2 := wrap_i64 (n := bx - ax + 2) (by omega) (by omega)
    have g3 := wrap_i64 (n := by0 - ay) (by omega) (by omega)
    have g4 := wrap_i64 (n := by0 - ay + 1) (by omega) (by omega)
    have g5 := wrap_i64 (n := (bx - ax + 2) * (by0 - ay + 1)) (by omega) (by omega)
    by_cases hbig : pr ≤ 65536
    · rw [if_pos hbig]
      have hb2 : decide ((65536 : Int) < (bx - ax + 2) * (by0 - ay + 1)) = false := by rw [hpr]; simp; omega
      have hwh : h * (w + 1) ≤ 65536 := by omega
      refine pc_of_awp cx (fn := Tryd.f8) (c := _) Tryd.func8 rfl rfl (Nat.le_of_ble_eq_true rfl) ?_
      rw [Tryd.ntmps8]; refine Nav.imp ?_
      refine awp_region cx [] fun K hK => ?_
      simp [push_cast]
      repeat (refine And.intro (by clear hK; intros; first | omega | (simp_all; done) | (simp_all <;> omega)) ?_)
      refine hK _ ?_; clear hK K; refine Nav.imp ?_
      refine awp_region cx [(1, .p (.tup [.agg [.int .i64 ax, .int .i64 ay], .agg [.int .i64 bx, .int .i64 by0], .bool true]))] fun K hK => ?_
      simp [push_cast, c1]
      repeat (refine And.intro (by clear hK; intros; first | omega | (simp_all; done) | (simp_all <;> omega)) ?_)
      refine hK _ ?_; clear hK K; refine Nav.imp ?_
      refine awp_region cx [] fun K hK => ?_
      simp [push_cast, g1, g2, g3, g4, g5]
      repeat (refine And.intro (by clear hK; intros; first | omega | (simp_all; done) | (simp_all <;> omega)) ?_)
      refine hK _ ?_; clear hK K; refine Nav.imp ?_
      refine awp_cond (b := false) (by simp [push_cast, hb2]) (fun hb => ?_) (fun hb => ?_) <;> (refine Nav.imp ?_)
      · simp at hb
      · refine awp_region cx [] fun K hK => ?_
        simp [push_cast]
        repeat (refine And.intro (by clear hK; intros; first | omega | (simp_all; done) | (simp_all <;> omega)) ?_)
        refine hK _ ?_; clear hK K; refine Nav.imp ?_
        refine awp_region cx [] fun K hK => ?_
        simp [push_cast]
        repeat (refine And.intro (by clear hK; intros; first | omega | (simp_all; done) | (simp_all <;> omega)) ?_)
        refine hK _ ?_; clear hK K; refine Nav.imp ?_
        refine awp_loop (β := Nat) (fun j => ⟨79, [(1, .ptr 0 0 0), (3, .ptr 1 0 0), (4, .ptr 2 0 0), (6, .ptr 3 0 0), (7, .d (.int .i64 (by0 - (j : Int))))], if (pics R ax by0 w j) = [] then [(0, some ⟨24, 1, [(regRow R).map .d]⟩), (1, some ⟨29, 2, [[.d (.int .i64 ax), .d (.int .i64 ay)]]⟩), (2, some ⟨29, 2, [[.d (.int .i64 bx), .d (.int .i64 by0)]]⟩), (3, some ⟨50, 2, [[.d .np, .nl]]⟩)] else [(0, some ⟨24, 1, [(regRow R).map .d]⟩), (1, some ⟨29, 2, [[.d (.int .i64 ax), .d (.int .i64 ay)]]⟩), (2, some ⟨29, 2, [[.d (.int .i64 bx), .d (.int .i64 by0)]]⟩), (3, some ⟨50, 2, [[.ptr 3 0 0, .hs 4 0 (pics R ax by0 w j).length]]⟩), (4, some ⟨5, 1, dr ((pics R ax by0 w j).map bRow)⟩)], 5⟩) (fun j => j ≤ h) (fun j => h - j) 0 ?_ (Nat.zero_le _) ?_
        · simp only [show pics R ax by0 w 0 = [] from rfl, if_true, Int.natCast_zero, Int.sub_zero]
          refine weak_of [(0, some 0), (1, some 8), (2, some 9), (3, some 31)] rfl (by simp [upT, up, upL, push_cast]) (by simp [upH, upR, upL, up, push_cast]) (by simp [namesOk, push_cast]) (by simp [olds])
        · intro j hj
          have hAl := pics_len R ax by0 w j
          have hAm : j * (w + 1) ≤ h * (w + 1) := Nat.mul_le_mul_right _ hj
          generalize hA : pics R ax by0 w j = A at *
          by_cases hA0 : A = []
          · simp only [if_pos hA0]
            refine Nav.imp ?_
            refine awp_region cx [] fun K hK => ?_
            simp [push_cast]
            repeat (refine And.intro (by clear hK; intros; first | omega | (simp_all; done) | (simp_all <;> omega)) ?_)
            refine hK _ ?_; clear hK K; refine Nav.imp ?_
            refine awp_cond (b := decide (ay ≤ by0 - (j : Int))) (by simp [push_cast]) (fun hb => ?_) (fun hb => ?_) <;> (refine Nav.imp ?_)
            · have hlt : j < h := by
                have : ay ≤ by0 - (j : Int) := by simpa using hb
                omega
              have e0 := wrap_i64 (n := by0 - ((j : Int) + 1)) (by omega) (by omega)
              have e1 : by0 - (j : Int) - 1 = by0 - ((j : Int) + 1) := by omega
              have c3 := pcT (row_ok R (by0 - (j : Int)) hR hv)
              have hrl := rowOf_len2 hR (by0 - (j : Int))
              have hrg := fun (r : Run) (hr : r ∈ rowOf R (by0 - (j : Int))) => row_rng2 r (by0 - (j : Int)) hr
              have hnx := pics_next R ax by0 w j
              have hln := lnP_row R ax (by0 - (j : Int)) w
              have hmul : (j + 1) * (w + 1) ≤ h * (w + 1) := Nat.mul_le_mul_right _ hlt
              rw [Nat.succ_mul] at hmul
              rw [← hln] at hnx
              have c4 := repeat_ok 46 w r3 (by omega)
              have o1 := fun (x y : Operand) (yt : TypeId) => opres_add (P := Tryd.prog) (x := x) (y := y) (yt := yt) str_und (List.replicate w 46) [10] (by simp; omega)
              rw [← lnP_nil ax w] at o1
              have o2 := fun (x : Operand) => opres_bytes (P := Tryd.prog) (x := x) str_und bytes_und u8_und (lnP [] ax w) (by rw [lnP_len]; unfold maxLen; omega)
              have g6 := wrap_i64 (n := bx - ax + 1) (by omega) (by omega)
              have g7 : bx - ax + 1 = (w : Int) := by omega
              refine awp_region cx [(6, .p (strD (List.replicate w 46))), (7, .p (strD (lnP [] ax w))), (8, .o strE 1 ((lnP [] ax w).map bRow))] fun K hK => ?_
              simp [push_cast, c4, o1, o2, g1, g6, g7]
              repeat (refine And.intro (by clear hK; intros; first | omega | (simp_all; done) | (simp_all <;> omega)) ?_)
              refine hK _ ?_; clear hK K; refine Nav.imp ?_
              refine awp_region cx [(2, .p (encRuns (rowOf R (by0 - (j : Int)))))] fun K hK => ?_
              simp [push_cast, c3]
              repeat (refine And.intro (by clear hK; intros; first | omega | (simp_all; done) | (simp_all <;> omega)) ?_)
              refine hK _ ?_; clear hK K; refine Nav.imp ?_
              have hl0 := fun l => lnP_len l ax w
              generalize rowOf R (by0 - (j : Int)) = rs at *
              refine awp_loop (β := Nat) (fun i => ⟨79, [(1, .ptr 0 0 0), (3, .ptr 1 0 0), (4, .ptr 2 0 0), (6, .ptr 3 0 0), (7, .d (.int .i64 (by0 - (j : Int)))), (8, .hs 5 0 (w + 1)), (55, .d (encRuns rs)), (56, .d (.int .i64 rs.length)), (57, .d (.int .i64 i))], [(0, some ⟨24, 1, [(regRow R).map .d]⟩), (1, some ⟨29, 2, [[.d (.int .i64 ax), .d (.int .i64 ay)]]⟩), (2, some ⟨29, 2, [[.d (.int .i64 bx), .d (.int .i64 by0)]]⟩), (3, some ⟨50, 2, [[.d .np, .nl]]⟩), (5, some ⟨strE, 1, dr ((lnP (rs.take i) ax w).map bRow)⟩)], 6⟩) (fun i => i ≤ rs.length) (fun i => rs.length - i) 0 ?_ (Nat.zero_le _) ?_
              · simp only [List.take_zero]
                refine weak_of [(0, some 0), (1, some 1), (2, some 2), (3, some 3), (5, some 17)] rfl (by simp [upT, up, upL, push_cast, hl0]) (by simp [upH, upR, upL, up, push_cast, hl0]) (by simp [namesOk, push_cast]) (by simp [olds])
              · intro i hi
                refine Nav.imp ?_
                refine awp_region cx [] fun K hK => ?_
                simp [push_cast]
                repeat (refine And.intro (by clear hK; intros; first | omega | (simp_all; done) | (simp_all <;> omega)) ?_)
                refine hK _ ?_; clear hK K; refine Nav.imp ?_
                refine awp_cond (b := decide ((i : Int) < rs.length)) (by simp [push_cast]) (fun hb => ?_) (fun hb => ?_) <;> (refine Nav.imp ?_)
                · have hil : i < rs.length := by simpa using hb
                  obtain ⟨⟨ra, rb⟩, hr⟩ := getq hil
                  obtain ⟨k1, k2, k3⟩ := hrg _ (List.mem_of_getElem? hr)
                  simp only at k1 k2 k3
                  have f0 := wrap_i64 (n := (i : Int) + 1) (by omega) (by omega)
                  refine awp_region cx [] fun K hK => ?_
                  simp [push_cast, hr, Run.row]
                  repeat (refine And.intro (by clear hK; intros; first | omega | (simp_all; done) | (simp_all <;> omega)) ?_)
                  refine hK _ ?_; clear hK K; refine Nav.imp ?_
                  refine awp_region cx [] fun K hK => ?_
                  simp [push_cast]
                  repeat (refine And.intro (by clear hK; intros; first | omega | (simp_all; done) | (simp_all <;> omega)) ?_)
                  refine hK _ ?_; clear hK K; refine Nav.imp ?_
                  refine awp_loop (β := Nat) (fun q => ⟨79, [(1, .ptr 0 0 0), (3, .ptr 1 0 0), (4, .ptr 2 0 0), (6, .ptr 3 0 0), (7, .d (.int .i64 (by0 - (j : Int)))), (8, .hs 5 0 (w + 1)), (55, .d (encRuns rs)), (56, .d (.int .i64 rs.length)), (57, .d (.int .i64 i)), (10, .ptr 6 0 0), (11, .d (.int .i64 (ra + (q : Int))))], [(0, some ⟨24, 1, [(regRow R).map .d]⟩), (1, some ⟨29, 2, [[.d (.int .i64 ax), .d (.int .i64 ay)]]⟩), (2, some ⟨29, 2, [[.d (.int .i64 bx), .d (.int .i64 by0)]]⟩), (3, some ⟨50, 2, [[.d .np, .nl]]⟩), (5, some ⟨strE, 1, dr ((lnP (rs.take i ++ [⟨ra, ra + (q : Int)⟩]) ax w).map bRow)⟩), (6, some ⟨37, 2, [[.d (.int .i64 ra), .d (.int .i64 rb)]]⟩)], 7⟩) (fun q => ra + (q : Int) ≤ rb) (fun q => (rb - ra).toNat - q) 0 ?_ (by simp; omega) ?_
                  · simp only [Int.natCast_zero, Int.add_zero, lnP_start]
                    refine weak_of [(0, some 0), (1, some 1), (2, some 2), (3, some 3), (5, some 5), (6, some 9)] rfl (by simp [upT, up, upL, push_cast]) (by simp [upH, upR, upL, up, push_cast]) (by simp [namesOk, push_cast]) (by simp [olds])
                  · intro q hq
                    refine Nav.imp ?_
                    refine awp_region cx [] fun K hK => ?_
                    simp [push_cast]
                    repeat (refine And.intro (by clear hK; intros; first | omega | (simp_all; done) | (simp_all <;> omega)) ?_)
                    refine hK _ ?_; clear hK K; refine Nav.imp ?_
                    refine awp_cond (b := decide (ra + (q : Int) < rb)) (by simp [push_cast]) (fun hb => ?_) (fun hb => ?_) <;> (refine Nav.imp ?_)
                    · have hlt2 : ra + (q : Int) < rb := by simpa using hb
                      obtain ⟨k, hk⟩ : ∃ k : Nat, ra + (q : Int) - ax = k := ⟨(ra + (q : Int) - ax).toNat, by omega⟩
                      have hkw : k < w := by omega
                      have hst := lnP_step (rs.take i) ra (ra + q) ax w k hkw (by omega) (by omega)
                      have hst2 : ((lnP (rs.take i ++ [⟨ra, ra + (q : Int)⟩]) ax w).map bRow).set k [.int .u8 35] = (lnP (rs.take i ++ [⟨ra, ra + (q : Int) + 1⟩]) ax w).map bRow := by
                        rw [← hst, List.map_set]
                        rfl
                      have hst3 : (dr ((lnP (rs.take i ++ [⟨ra, ra + (q : Int)⟩]) ax w).map bRow)).set k [AV.d (.int .u8 35)] = dr ((lnP (rs.take i ++ [⟨ra, ra + (q : Int) + 1⟩]) ax w).map bRow) := by
                        rw [← hst2]
                        simp [dr, List.map_set]
                      have f1 := wrap_i64 (n := (k : Int)) (by omega) (by omega)
                      have f2 := wrap_i64 (n := ra + (q : Int) + 1) (by omega) (by omega)
                      have f3 : k < w + 1 := by omega
                      refine awp_region cx [] fun K hK => ?_
                      simp [push_cast, hk, f1, f3, hl0, dr_get, hst3]
                      repeat (refine And.intro (by clear hK; intros; first | omega | (simp_all; done) | (simp_all <;> omega)) ?_)
                      refine hK _ ?_; clear hK K; refine Nav.imp ?_
                      refine awp_region cx [] fun K hK => ?_
                      simp [push_cast, f2]
                      repeat (refine And.intro (by clear hK; intros; first | omega | (simp_all; done) | (simp_all <;> omega)) ?_)
                      refine hK _ ?_; clear hK K; refine Nav.imp ?_
                      refine ⟨q + 1, by push_cast; omega, by omega, ?_⟩
                      refine weak_of [(0, some 0), (1, some 1), (2, some 2), (3, some 3), (5, some 5), (6, some 6)] rfl (by simp [upT, up, upL, push_cast, Int.add_assoc]) (by simp [upH, upR, upL, up, push_cast, Int.add_assoc]) (by simp [namesOk, push_cast]) (by simp [olds])
                    · have hqe : ra + (q : Int) = rb := by
                        have : ¬ ra + (q : Int) < rb := by simpa using hb
                        omega
                      rw [hqe]
                      have htk : rs.take i ++ [(⟨ra, rb⟩ : Run)] = rs.take (i + 1) := (take_get hr).symm
                      rw [htk]
                      refine awp_region cx [] fun K hK => ?_
                      simp [push_cast, f0]
                      repeat (refine And.intro (by clear hK; intros; first | omega | (simp_all; done) | (simp_all <;> omega)) ?_)
                      refine hK _ ?_; clear hK K; refine Nav.imp ?_
                      refine ⟨i + 1, hil, by omega, ?_⟩
                      refine weak_of [(0, some 0), (1, some 1), (2, some 2), (3, some 3), (5, some 5)] rfl (by simp [upT, up, upL, push_cast]) (by simp [upH, upR, upL, up, push_cast]) (by simp [namesOk, push_cast]) (by simp [olds])
                · have hie : i = rs.length := by simp at hb; omega
                  rw [hie, List.take_length]
                  generalize hLL : lnP rs ax w = L at *
                  have hLl : L.length = w + 1 := by rw [← hLL]; exact hl0 rs
                  have hle : w + 1 ≤ L.length := by omega
                  have htk2 : List.take (w + 1) (L.map bRow) = L.map bRow := List.take_of_length_le (by simp; omega)
                  have hL0 : L ≠ [] := fun e => by rw [e] at hLl; simp at hLl
                  refine awp_freeze 5 (L.map bRow) rfl (by simp [push_cast]) fun K hK => ?_
                  simp [push_cast, St.fz, fzT, fzH, fzO, fz, fzL, fzR, fzR_dr, fzR_app, fzR_set, fzL_map]
                  refine hK _ ?_; clear hK K; refine Nav.imp ?_
                  have c5 := writeNew_px L hL0 (by omega)
                  refine awp_region cx [(1, .x ⟨[(0, 3)], [.ptr 0 0 0, .d (.sl (L.map bRow))], [(0, ⟨50, 2, [[.d .np, .nl]]⟩)], [(0, 0)], some 1, [(0, ⟨50, 2, [[.ptr 0 0 0, .hs 1 0 L.length]]⟩), (1, ⟨5, 1, dr (L.map bRow)⟩)], .any⟩)] fun K hK => ?_
                  simp [push_cast, c5, hle, htk2]
                  repeat (refine And.intro (by clear hK; intros; first | omega | (simp_all; done) | (simp_all <;> omega)) ?_)
                  refine hK _ ?_; clear hK K; refine Nav.imp ?_
                  refine awp_region cx [] fun K hK => ?_
                  simp [push_cast, e0, e1]
                  repeat (refine And.intro (by clear hK; intros; first | omega | (simp_all; done) | (simp_all <;> omega)) ?_)
                  refine hK _ ?_; clear hK K; refine Nav.imp ?_
                  refine ⟨j + 1, hlt, by omega, ?_⟩
                  rw [hnx, hA, hA0, List.nil_append]
                  simp only [if_neg hL0]
                  refine weak_of [(0, some 0), (1, some 1), (2, some 2), (3, some 3), (4, some 8)] rfl (by simp [upT, up, upL, push_cast]) (by simp [upH, upR, upL, up, push_cast]) (by simp [namesOk, push_cast]) (by simp [olds])
            · have hje : j = h := by
                have : ¬ ay ≤ by0 - (j : Int) := by simpa using hb
                omega
              exfalso
              have hp2 : 0 < h * (w + 1) := Nat.mul_pos (by omega) (by omega)
              rw [hA0, hje] at hAl
              simp only [List.length_nil] at hAl
              omega
          · simp only [if_neg hA0]
            refine Nav.imp ?_
            refine awp_region cx [] fun K hK => ?_
            simp [push_cast]
            repeat (refine And.intro (by clear hK; intros; first | omega | (simp_all; done) | (simp_all <;> omega)) ?_)
            refine hK _ ?_; clear hK K; refine Nav.imp ?_
            refine awp_cond (b := decide (ay ≤ by0 - (j : Int))) (by simp [push_cast]) (fun hb => ?_) (fun hb => ?_) <;> (refine Nav.imp ?_)
            · have hlt : j < h := by
                have : ay ≤ by0 - (j : Int) := by simpa using hb
                omega
              have e0 := wrap_i64 (n := by0 - ((j : Int) + 1)) (by omega) (by omega)
              have e1 : by0 - (j : Int) - 1 = by0 - ((j : Int) + 1) := by omega
              have c3 := pcT (row_ok R (by0 - (j : Int)) hR hv)
              have hrl := rowOf_len2 hR (by0 - (j : Int))
              have hrg := fun (r : Run) (hr : r ∈ rowOf R (by0 - (j : Int))) => row_rng2 r (by0 - (j : Int)) hr
              have hnx := pics_next R ax by0 w j
              have hln := lnP_row R ax (by0 - (j : Int)) w
              have hmul : (j + 1) * (w + 1) ≤ h * (w + 1) := Nat.mul_le_mul_right _ hlt
              rw [Nat.succ_mul] at hmul
              rw [← hln] at hnx
              have c4 := repeat_ok 46 w r3 (by omega)
              have o1 := fun (x y : Operand) (yt : TypeId) => opres_add (P := Tryd.prog) (x := x) (y := y) (yt := yt) str_und (List.replicate w 46) [10] (by simp; omega)
              rw [← lnP_nil ax w] at o1
              have o2 := fun (x : Operand) => opres_bytes (P := Tryd.prog) (x := x) str_und bytes_und u8_und (lnP [] ax w) (by rw [lnP_len]; unfold maxLen; omega)
              have g6 := wrap_i64 (n := bx - ax + 1) (by omega) (by omega)
              have g7 : bx - ax + 1 = (w : Int) := by omega
              refine awp_region cx [(6, .p (strD (List.replicate w 46))), (7, .p (strD (lnP [] ax w))), (8, .o strE 1 ((lnP [] ax w).map bRow))] fun K hK => ?_
              simp [push_cast, c4, o1, o2, g1, g6, g7]
              repeat (refine And.intro (by clear hK; intros; first | omega | (simp_all; done) | (simp_all <;> omega)) ?_)
              refine hK _ ?_; clear hK K; refine Nav.imp ?_
              refine awp_region cx [(2, .p (encRuns (rowOf R (by0 - (j : Int)))))] fun K hK => ?_
              simp [push_cast, c3]
              repeat (refine And.intro (by clear hK; intros; first | omega | (simp_all; done) | (simp_all <;> omega)) ?_)
              refine hK _ ?_; clear hK K; refine Nav.imp ?_
              have hl0 := fun l => lnP_len l ax w
              generalize rowOf R (by0 - (j : Int)) = rs at *
              refine awp_loop (β := Nat) (fun i => ⟨79, [(1, .ptr 0 0 0), (3, .ptr 1 0 0), (4, .ptr 2 0 0), (6, .ptr 3 0 0), (7, .d (.int .i64 (by0 - (j : Int)))), (8, .hs 5 0 (w + 1)), (55, .d (encRuns rs)), (56, .d (.int .i64 rs.length)), (57, .d (.int .i64 i))], [(0, some ⟨24, 1, [(regRow R).map .d]⟩), (1, some ⟨29, 2, [[.d (.int .i64 ax), .d (.int .i64 ay)]]⟩), (2, some ⟨29, 2, [[.d (.int .i64 bx), .d (.int .i64 by0)]]⟩), (3, some ⟨50, 2, [[.ptr 3 0 0, .hs 4 0 A.length]]⟩), (4, some ⟨5, 1, dr (A.map bRow)⟩), (5, some ⟨strE, 1, dr ((lnP (rs.take i) ax w).map bRow)⟩)], 6⟩) (fun i => i ≤ rs.length) (fun i => rs.length - i) 0 ?_ (Nat.zero_le _) ?_
              · simp only [List.take_zero]
                refine weak_of [(0, some 0), (1, some 1), (2, some 2), (3, some 3), (4, some 4), (5, some 17)] rfl (by simp [upT, up, upL, push_cast, hl0]) (by simp [upH, upR, upL, up, push_cast, hl0]) (by simp [namesOk, push_cast]) (by simp [olds])
              · intro i hi
                refine Nav.imp ?_
                refine awp_region cx [] fun K hK => ?_
                simp [push_cast]
                repeat (refine And.intro (by clear hK; intros; first | omega | (simp_all; done) | (simp_all <;> omega)) ?_)
                refine hK _ ?_; clear hK K; refine Nav.imp ?_
                refine awp_cond (b := decide ((i : Int) < rs.length)) (by simp [push_cast]) (fun hb => ?_) (fun hb => ?_) <;> (refine Nav.imp ?_)
                · have hil : i < rs.length := by simpa using hb
                  obtain ⟨⟨ra, rb⟩, hr⟩ := getq hil
                  obtain ⟨k1, k2, k3⟩ := hrg _ (List.mem_of_getElem? hr)
                  simp only at k1 k2 k3
                  have f0 := wrap_i64 (n := (i : Int) + 1) (by omega) (by omega)
                  refine awp_region cx [] fun K hK => ?_
                  simp [push_cast, hr, Run.row]
                  repeat (refine And.intro (by clear hK; intros; first | omega | (simp_all; done) | (simp_all <;> omega)) ?_)
                  refine hK _ ?_; clear hK K; refine Nav.imp ?_
                  refine awp_region cx [] fun K hK => ?_
                  simp [push_cast]
                  repeat (refine And.intro (by clear hK; intros; first | omega | (simp_all; done) | (simp_all <;> omega)) ?_)
                  refine hK _ ?_; clear hK K; refine Nav.imp ?_
                  refine awp_loop (β := Nat) (fun q => ⟨79, [(1, .ptr 0 0 0), (3, .ptr 1 0 0), (4, .ptr 2 0 0), (6, .ptr 3 0 0), (7, .d (.int .i64 (by0 - (j : Int)))), (8, .hs 5 0 (w + 1)), (55, .d (encRuns rs)), (56, .d (.int .i64 rs.length)), (57, .d (.int .i64 i)), (10, .ptr 6 0 0), (11, .d (.int .i64 (ra + (q : Int))))], [(0, some ⟨24, 1, [(regRow R).map .d]⟩), (1, some ⟨29, 2, [[.d (.int .i64 ax), .d (.int .i64 ay)]]⟩), (2, some ⟨29, 2, [[.d (.int .i64 bx), .d (.int .i64 by0)]]⟩), (3, some ⟨50, 2, [[.ptr 3 0 0, .hs 4 0 A.length]]⟩), (4, some ⟨5, 1, dr (A.map bRow)⟩), (5, some ⟨strE, 1, dr ((lnP (rs.take i ++ [⟨ra, ra + (q : Int)⟩]) ax w).map bRow)⟩), (6, some ⟨37, 2, [[.d (.int .i64 ra), .d (.int .i64 rb)]]⟩)], 7⟩) (fun q => ra + (q : Int) ≤ rb) (fun q => (rb - ra).toNat - q) 0 ?_ (by simp; omega) ?_
                  · simp only [Int.natCast_zero, Int.add_zero, lnP_start]
                    refine weak_of [(0, some 0), (1, some 1), (2, some 2), (3, some 3), (4, some 4), (5, some 5), (6, some 9)] rfl (by simp [upT, up, upL, push_cast]) (by simp [upH, upR, upL, up, push_cast]) (by simp [namesOk, push_cast]) (by simp [olds])
                  · intro q hq
                    refine Nav.imp ?_
                    refine awp_region cx [] fun K hK => ?_
                    simp [push_cast]
                    repeat (refine And.intro (by clear hK; intros; first | omega | (simp_all; done) | (simp_all <;> omega)) ?_)
                    refine hK _ ?_; clear hK K; refine Nav.imp ?_
                    refine awp_cond (b := decide (ra + (q : Int) < rb)) (by simp [push_cast]) (fun hb => ?_) (fun hb => ?_) <;> (refine Nav.imp ?_)
                    · have hlt2 : ra + (q : Int) < rb := by simpa using hb
                      obtain ⟨k, hk⟩ : ∃ k : Nat, ra + (q : Int) - ax = k := ⟨(ra + (q : Int) - ax).toNat, by omega⟩
                      have hkw : k < w := by omega
                      have hst := lnP_step (rs.take i) ra (ra + q) ax w k hkw (by omega) (by omega)
                      have hst2 : ((lnP (rs.take i ++ [⟨ra, ra + (q : Int)⟩]) ax w).map bRow).set k [.int .u8 35] = (lnP (rs.take i ++ [⟨ra, ra + (q : Int) + 1⟩]) ax w).map bRow := by
                        rw [← hst, List.map_set]
                        rfl
                      have hst3 : (dr ((lnP (rs.take i ++ [⟨ra, ra + (q : Int)⟩]) ax w).map bRow)).set k [AV.d (.int .u8 35)] = dr ((lnP (rs.take i ++ [⟨ra, ra + (q : Int) + 1⟩]) ax w).map bRow) := by
                        rw [← hst2]
                        simp [dr, List.map_set]
                      have f1 := wrap_i64 (n := (k : Int)) (by omega) (by omega)
                      have f2 := wrap_i64 (n := ra + (q : Int) + 1) (by omega) (by omega)
                      have f3 : k < w + 1 := by omega
                      refine awp_region cx [] fun K hK => ?_
                      simp [push_cast, hk, f1, f3, hl0, dr_get, hst3]
                      repeat (refine And.intro (by clear hK; intros; first | omega | (simp_all; done) | (simp_all <;> omega)) ?_)
                      refine hK _ ?_; clear hK K; refine Nav.imp ?_
                      refine awp_region cx [] fun K hK => ?_
                      simp [push_cast, f2]
                      repeat (refine And.intro (by clear hK; intros; first | omega | (simp_all; done) | (simp_all <;> omega)) ?_)
                      refine hK _ ?_; clear hK K; refine Nav.imp ?_
                      refine ⟨q + 1, by push_cast; omega, by omega, ?_⟩
                      refine weak_of [(0, some 0), (1, some 1), (2, some 2), (3, some 3), (4, some 4), (5, some 5), (6, some 6)] rfl (by simp [upT, up, upL, push_cast, Int.add_assoc]) (by simp [upH, upR, upL, up, push_cast, Int.add_assoc]) (by simp [namesOk, push_cast]) (by simp [olds])
                    · have hqe : ra + (q : Int) = rb := by
                        have : ¬ ra + (q : Int) < rb := by simpa using hb
                        omega
                      rw [hqe]
                      have htk : rs.take i ++ [(⟨ra, rb⟩ : Run)] = rs.take (i + 1) := (take_get hr).symm
                      rw [htk]
                      refine awp_region cx [] fun K hK => ?_
                      simp [push_cast, f0]
                      repeat (refine And.intro (by clear hK; intros; first | omega | (simp_all; done) | (simp_all <;> omega)) ?_)
                      refine hK _ ?_; clear hK K; refine Nav.imp ?_
                      refine ⟨i + 1, hil, by omega, ?_⟩
                      refine weak_of [(0, some 0), (1, some 1), (2, some 2), (3, some 3), (4, some 4), (5, some 5)] rfl (by simp [upT, up, upL, push_cast]) (by simp [upH, upR, upL, up, push_cast]) (by simp [namesOk, push_cast]) (by simp [olds])
                · have hie : i = rs.length := by simp at hb; omega
                  rw [hie, List.take_length]
                  generalize hLL : lnP rs ax w = L at *
                  have hLl : L.length = w + 1 := by rw [← hLL]; exact hl0 rs
                  have hle : w + 1 ≤ L.length := by omega
                  have htk2 : List.take (w + 1) (L.map bRow) = L.map bRow := List.take_of_length_le (by simp; omega)
                  have hL0 : L ≠ [] := fun e => by rw [e] at hLl; simp at hLl
                  refine awp_freeze 5 (L.map bRow) rfl (by simp [push_cast]) fun K hK => ?_
                  simp [push_cast, St.fz, fzT, fzH, fzO, fz, fzL, fzR, fzR_dr, fzR_app, fzR_set, fzL_map]
                  refine hK _ ?_; clear hK K; refine Nav.imp ?_
                  have c5 := writeUsed_px A L hA0 (by omega)
                  have hAL : A ++ L ≠ [] := by simp [hA0]
                  have hLA := hnx
                  rw [hA] at hLA
                  generalize A ++ L = E at *
                  refine awp_region cx [(1, .x ⟨[(0, 3), (1, 4)], [.ptr 0 0 0, .d (.sl (L.map bRow))], [(0, ⟨50, 2, [[.ptr 0 0 0, .hs 1 0 A.length]]⟩), (1, ⟨5, 1, dr (A.map bRow)⟩)], [(0, 0)], some 1, [(0, ⟨50, 2, [[.ptr 0 0 0, .hs 1 0 E.length]]⟩), (1, ⟨5, 1, dr (E.map bRow)⟩)], .any⟩)] fun K hK => ?_
                  simp [push_cast, c5, hle, htk2]
                  repeat (refine And.intro (by clear hK; intros; first | omega | (simp_all; done) | (simp_all <;> omega)) ?_)
                  refine hK _ ?_; clear hK K; refine Nav.imp ?_
                  refine awp_region cx [] fun K hK => ?_
                  simp [push_cast, e0, e1]
                  repeat (refine And.intro (by clear hK; intros; first | omega | (simp_all; done) | (simp_all <;> omega)) ?_)
                  refine hK _ ?_; clear hK K; refine Nav.imp ?_
                  refine ⟨j + 1, hlt, by omega, ?_⟩
                  rw [hLA]
                  simp only [if_neg hAL]
                  refine weak_of [(0, some 0), (1, some 1), (2, some 2), (3, some 3), (4, some 8)] rfl (by simp [upT, up, upL, push_cast]) (by simp [upH, upR, upL, up, push_cast]) (by simp [namesOk, push_cast]) (by simp [olds])
            · have hje : j = h := by
                have : ¬ ay ≤ by0 - (j : Int) := by simpa using hb
                omega
              rw [hje] at hA
              rw [hA]
              have c6 := string_ok (.ptr 0 0 0) A hA0
              refine awp_region cx [(0, .x ⟨[(0, 3), (1, 4)], [.ptr 0 0 0], [(0, ⟨50, 2, [[.ptr 0 0 0, .hs 1 0 A.length]]⟩), (1, ⟨5, 1, dr (A.map bRow)⟩)], [], none, [], .d (strD A)⟩)] fun K hK => ?_
              simp [push_cast, c6]
              repeat (refine And.intro (by clear hK; intros; first | omega | (simp_all; done) | (simp_all <;> omega)) ?_)
              refine hK _ ?_; clear hK K; refine Nav.imp ?_
              simp [push_cast]
    · rw [if_neg hbig]
      have hb2 : decide ((65536 : Int) < (bx - ax + 2) * (by0 - ay + 1)) = true := by rw [hpr]; simp; omega
      refine pc_of_awp cx (fn := Tryd.f8) (c := _) Tryd.func8 rfl rfl (Nat.le_of_ble_eq_true rfl) ?_
      rw [Tryd.ntmps8]; refine Nav.imp ?_
      refine awp_region cx [] fun K hK => ?_
      simp [push_cast]
      repeat (refine And.intro (by clear hK; intros; first | omega | (simp_all; done) | (simp_all <;> omega)) ?_)
      refine hK _ ?_; clear hK K; refine Nav.imp ?_
      refine awp_region cx [(1, .p (.tup [.agg [.int .i64 ax, .int .i64 ay], .agg [.int .i64 bx, .int .i64 by0], .bool true]))] fun K hK => ?_
      simp [push_cast, c1]
      repeat (refine And.intro (by clear hK; intros; first | omega | (simp_all; done) | (simp_all <;> omega)) ?_)
      refine hK _ ?_; clear hK K; refine Nav.imp ?_
      refine awp_region cx [] fun K hK => ?_
      simp [push_cast, g1, g2, g3, g4, g5]
      repeat (refine And.intro (by clear hK; intros; first | omega | (simp_all; done) | (simp_all <;> omega)) ?_)
      refine hK _ ?_; clear hK K; refine Nav.imp ?_
      refine awp_cond (b := true) (by simp [push_cast, hb2]) (fun hb => ?_) (fun hb => ?_) <;> (refine Nav.imp ?_)
      · refine awp_region cx [] fun K hK => ?_
        simp [push_cast]
        repeat (refine And.intro (by clear hK; intros; first | omega | (simp_all; done) | (simp_all <;> omega)) ?_)
        refine hK _ ?_; clear hK K; refine Nav.imp ?_
        simp [push_cast]
      · simp at hb
  · have hs' : some? R = false := by simpa using hs
    have hP : picS R = [] := by
      unfold picS
      simp [hs']
    have b1 : boxLo R = ⟨0, 0⟩ := by simp [boxLo, hs']
    have b2 : boxHi R = ⟨0, 0⟩ := by simp [boxHi, hs']
    rw [b1, b2, hs'] at c1
    rw [hP]
    refine pc_of_awp cx (fn := Tryd.f8) (c := _) Tryd.func8 rfl rfl (Nat.le_of_ble_eq_true rfl) ?_
    rw [Tryd.ntmps8]; refine Nav.imp ?_
    refine awp_region cx [] fun K hK => ?_
    simp [push_cast]
    repeat (refine And.intro (by clear hK; intros; first | omega | (simp_all; done) | (simp_all <;> omega)) ?_)
    refine hK _ ?_; clear hK K; refine Nav.imp ?_
    refine awp_region cx [(1, .p (.tup [.agg [.int .i64 0, .int .i64 0], .agg [.int .i64 0, .int .i64 0], .bool false]))] fun K hK => ?_
    simp [push_cast, c1]
    repeat (refine And.intro (by clear hK; intros; first | omega | (simp_all; done) | (simp_all <;> omega)) ?_)
    refine hK _ ?_; clear hK K; refine Nav.imp ?_
    refine awp_region cx [] fun K hK => ?_
    simp [push_cast]
    repeat (refine And.intro (by clear hK; intros; first | omega | (simp_all; done) | (simp_all <;> omega)) ?_)
    refine hK _ ?_; clear hK K; refine Nav.imp ?_
    refine awp_cond (b := true) (by simp [push_cast]) (fun hb => ?_) (fun hb => ?_) <;> (refine Nav.imp ?_)
    · refine awp_region cx [] fun K hK => ?_
      simp [push_cast]
      repeat (refine And.intro (by clear hK; intros; first | omega | (simp_all; done) | (simp_all <;> omega)) ?_)
      refine hK _ ?_; clear hK K; refine Nav.imp ?_
      simp [push_cast]
    · simp at hb
end Go.Proofs.YtgicofpllopjmaaDoor

namespace Go.Proofs.YtgicofpllopjmaaDoor
open Go.Abs Go.Shelf

def tx1 : List UInt8 := [35, 46, 46, 46, 10, 46, 46, 46, 46, 10, 35, 35, 46, 35, 10]
def tx2 : List UInt8 := [35, 46, 46, 10, 46, 46, 46, 46, 10]
theorem tx1_lines : linesP tx1 = some [[35, 46, 46, 46], [46, 46, 46, 46], [35, 35, 46, 35]] := by decide
theorem tx2_lines : linesP tx2 = none := by decide
theorem tx1_cells : cellsT [[35, 46, 46, 46], [46, 46, 46, 46], [35, 35, 46, 35]] ⟨0, 0⟩ 3 = [⟨0, 2⟩, ⟨0, 0⟩, ⟨1, 0⟩, ⟨3, 0⟩] := by decide
theorem aw_D : ofD awL = .tup [.agg (regRow awR), .int .i64 0] := by
  have h : ofD awL = .tup [.agg (regRow (ofR awL)), .int .i64 (ofE awL)] := rfl
  rw [h, aw_of, aw_e]
theorem tx1_read : readR tx1 ⟨0, 0⟩ = .tup [.agg (regRow awR), .int .i64 0] := by
  unfold readR
  rw [if_neg (by decide), tx1_lines]
  simp only [List.length_cons, List.length_nil]
  rw [show (0 + 1 + 1 + 1) = 3 from rfl, tx1_cells, ← aw_D]
  exact ofD_ext (by decide) (by decide) fun c => by
    simp only [awL, List.mem_cons, List.not_mem_nil, or_false]
    constructor <;> (rintro (h | h | h | h) <;> simp [h])
theorem tx2_read : readR tx2 ⟨0, 0⟩ = .tup [.agg (regRow []), .int .i64 5] := by
  unfold readR
  rw [if_neg (by decide), tx2_lines]
theorem aw_pic : picS awR = tx1 := by decide
theorem drawn_ok : PC Tryd.prog 10 [] (.p (.bool true)) := by
  have c0 := pcT awake18_ok
  have c1 := pcT (of_ok awL (by decide))
  rw [aw_D] at c1
  have c2 := pcT (read_ok tx1 ⟨0, 0⟩ (by decide))
  rw [tx1_read] at c2
  have c3 := pcT (read_ok tx2 ⟨0, 0⟩ (by decide))
  rw [tx2_read] at c3
  have c4 := picture_ok awR ⟨by decide, by decide⟩
  rw [aw_pic] at c4
  have c5 := pcT (rsame_ok awR awR ⟨by decide, by decide⟩)
  rw [decide_eq_true rfl] at c5
  have o1 := fun (x y : Operand) (yt : TypeId) => opres_eq (P := Tryd.prog) (x := x) (y := y) (yt := yt) str_und tx1 tx1
  rw [show (tx1 == tx1) = true from by decide] at o1
  simp only [awL, awR, regRow, tx1, tx2] at c1 c2 c3 c4 c5 o1
  refine pc_of_awp cx (fn := Tryd.f10) (c := _) Tryd.func10 rfl rfl (Nat.le_of_ble_eq_true rfl) ?_
  rw [Tryd.ntmps10]; refine Nav.imp ?_
  refine awp_region cx [] fun K hK => ?_
  simp [push_cast]
  repeat (refine And.intro (by clear hK; intros; first | omega | (simp_all; done) | (simp_all <;> omega)) ?_)
  refine hK _ ?_; clear hK K; refine Nav.imp ?_
  refine awp_region cx [(4, .f (encCells awL)), (5, .p (.tup [.agg (regRow awR), .int .i64 0]))] fun K hK => ?_
  simp [push_cast, c1, awL, awR, Cell.row]
  repeat (refine And.intro (by clear hK; intros; first | omega | (simp_all; done) | (simp_all <;> omega)) ?_)
  refine hK _ ?_; clear hK K; refine Nav.imp ?_
  refine awp_region cx [(1, .p (.tup [.agg (regRow awR), .int .i64 0]))] fun K hK => ?_
  simp [push_cast, c2, awR, Cell.row]
  repeat (refine And.intro (by clear hK; intros; first | omega | (simp_all; done) | (simp_all <;> omega)) ?_)
  refine hK _ ?_; clear hK K; refine Nav.imp ?_
  refine awp_region cx [(1, .p (.tup [.agg (regRow []), .int .i64 5]))] fun K hK => ?_
  simp [push_cast, c3, Cell.row]
  repeat (refine And.intro (by clear hK; intros; first | omega | (simp_all; done) | (simp_all <;> omega)) ?_)
  refine hK _ ?_; clear hK K; refine Nav.imp ?_
  refine awp_region cx [(1, .p (strD tx1)), (2, .p (.bool true)), (10, .p (.bool true)), (17, .p (.bool true))] fun K hK => ?_
  simp [push_cast, c0, c4, c5, o1, awR, tx1, Row.row, Run.row]
  repeat (refine And.intro (by clear hK; intros; first | omega | (simp_all; done) | (simp_all <;> omega)) ?_)
  refine hK _ ?_; clear hK K; refine Nav.imp ?_
  simp [push_cast]
theorem readR_form (s : List UInt8) (o : Cell) (hs : s.length ≤ 100000) : ∃ R e, readR s o = .tup [.agg (regRow R), .int .i64 e] ∧ smallR R := by
  unfold readR
  split
  · exact ⟨[], 2, rfl, by simp, by simp⟩
  · split
    · exact ⟨[], 5, rfl, by simp, by simp⟩
    · rename_i l hl
      refine ⟨ofR (cellsT l o l.length), ofE (cellsT l o l.length), rfl, ?_⟩
      have h1 := cellsT_len l o l.length (Nat.le_refl _)
      have h2 := txt_mono l l.length
      have h3 := linesP_len hl
      generalize cellsT l o l.length = L at *
      unfold ofR
      split
      · have := build_small (sortY L)
        have hlen : (sortY L).length = L.length := (sortY_perm L).length_eq
        exact ⟨by omega, fun w hw => by have := this.2 w hw; omega⟩
      · exact ⟨by simp, by simp⟩
end Go.Proofs.YtgicofpllopjmaaDoor

namespace Go.Proofs.YtgicofpllopjmaaDoor
open Go.Abs Go.Shelf

def larR (k m : Nat) : List Row := (List.range m).map fun i : Nat => ⟨(i : Int), [⟨-4096, (k : Int) - 4096⟩]⟩
theorem larR_next (k m : Nat) : larR k (m + 1) = larR k m ++ [⟨(m : Int), [⟨-4096, (k : Int) - 4096⟩]⟩] := by
  unfold larR
  rw [List.range_succ, List.map_append]
  rfl
theorem larR_len (k m : Nat) : (larR k m).length = m := by simp [larR]
theorem larR_mem {k m : Nat} {w : Row} (h : w ∈ larR k m) : ∃ i : Nat, i < m ∧ w = ⟨(i : Int), [⟨-4096, (k : Int) - 4096⟩]⟩ := by
  simp only [larR, List.mem_map, List.mem_range] at h
  obtain ⟨i, hi, rfl⟩ := h
  exact ⟨i, hi, rfl⟩
theorem larR_get {k m i : Nat} (h : i < m) : (larR k m)[i]? = some ⟨(i : Int), [⟨-4096, (k : Int) - 4096⟩]⟩ := by simp [larR, h]
theorem larR_small (k m : Nat) (hm : m ≤ 9) : smallR (larR k m) := ⟨by rw [larR_len]; omega, fun w hw => by
  obtain ⟨i, _, rfl⟩ := larR_mem hw
  simp⟩
theorem larR_valid (k m : Nat) (hk : 1 ≤ k ∧ k ≤ 8192) (hm : m ≤ 9) : validR (larR k m) = true := by
  refine validR_pw.2 ⟨fun w hw => ?_, ?_⟩
  · obtain ⟨i, hi, rfl⟩ := larR_mem hw
    refine ⟨by simp only; omega, ?_⟩
    refine fine_apart.2 ⟨by simp, ⟨fun r hr => ?_, by simp⟩, fun r hr => ?_⟩
    · simp at hr; subst hr; simp only; omega
    · simp at hr; subst hr; simp only; omega
  · unfold larR
    rw [List.pairwise_map]
    exact List.pairwise_lt_range.imp fun h => by simp only; omega
theorem larR_box (k m : Nat) (hk : 1 ≤ k ∧ k ≤ 8192) (hm : 1 ≤ m ∧ m ≤ 9) : some? (larR k m) = true ∧ lowX (larR k m) = -4096 ∧ highX (larR k m) = k - 4097 ∧ fstY (larR k m) = 0 ∧ lstY (larR k m) = m - 1 := by
  have hv := larR_valid k m hk hm.2
  have hl := larR_len k m
  have hbd := box_bd hv (by omega)
  have h0 : (⟨((0 : Nat) : Int), [⟨-4096, (k : Int) - 4096⟩]⟩ : Row) ∈ larR k m := List.mem_of_getElem? (larR_get (show 0 < m by omega))
  refine ⟨by simp [some?, hv]; omega, ?_, ?_, ?_, ?_⟩
  · have := (foldMin fstA (larR k m) 4096).2.1 _ h0
    have e : fstA (⟨((0 : Nat) : Int), [⟨-4096, (k : Int) - 4096⟩]⟩ : Row) = -4096 := rfl
    rw [e] at this
    unfold lowX at hbd ⊢
    omega
  · have h1 := (foldMax (fun w => lstB w - 1) (larR k m) (-4096)).2.1 _ h0
    have h2 := (foldMax (fun w => lstB w - 1) (larR k m) (-4096)).2.2 ((k : Int) - 4097) (by omega) fun w hw => by
      obtain ⟨i, _, rfl⟩ := larR_mem hw
      simp [lstB]
      omega
    have e : lstB (⟨((0 : Nat) : Int), [⟨-4096, (k : Int) - 4096⟩]⟩ : Row) = (k : Int) - 4096 := rfl
    simp only [e] at h1
    unfold highX
    omega
  · unfold fstY
    rw [larR_get (by omega)]
    rfl
  · unfold lstY
    rw [hl, larR_get (by omega)]
    simp only
    omega
theorem larR_pic (k m : Nat) (hk : 1 ≤ k ∧ k ≤ 8192) (hm : 1 ≤ m ∧ m ≤ 9) : (65536 < (k + 1) * m → picS (larR k m) = []) ∧ ((k + 1) * m ≤ 65536 → (picS (larR k m)).length = (k + 1) * m ∧ (picS (larR k m))[0]? = some 35 ∧ (picS (larR k m))[k]? = some 10) := by
  obtain ⟨h1, h2, h3, h4, h5⟩ := larR_box k m hk hm
  have hw : widR (larR k m) = k := by unfold widR; rw [h2, h3]; omega
  have hh : higR (larR k m) = m := by unfold higR; rw [h4, h5]; omega
  have hv := larR_valid k m hk hm.2
  constructor
  · intro h
    unfold picS
    rw [if_neg]
    rw [hw, hh]
    omega
  · intro h
    have hp : picS (larR k m) = pics (larR k m) (-4096) ((m : Int) - 1) k m := by
      unfold picS
      rw [if_pos ⟨h1, by rw [hw, hh]; exact h⟩, h2, h5, hw, hh]
    rw [hp]
    refine ⟨by rw [pics_len, Nat.mul_comm], ?_⟩
    obtain ⟨n, rfl⟩ : ∃ n, m = n + 1 := ⟨m - 1, by omega⟩
    have hs : pics (larR k (n + 1)) (-4096) (((n + 1 : Nat) : Int) - 1) k (n + 1) = plin (larR k (n + 1)) (-4096) (((n + 1 : Nat) : Int) - 1) k ++ ([10] ++ ((List.range' 1 n).flatMap fun j : Nat => plin (larR k (n + 1)) (-4096) (((n + 1 : Nat) : Int) - 1 - (j : Int)) k ++ [10])) := by
      unfold pics
      rw [List.range_eq_range', List.range'_succ, List.flatMap_cons]
      simp
    rw [hs]
    have hl := plin_len (larR k (n + 1)) (-4096) (((n + 1 : Nat) : Int) - 1) k
    constructor
    · rw [List.getElem?_append_left (by omega)]
      unfold plin
      rw [List.getElem?_map, List.getElem?_range (by omega)]
      simp only [Option.map_some, pch]
      have hro := rowOf_mem hv (List.mem_of_getElem? (larR_get (k := k) (show n < n + 1 by omega)))
      simp only at hro
      rw [show (((n + 1 : Nat) : Int) - 1) = (n : Int) by omega, hro, if_pos]
      simp [inR]
      omega
    · rw [List.getElem?_append_right (by omega), hl]
      simp
theorem regionlarge_ok (n0 m0 : Int) (hn : 0 ≤ n0 ∧ n0 < 65536) (hm0 : 0 ≤ m0 ∧ m0 < 256) : PC Tryd.prog 5 [.int .u16 n0, .int .u8 m0] (.p (.bool true)) := by
  have c0 := drawn_ok
  obtain ⟨n, rfl⟩ : ∃ n : Nat, n0 = n := ⟨n0.toNat, by omega⟩
  obtain ⟨mm, rfl⟩ : ∃ n : Nat, m0 = n := ⟨m0.toNat, by omega⟩
  have r1 : (n : Int).tmod 8192 = ((n % 8192 : Nat) : Int) := (Int.ofNat_tmod n 8192).symm
  have r2 : (mm : Int).tmod 9 = ((mm % 9 : Nat) : Int) := (Int.ofNat_tmod mm 9).symm
  have hk : 1 + n % 8192 ≤ 8192 := by omega
  have hm : 1 + mm % 9 ≤ 9 := by omega
  obtain ⟨k, hk2⟩ : ∃ k, 1 + n % 8192 = k := ⟨_, rfl⟩
  obtain ⟨m, hm2⟩ : ∃ m, 1 + mm % 9 = m := ⟨_, rfl⟩
  have hk3 : 1 + ((n % 8192 : Nat) : Int) = (k : Int) := by omega
  have hm3 : 1 + ((mm % 9 : Nat) : Int) = (m : Int) := by omega
  have k1 : 1 ≤ k ∧ k ≤ 8192 := by omega
  have m1 : 1 ≤ m ∧ m ≤ 9 := by omega
  have w1 : IntKind.u16.wrap ((n % 8192 : Nat) : Int) = ((n % 8192 : Nat) : Int) := by have := Nat.mod_lt n (show 0 < 8192 by omega); simp [IntKind.wrap, IntKind.bits, IntKind.signed]; omega
  have w2 : IntKind.u8.wrap ((mm % 9 : Nat) : Int) = ((mm % 9 : Nat) : Int) := by have := Nat.mod_lt mm (show 0 < 9 by omega); simp [IntKind.wrap, IntKind.bits, IntKind.signed]; omega
  have w3 := wrap_i64 (n := ((n % 8192 : Nat) : Int)) (by omega) (by omega)
  have w4 := wrap_i64 (n := ((mm % 9 : Nat) : Int)) (by omega) (by omega)
  have w5 := wrap_i64 (n := (k : Int)) (by omega) (by omega)
  have w6 := wrap_i64 (n := (m : Int)) (by omega) (by omega)
  have w7 := wrap_i64 (n := (k : Int) - 4096) (by omega) (by omega)
  have w8 := wrap_i64 (n := (k : Int) + 1) (by omega) (by omega)
  have hpr : ((k : Int) + 1) * (m : Int) = (((k + 1) * m : Nat) : Int) := by push_cast; rfl
  have hmx : (k + 1) * m ≤ 8193 * 9 := Nat.mul_le_mul (by omega) (by omega)
  have w9 := wrap_i64 (n := (((k + 1) * m : Nat) : Int)) (by omega) (by omega)
  obtain ⟨p1, p2⟩ := larR_pic k m k1 m1
  have c1 := picture_ok (larR k m) (larR_small k m m1.2)
  have hnext := larR_next k
  have hlen := larR_len k
  generalize (k + 1) * m = pr at *
  generalize n % 8192 = nk at *
  generalize mm % 9 = nm at *
  refine pc_of_awp cx (fn := Tryd.f5) (c := _) Tryd.func5 rfl rfl (Nat.le_of_ble_eq_true rfl) ?_
  rw [Tryd.ntmps5]; refine Nav.imp ?_
  refine awp_region cx [] fun K hK => ?_
  simp [push_cast]
  repeat (refine And.intro (by clear hK; intros; first | omega | (simp_all; done) | (simp_all <;> omega)) ?_)
  refine hK _ ?_; clear hK K; refine Nav.imp ?_
  refine awp_region cx [] fun K hK => ?_
  simp [push_cast, r1, r2, w1, w2, w3, w4, hk3, hm3, w5, w6]
  repeat (refine And.intro (by clear hK; intros; first | omega | (simp_all; done) | (simp_all <;> omega)) ?_)
  refine hK _ ?_; clear hK K; refine Nav.imp ?_
  refine awp_region cx [] fun K hK => ?_
  simp [push_cast]
  repeat (refine And.intro (by clear hK; intros; first | omega | (simp_all; done) | (simp_all <;> omega)) ?_)
  refine hK _ ?_; clear hK K; refine Nav.imp ?_
  refine awp_region cx [] fun K hK => ?_
  simp [push_cast]
  repeat (refine And.intro (by clear hK; intros; first | omega | (simp_all; done) | (simp_all <;> omega)) ?_)
  refine hK _ ?_; clear hK K; refine Nav.imp ?_
  refine awp_loop (β := Nat) (fun j => ⟨68, [(5, .d (.int .i64 k)), (6, .d (.int .i64 m)), (7, .ptr 0 0 0), (8, .d (.int .i64 j))], [(0, some ⟨24, 1, [[.hs 1 0 (larR k j).length]]⟩), (1, some ⟨40, 2, dr ((larR k j).map Row.row)⟩)], 2⟩) (fun j => j ≤ m) (fun j => m - j) 0 ?_ (Nat.zero_le _) ?_
  · simp only [show larR k 0 = [] from rfl]
    refine weak_of [(0, some 12), (1, none)] rfl (by simp [upT, up, upL, push_cast]) (by simp [upH, upR, upL, up, push_cast]) (by simp [namesOk, push_cast]) (by simp [olds])
  · intro j hj
    refine Nav.imp ?_
    refine awp_region cx [] fun K hK => ?_
    simp [push_cast]
    repeat (refine And.intro (by clear hK; intros; first | omega | (simp_all; done) | (simp_all <;> omega)) ?_)
    refine hK _ ?_; clear hK K; refine Nav.imp ?_
    refine awp_cond (b := decide ((j : Int) < m)) (by simp [push_cast]) (fun hb => ?_) (fun hb => ?_) <;> (refine Nav.imp ?_)
    · have hlt : j < m := by simpa using hb
      have e0 := wrap_i64 (n := (j : Int) + 1) (by omega) (by omega)
      have hnx := hnext j
      have hln := hlen j
      generalize larR k j = X at *
      refine awp_region cx [(6, .f (encRuns [⟨-4096, (k : Int) - 4096⟩]))] fun K hK => ?_
      simp [push_cast, w7, Run.row]
      repeat (refine And.intro (by clear hK; intros; first | omega | (simp_all; done) | (simp_all <;> omega)) ?_)
      refine hK _ ?_; clear hK K; refine Nav.imp ?_
      refine awp_region cx [] fun K hK => ?_
      simp [push_cast, e0]
      repeat (refine And.intro (by clear hK; intros; first | omega | (simp_all; done) | (simp_all <;> omega)) ?_)
      refine hK _ ?_; clear hK K; refine Nav.imp ?_
      refine ⟨j + 1, hlt, by omega, ?_⟩
      rw [hnx]
      refine weak_of [(0, some 0), (1, some 14)] rfl (by simp [upT, up, upL, push_cast, Row.row, Run.row]) (by simp [upH, upR, upL, up, push_cast, Row.row, Run.row]) (by simp [namesOk, push_cast]) (by simp [olds])
    · have hje : j = m := by simp at hb; omega
      rw [hje]
      generalize larR k m = X at *
      generalize picS X = p at *
      refine awp_freeze 1 (X.map Row.row) rfl (by simp [push_cast]) fun K hK => ?_
      simp [push_cast, St.fz, fzT, fzH, fzO, fz, fzL, fzR, fzR_dr, fzR_app, fzR_set, fzL_map]
      refine hK _ ?_; clear hK K; refine Nav.imp ?_
      refine awp_region cx [(1, .p (strD p))] fun K hK => ?_
      simp [push_cast, c1]
      repeat (refine And.intro (by clear hK; intros; first | omega | (simp_all; done) | (simp_all <;> omega)) ?_)
      refine hK _ ?_; clear hK K; refine Nav.imp ?_
      by_cases hbig : 65536 < pr
      · have hb2 : decide ((65536 : Int) < pr) = true := by simp; omega
        have hp := p1 hbig
        subst hp
        have o1 := fun (x y : Operand) (yt : TypeId) => opres_eq (P := Tryd.prog) (x := x) (y := y) (yt := yt) str_und [] []
        rw [show (([] : List UInt8) == []) = true from rfl] at o1
        refine awp_region cx [] fun K hK => ?_
        simp [push_cast, w8, hpr, w9]
        repeat (refine And.intro (by clear hK; intros; first | omega | (simp_all; done) | (simp_all <;> omega)) ?_)
        refine hK _ ?_; clear hK K; refine Nav.imp ?_
        refine awp_cond (b := true) (by simp [push_cast, hb2]) (fun hb => ?_) (fun hb => ?_) <;> (refine Nav.imp ?_)
        · refine awp_region cx [(1, .p (.bool true)), (3, .p (.bool true))] fun K hK => ?_
          simp [push_cast, c0, o1]
          repeat (refine And.intro (by clear hK; intros; first | omega | (simp_all; done) | (simp_all <;> omega)) ?_)
          refine hK _ ?_; clear hK K; refine Nav.imp ?_
          simp [push_cast]
        · simp at hb
      · have hb2 : decide ((65536 : Int) < pr) = false := by simp; omega
        obtain ⟨q1, q2, q3⟩ := p2 (by omega)
        have hq : ((p.length : Int) == (pr : Int)) = true := by simp [q1]
        have o1 := fun (u v : Operand) => opres_index (P := Tryd.prog) (x := u) (y := v) str_und p .i64 0 35 (by omega) (by simpa using q2)
        have o2 := fun (u v : Operand) => opres_index (P := Tryd.prog) (x := u) (y := v) str_und p .i64 (k : Int) 10 (by omega) (by simpa using q3)
        refine awp_region cx [] fun K hK => ?_
        simp [push_cast, w8, hpr, w9]
        repeat (refine And.intro (by clear hK; intros; first | omega | (simp_all; done) | (simp_all <;> omega)) ?_)
        refine hK _ ?_; clear hK K; refine Nav.imp ?_
        refine awp_cond (b := false) (by simp [push_cast, hb2]) (fun hb => ?_) (fun hb => ?_) <;> (refine Nav.imp ?_)
        · simp at hb
        · refine awp_region cx [(9, .p (.int .u8 35)), (15, .p (.int .u8 10)), (19, .p (.bool true))] fun K hK => ?_
          simp [push_cast, c0, o1, o2, w8, hpr, w9, q1]
          repeat (refine And.intro (by clear hK; intros; first | omega | (simp_all; done) | (simp_all <;> omega)) ?_)
          refine hK _ ?_; clear hK K; refine Nav.imp ?_
          simp [push_cast]
end Go.Proofs.YtgicofpllopjmaaDoor

namespace Go.Proofs.YtgicofpllopjmaaDoor
open Go.Abs Go.ChangeShapes Go.WideShapes Go.ChangeAt Go.RowKit

end Go.Proofs.YtgicofpllopjmaaDoor
