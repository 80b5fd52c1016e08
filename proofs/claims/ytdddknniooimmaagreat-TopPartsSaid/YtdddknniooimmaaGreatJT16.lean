/-
  Texts of this seat put together: BD5, BW9, BW11, P1, P2, TR1, AbsE, AbsF.
-/
import Derived.Test.YtdddknniooimmaaGreatJT15
import Derived.Test.YtdddknniooimmaaGreatJT8
import Derived.Test.YtdddknniooimmaaGreatJT4
import Derived.Shelf.SlSortCmp.NoneTotal
import Derived.Lib.QuietBelow
set_option linter.unusedVariables false
set_option linter.unusedSimpArgs false
set_option linter.unusedSectionVars false
set_option maxRecDepth 100000
namespace Go.Proofs.YtdddknniooimmaaGreat
open Go.Abs


def Hd.dx : Hd -> Int | .e => 1 | .n => 0 | .w => -1 | .s => 0
def Hd.dy : Hd -> Int | .e => 0 | .n => 1 | .w => 0 | .s => -1

abbrev polyRow (P : List zf) : List D := [zaj P]
abbrev zkh (l : List (List zf)) : D := .sl (l.map polyRow)

structure Ax where
 num : Int
 den : Int
 speed : Int
 accel : Int
 jerk : Int
 lo : Int
 hi : Int
abbrev Ax.row (a : Ax) : List D := [.int .i64 a.num, .int .i64 a.den, .int .i64 a.speed, .int .i64 a.accel, .int .i64 a.jerk, .int .i64 a.lo, .int .i64 a.hi]
structure Mach where
 a : Ax
 b : Ax
 c : Ax
 d : Ax
 xy : Bool
 ticks : Int
abbrev Mach.row (m : Mach) : List D := [.int .i64 m.a.num, .int .i64 m.a.den, .int .i64 m.a.speed, .int .i64 m.a.accel, .int .i64 m.a.jerk, .int .i64 m.a.lo, .int .i64 m.a.hi, .int .i64 m.b.num, .int .i64 m.b.den, .int .i64 m.b.speed, .int .i64 m.b.accel, .int .i64 m.b.jerk, .int .i64 m.b.lo, .int .i64 m.b.hi, .int .i64 m.c.num, .int .i64 m.c.den, .int .i64 m.c.speed, .int .i64 m.c.accel, .int .i64 m.c.jerk, .int .i64 m.c.lo, .int .i64 m.c.hi, .int .i64 m.d.num, .int .i64 m.d.den, .int .i64 m.d.speed, .int .i64 m.d.accel, .int .i64 m.d.jerk, .int .i64 m.d.lo, .int .i64 m.d.hi, .bool m.xy, .int .i64 m.ticks]
def Mach.ax (m : Mach) : Nat -> Ax
 | 0 => m.a
 | 1 => m.b
 | 2 => m.c
 | _ => m.d

theorem floor_facts (a b : Int) (hb : 0 < b) : (0 <= a -> a.tdiv b = a / b) /\ (a < 0 -> a.tmod b = 0 -> a.tdiv b = a / b) /\ (a < 0 -> a.tmod b ≠ 0 -> a.tdiv b - 1 = a / b) := by
 refine ⟨fun h => Int.tdiv_eq_ediv_of_nonneg h, ?_, ?_⟩
 all_goals
  intro ha hm;obtain ⟨n, rfl⟩ : ∃ n : Int, a = -n := ⟨-a, by omega⟩
  rw [Int.neg_tmod, Int.tmod_eq_emod_of_nonneg (by omega)] at hm;rw [Int.neg_tdiv, Int.tdiv_eq_ediv_of_nonneg (by omega)];have h1 := Int.mul_ediv_add_emod n b;have h2 := Int.emod_nonneg n (show b ≠ 0 by omega);have h3 := Int.emod_lt_of_pos n hb
 ·have := (Int.ediv_emod_unique (a := -n) (b := b) (r := 0) (q := -(n / b)) hb).2 ⟨by rw [Int.mul_neg]; omega, by omega, by omega⟩;exact this.1.symm
 ·have := (Int.ediv_emod_unique (a := -n) (b := b) (r := b - n % b) (q := -(n / b) - 1) hb).2 ⟨by rw [Int.mul_sub, Int.mul_neg, Int.mul_one]; omega, by omega, by omega⟩;exact this.1.symm
theorem div_range {a b : Int} (hb : 0 < b) (h1 : -9223372036854775808 <= a) (h2 : a <= 9223372036854775807) : -9223372036854775808 <= a / b /\ a / b <= 9223372036854775807 := by
 have h3 := Int.mul_ediv_add_emod a b;have h4 := Int.emod_nonneg a (show b ≠ 0 by omega);have h5 := Int.emod_lt_of_pos a hb;constructor
 ·exact (Int.le_ediv_iff_mul_le hb).2 (by
   have : (-9223372036854775808 : Int) * b <= -9223372036854775808 * 1 := Int.mul_le_mul_of_nonpos_left (by omega) (by omega);omega)
 ·by_cases q : 0 <= a
  ·have := Int.ediv_le_self b q; omega
  ·have : a / b < 0 := Int.ediv_neg_of_neg_of_pos (by omega) hb;omega
def flD (a b : Int) : D := .tup [.int .i64 (a / b), .int .i64 0]
theorem zsv (a b : Int) (hb : 0 < b) (h1 : -9223372036854775808 <= a /\ a <= 9223372036854775807) (h2 : b <= 9223372036854775807) : PC Tryz.prog 160 [.int .i64 a, .int .i64 b] (.p (flD a b)) := by
 obtain ⟨f1, f2, f3⟩ := floor_facts a b hb;obtain ⟨r1, r2⟩ := div_range hb h1.1 h1.2;have n1 : (b == 0) = false := by simp; omega
 have n2 : (b == -1) = false := by simp; omega
 have n3 : decide (b < 0) = false := by simp; omega
 have n4 : ¬ b = 0 := by omega
 have n5 : ¬ b < 0 := by omega
 have fz : a < 0 -> a / b < 0 := fun h => Int.ediv_neg_of_neg_of_pos h hb;unfold flD;generalize hq : a.tdiv b = t at *;generalize hm : a.tmod b = u at *;have hu : -9223372036854775808 <= u /\ u <= 9223372036854775807 := by
  rw [<- hm];have k1 := Int.tmod_lt_of_pos a hb;have k2 := Int.lt_tmod_of_pos a hb;omega
 generalize a / b = z at *;have w2 := wI u;have ht : t = z \/ (t = z + 1 /\ z < 0) := by
  by_cases q : 0 <= a
  ·exact .inl (f1 q)
  ·by_cases q2 : u = 0
   ·exact .inl (f2 (by omega) q2)
   ·have := f3 (by omega) q2;exact .inr ⟨by omega, fz (by omega)⟩
 have e4 := wI t;refine pw cx Tryz.func160 Tryz.ntmps160 ?_;refine rg cx ?_;refine rg cx ?_;refine awp_cn false (by simp [push_cast, n1]) (fun hb => ?_) fun hb => ?_
 ·simp at hb
 ·refine rg cx ?_;refine awp_cn false (by simp [push_cast, n2]) (fun hb => ?_) fun hb => ?_
  ·simp at hb
  ·refine rx cx [] (fun K hK => by simp [push_cast, n4, hq, e4]; (repeat refine ob ?_); exact hK) ?_;refine rx cx [] (fun K hK => by simp [push_cast, n4, hm, w2, n3]; (repeat refine ob ?_); exact hK) ?_;by_cases q : a < 0 /\ u ≠ 0
   ·have e := f3 q.1 q.2;have w3 : IntKind.i64.wrap (t - 1) = z := by rw [wrap_i64 (by omega) (by omega)]; exact e
    have q1 := q.1;have q2 : (u == 0) = false := by simp; exact q.2
    refine awp_cn true (by simp [push_cast, q1, q2, q.2]) (fun hb => ?_) fun hb => ?_
    ·refine rx cx [] (fun K hK => by simp [push_cast, w3]; (repeat refine ob ?_); exact hK) ?_;refine rg cx ?_;simp [push_cast]
    ·simp at hb
   ·have e : t = z := by
     by_cases q0 : 0 <= a
     ·exact f1 q0
     ·exact f2 (by omega) (by
       apply Classical.byContradiction
       intro hn; exact q ⟨by omega, hn⟩)
    subst e;have hx : (u != 0 && decide (a < 0)) = false := by simp; omega
    refine awp_cn false (by simp [push_cast, hx]) (fun hb => ?_) fun hb => ?_
    ·simp at hb
    ·refine rg cx ?_;simp [push_cast]

theorem wrap_u64 {n : Int} (h1 : 0 <= n) (h2 : n <= 18446744073709551615) : IntKind.u64.wrap n = n := by
 simp [IntKind.wrap, IntKind.bits, IntKind.signed];omega

abbrev nearU (p : zf) : Prop := (-65536 <= p.x /\ p.x <= 65536) /\ -65536 <= p.y /\ p.y <= 65536
def zlx (l : List (List zf)) : Nat := (l.map List.length).sum
theorem psum_take {l : List (List zf)} {i : Nat} {P : List zf} (h : l[i]? = some P) : zlx (l.take (i + 1)) = zlx (l.take i) + P.length := by
 unfold zlx;rw [zat h]; simp
theorem psum_le (l : List (List zf)) (i : Nat) : zlx (l.take i) <= zlx l := by
 have : zlx l = zlx (l.take i) + zlx (l.drop i) := by
  unfold zlx;rw [<- List.sum_append, <- List.map_append, List.take_append_drop]
 omega
set_option maxHeartbeats 4000000 in
theorem check_ok (l : List (List zf)) (hs : zlx l <= 16384) (hl : l.length <= 100000) (hn : ∀ P ∈ l, ∀ p ∈ P, nearU p) : PC Tryz.prog 108 [zkh l, .int .i64 40] (.p (.int .i64 0)) := by
 have hpt := psum_le l;have h0 : zlx (l.take 0) = 0 := rfl;have hend : zlx (l.take l.length) = zlx l := by rw [List.take_length]
 refine pw cx Tryz.func108 Tryz.ntmps108 ?_;refine rg cx ?_;refine rg cx ?_;refine awp_cd false (fun hb => ?_) fun hb => ?_
 ·simp at hb
 ·refine rg cx ?_;refine rg cx ?_;refine zu (β := Nat) (fun i => ⟨70, [(0, .d (zkh l)), (5, .d (.int .i64 (zlx (l.take i) : Nat))), (23, .d (zkh l)), (24, .d (.int .i64 l.length)), (25, .d (.int .i64 i))], [], 0⟩) (fun i => i <= l.length) (fun i => l.length - i) 0 ?_ (Nat.zero_le _) ?_
  ·refine wq [] (by simp [upT, upH, upR, upL, up, push_cast, zlx])
  ·intro i hi;refine Nav.imp ?_;refine rg cx ?_;refine awp_cd (decide ((i : Int) < l.length)) (fun hb => ?_) fun hb => ?_
   ·have hlt : i < l.length := by simpa using hb
    obtain ⟨P, hP⟩ := zap hlt;have e1 := wI ((i : Int) + 1);have hx := psum_take hP;have h1 := hpt (i + 1);have h2 := hpt i;generalize hN1 : zlx (l.take (i + 1)) = N1 at *;generalize zlx (l.take i) = N0 at *;have w1 := wI ((N0 : Int) + P.length);have hN2 : ((N1 : Nat) : Int) = (N0 : Int) + P.length := by omega
    refine rx cx [] (fun K hK => by simp [push_cast, hP]; (repeat refine ob ?_); exact hK) ?_;refine rx cx [] (fun K hK => by simp [push_cast, w1]; (repeat refine ob ?_); exact hK) ?_;refine rx cx [] (fun K hK => by simp [push_cast, e1]; (repeat refine ob ?_); exact hK) ?_;refine ⟨i + 1, hlt, by omega, ?_⟩;refine wq [] (by simp [upT, upH, upR, upL, up, push_cast, hN1, hN2])
   ·have hie : i = l.length := by simp at hb; omega
    subst hie;rw [hend];have hle : ¬ (16384 : Int) < (zlx l : Nat) := by omega
    refine rx cx [] (fun K hK => by simp [push_cast, hle]; (repeat refine ob ?_); exact hK) ?_;refine awp_cn false (by simp [push_cast, hle]) (fun hb => ?_) fun hb => ?_
    ·simp at hb
    ·refine rg cx ?_;refine zu (β := Nat) (fun i => ⟨70, [(37, .d (zkh l)), (38, .d (.int .i64 l.length)), (39, .d (.int .i64 i))], [], 0⟩) (fun i => i <= l.length) (fun i => l.length - i) 0 ?_ (Nat.zero_le _) ?_
     ·refine wk []
     ·intro i hi;refine Nav.imp ?_;refine rg cx ?_;refine awp_cd (decide ((i : Int) < l.length)) (fun hb => ?_) fun hb => ?_
      ·have hlt : i < l.length := by simpa using hb
       obtain ⟨P, hP⟩ := zap hlt;have hPl := psum_take hP;have hPl2 := hpt (i + 1);have e0 := wI ((i : Int) + 1);have hnP := hn P (List.mem_of_getElem? hP);refine rx cx [] (fun K hK => by simp [push_cast, hP]; (repeat refine ob ?_); exact hK) ?_;refine rg cx ?_;refine zu (β := Nat) (fun k => ⟨70, [(37, .d (zkh l)), (38, .d (.int .i64 l.length)), (39, .d (.int .i64 i)), (44, .d (zaj P)), (45, .d (.int .i64 P.length)), (46, .d (.int .i64 k))], [], 0⟩) (fun k => k <= P.length) (fun k => P.length - k) 0 ?_ (Nat.zero_le _) ?_
       ·refine wk []
       ·intro k hk;refine Nav.imp ?_;refine rg cx ?_;refine awp_cd (decide ((k : Int) < P.length)) (fun hb => ?_) fun hb => ?_
        ·have hkl : k < P.length := by simpa using hb
         obtain ⟨p, hp⟩ := zap hkl;obtain ⟨n1, n2⟩ := hnP p (List.mem_of_getElem? hp);have e1 := wI ((k : Int) + 1);have g1 : ¬ p.x < -65536 := by omega
         have g2 : ¬ 65536 < p.x := by omega
         have g3 : ¬ p.y < -65536 := by omega
         have g4 : ¬ 65536 < p.y := by omega
         refine rx cx [] (fun K hK => by simp [push_cast, hp]; (repeat refine ob ?_); exact hK) ?_;refine rx cx [] (fun K hK => by simp [push_cast, g1, g2, g3, g4]; (repeat refine ob ?_); exact hK) ?_;refine awp_cn false (by simp [push_cast, g1, g2, g3, g4]) (fun hb => ?_) fun hb => ?_
         ·simp at hb
         ·refine rx cx [] (fun K hK => by simp [push_cast, e1]; (repeat refine ob ?_); exact hK) ?_;refine ⟨k + 1, hkl, by omega, ?_⟩;refine wk []
        ·have hke : k = P.length := by simp at hb; omega
         subst hke;refine rx cx [] (fun K hK => by simp [push_cast, e0]; (repeat refine ob ?_); exact hK) ?_;refine ⟨i + 1, hlt, by omega, ?_⟩;refine wk []
      ·refine rg cx ?_;simp [push_cast]
structure Edg where
 lx : Int
 ly : Int
 hx : Int
 hy : Int
 s : Int
 deriving DecidableEq
abbrev Edg.row (e : Edg) : List D := [.int .i64 e.lx, .int .i64 e.ly, .int .i64 e.hx, .int .i64 e.hy, .int .i64 e.s]
theorem center_ok (y : Int) (h : -4096 <= y /\ y <= 4096) : PC Tryz.prog 161 [.int .i64 y, .int .i64 40] (.p (.int .i64 (y * 40 + 20))) := by
 have w1 := wI (y * 40);have w2 := wI (y * 40 + 20);have w3 := wI 20;refine pw cx Tryz.func161 Tryz.ntmps161 ?_;refine rg cx ?_;refine rx cx [] (fun K hK => by simp [push_cast, w1, w2, w3]; (repeat refine ob ?_); exact hK) ?_;simp [push_cast]
abbrev zju (p : Int × Int) : List D := [.int .i64 p.1, .int .i64 p.2]
theorem cross4_ok (s cy : Int) (h : 80 <= cy /\ cy <= 200) : PC Tryz.prog 162 [.agg (Edg.row ⟨160, 80, 160, 200, s⟩), .int .i64 cy, .int .i64 40] (.p (.agg (zju (4, s)))) := by
 have c1 := zsv (-16800) 4800 (by omega) (by omega) (by omega);have hf : flD (-16800) 4800 = .tup [.int .i64 (-4), .int .i64 0] := rfl;rw [hf] at c1;have w1 := wI 120;have w2 := wI 19200;have w3 := wI 0;have w4 := wI (cy - 80);have w5 := wI 20;have w6 := wI 2400;have w7 := wI 16800;have w8 := wI (-16800);have w9 := wI 4800;have w10 := wI 4;refine pw cx Tryz.func162 Tryz.ntmps162 ?_;refine rg cx ?_;refine rx cx [] (fun K hK => by simp [push_cast, w1]; (repeat refine ob ?_); exact hK) ?_;refine rx cx [] (fun K hK => by simp [push_cast, w1, w2, w3, w4, w5, w6, w7]; (repeat refine ob ?_); exact hK) ?_;refine rx cx [(5, .p (.tup [.int .i64 (-4), .int .i64 0]))] (fun K hK => by simp [push_cast, c1, w8, w9]; (repeat refine ob ?_); exact hK) ?_;refine rx cx [] (fun K hK => by simp [push_cast, w10]; (repeat refine ob ?_); exact hK) ?_;simp [push_cast]
theorem cross1_ok (s cy : Int) (h : 80 <= cy /\ cy <= 200) : PC Tryz.prog 162 [.agg (Edg.row ⟨40, 80, 40, 200, s⟩), .int .i64 cy, .int .i64 40] (.p (.agg (zju (1, s)))) := by
 have c1 := zsv (-2400) 4800 (by omega) (by omega) (by omega);have hf : flD (-2400) 4800 = .tup [.int .i64 (-1), .int .i64 0] := rfl;rw [hf] at c1;have w1 := wI 120;have w2 := wI 4800;have w3 := wI 0;have w4 := wI (cy - 80);have w5 := wI 20;have w6 := wI 2400;have w8 := wI (-2400);have w10 := wI 1;refine pw cx Tryz.func162 Tryz.ntmps162 ?_;refine rg cx ?_;refine rx cx [] (fun K hK => by simp [push_cast, w1]; (repeat refine ob ?_); exact hK) ?_;refine rx cx [] (fun K hK => by simp [push_cast, w1, w2, w3, w4, w5, w6]; (repeat refine ob ?_); exact hK) ?_;refine rx cx [(5, .p (.tup [.int .i64 (-1), .int .i64 0]))] (fun K hK => by simp [push_cast, c1, w8, w2]; (repeat refine ob ?_); exact hK) ?_;refine rx cx [] (fun K hK => by simp [push_cast, w10]; (repeat refine ob ?_); exact hK) ?_;simp [push_cast]
end Go.Proofs.YtdddknniooimmaaGreat

namespace Go.Abs
variable [Flag]

theorem y_core {P : Program} {f : FuncId} {g : G} {obj : Nat -> Option Ob} {w : World} (h : zah g obj w) {c : XC} {ti : List (Nat × Nat)} {N : Nat -> Prop} (hid : ∀ x, N x -> ¬ g.used x) (hti : ∀ x j, find ti x = some j -> N x \/ ∃ i, (i, j) ∈ c.pin /\ find c.σ i = some x) {args : List AV} (hob : (zen c.σ c.as args /\ zka obj c.σ c.hp /\ zdg (c.σ.map (·.2)) = true /\ c.σ.map (·.1) = c.hp.map (·.1) /\ zdg (ti.map (·.1)) = true /\ zdg (ti.map (·.2)) = true))
  {v : Value} {w' : World} {g1 : G} (hH1 : zah g1 (zfy c.hp') w') (hr1 : zi g1 w' c.r v) (hs1 : zam (via g c.σ c.hp) w g1 w') (hp1 : ∀ i j, (i, j) ∈ c.pin -> g1.loc j = (via g c.σ c.hp).loc i) : AfterN g obj w N (zko P f c ti obj args) v w' := by
 obtain ⟨ha, hhp, hσ0, hdom, ht10, ht20⟩ := hob;have hσ := zes hσ0;have ht1 := zes ht10;have ht2 := zes ht20;have hin : ∀ {i x}, find c.σ i = some x -> (find c.hp i).isSome = true := fun {i x} hi => by
  have := zhs hi;rw [hdom] at this;obtain ⟨v, hv⟩ := zev this;rw [hv]; rfl
 let g0 : G := via g c.σ c.hp
 have hloc0 : ∀ i x, find c.σ i = some x -> g0.loc i = g.loc x := fun i x hi => zhk hi;have hused0 : ∀ i x, find c.σ i = some x -> g0.used i := fun i x hi => hin hi;have hl0 : ∀ i L, g0.loc i = some L -> ∃ x, find c.σ i = some x /\ g.loc x = some L := fun i L hL => zjd hL;have hH0 : zah g0 (zfy c.hp) w := zsk h hhp hσ hdom;have hown0 : ∀ b, g0.owns b -> ∃ x, x ∈ c.σ.map (·.2) /\ ∃ L, g.loc x = some L /\ L.virt = false /\ L.blk = b := by
  rintro b ⟨i, L, hL, hv, hb⟩;obtain ⟨x, h1, h2⟩ := hl0 i L hL;exact ⟨x, znv h1, L, h2, hv, hb⟩
 have hkeep : ∀ x L, x ∉ c.σ.map (·.2) -> g.loc x = some L -> L.virt = false -> ¬ g0.owns L.blk := by
  rintro x L hx hL hv ho;obtain ⟨y, hy, M, hM, hvM, hb⟩ := hown0 _ ho;have := h.inj y x M L hM hL hvM hv hb;exact hx (this ▸ hy)
 let g2 : G := ⟨g1.ro, fun x => match find ti x with | some j => g1.loc j | none => if x ∈ c.σ.map (·.2) then none else g.loc x, fun x => g.used x \/ find ti x ≠ none⟩
 have hg2t : ∀ x j, find ti x = some j -> g2.loc x = g1.loc j := fun x j hx => by simp only [g2, hx]
 have hg2n : ∀ x, find ti x = none -> g2.loc x = if x ∈ c.σ.map (·.2) then none else g.loc x := fun x hx => by simp only [g2, hx]
 have hτ : ∀ i x, find (swp ti) i = some x -> find ti x = some i := fun i x hi => zva ht1 ht2 hi;have hlater : zbt g w g2 w' := by
  refine ⟨fun b hb => ⟨hs1.ro b hb, ?_⟩, fun x hx => .inl hx, fun x hx => ?_⟩
  ·refine hs1.block b (h.ro b hb) fun ho => ?_;obtain ⟨y, hy, M, hM, hvM, hbb⟩ := hown0 b ho;exact ((h.live y M hM).2 hvM).2 (hbb ▸ hb)
  ·cases hf : find ti x with
   | none =>
    rw [hg2n x hf];split
    ·exact .inr rfl
    ·exact .inl rfl
   | some j =>
    rcases hti x j hf with hN | ⟨i, h1, h2⟩
    ·exact absurd hx (hid x hN)
    ·left
     rw [hg2t x j hf, hp1 i j h1, hloc0 i x h2]
 have hobj2 : ∀ x, zcm obj (zko P f c ti obj args).wr x = match find ti x with
   | some j => (find c.hp' j).map fun o => ⟨o.elem, o.m, dnR (swp ti) o.rows⟩
   | none => if x ∈ c.σ.map (·.2) then none else obj x := by
  intro x;simp only [zko];rw [zje, zhl (by rw [zoi]; exact ht1), zhl (by rw [zns]; exact hσ), zoj, znt];cases find ti x with
  | some j => rfl
  | none => simp only [Option.map_none, Option.getD_none]; split <;> rfl
 refine ⟨g2, ⟨?_, ?_, ?_, ?_, hH1.ro⟩, ?_, hlater, ?_, ?_⟩
 ·intro x o ho;rw [hobj2] at ho;cases hf : find ti x with
  | some j =>
   rw [hf] at ho;simp only [Option.map_eq_some_iff] at ho;obtain ⟨o1, ho1, rfl⟩ := ho;obtain ⟨L, hL, hok⟩ := hH1.own j o1 ho1;refine ⟨L, by rw [hg2t x j hf]; exact hL, hok.m, hok.pos, by simpa only [zpx] using hok.len, fun hv => by simp [hok.virt hv, dnR], fun hv => ?_, fun hv => ⟨(hok.ents hv).1, (hok.ents hv).2.imp fun es he => he.imp fun clock he => ⟨he.1, he.2.1, zwp (fun i y hy => Or.inr (by rw [hτ i y hy]; simp)) (fun i y hy => hg2t y i (hτ i y hy)) (fun _ hb => hb) _ _ he.2.2⟩⟩⟩;obtain ⟨cur, c1, c2, c3, c5⟩ := hok.cells hv;refine ⟨cur, c1, c2, c3, fun k row hi => ?_⟩;obtain ⟨r0, hr0, rfl⟩ := dnR_get _ _ k row hi;obtain ⟨d1, d2⟩ := c5 k r0 hr0;refine ⟨by rw [zpy]; exact d1, fun q av hq => ?_⟩;obtain ⟨a0, ha0, rfl⟩ := dnL_get _ _ q av hq;obtain ⟨u, q1, q2, q3⟩ := d2 q a0 ha0;exact ⟨u, q1, q2, zrz (fun i y hy => Or.inr (by rw [hτ i y hy]; simp)) (fun i y hy => hg2t y i (hτ i y hy)) (fun _ hb => hb) _ _ q3⟩
  | none =>
   rw [hf] at ho;simp only at ho;split at ho
   ·cases ho
   ·rename_i hx;obtain ⟨L, hL, hok⟩ := h.own x o ho;exact ⟨L, by rw [hg2n x hf, if_neg hx]; exact hL, hok.later hlater fun hv => hs1.block _ ((h.live x L hL).2 hv).1 (hkeep x L hx hL hv)⟩
 ·intro x hx;rw [hobj2] at hx;cases hf : find ti x with
  | some j =>
   rw [hf] at hx;rw [hg2t x j hf];simp only [Option.map_eq_none_iff] at hx;exact hH1.gone j hx
  | none =>
   rw [hf] at hx;simp only at hx;rw [hg2n x hf];split
   ·rfl
   ·rename_i hn; rw [if_neg hn] at hx; exact h.gone x hx
 ·intro x L hL;cases hf : find ti x with
  | some j =>
   rw [hg2t x j hf] at hL;exact ⟨.inr (by rw [hf]; simp), (hH1.live j L hL).2⟩
  | none =>
   rw [hg2n x hf] at hL;split at hL
   ·cases hL
   ·rename_i hx;refine ⟨.inl (h.live x L hL).1, fun hv => ⟨Nat.lt_of_lt_of_le ((h.live x L hL).2 hv).1 hs1.size, fun hro => ?_⟩⟩;rcases hs1.ro' _ hro with h1 | h1 | h1
    ·exact ((h.live x L hL).2 hv).2 h1
    ·have := ((h.live x L hL).2 hv).1; omega
    ·exact hkeep x L hx hL hv h1
 ·intro x y L L' hL hL' hv hv' hb;have mix : ∀ x y L L', (∃ j, find ti x = some j) -> find ti y = none -> g2.loc x = some L -> g2.loc y = some L' -> L.virt = false -> L'.virt = false -> L.blk = L'.blk -> False := by
   rintro x y L L' ⟨j, hx⟩ hy hL hL' hv hv' hb;rw [hg2t x j hx] at hL;rw [hg2n y hy] at hL';split at hL'
   ·cases hL'
   ·rename_i hny;rcases hs1.own L.blk ⟨j, L, hL, hv, rfl⟩ with h1 | h1
    ·have := ((h.live y L' hL').2 hv').1; omega
    ·exact hkeep y L' hny hL' hv' (hb ▸ h1)
  cases hx : find ti x with
  | some j =>
   cases hy : find ti y with
   | some k =>
    rw [hg2t x j hx] at hL;rw [hg2t y k hy] at hL';have := hH1.inj j k L L' hL hL' hv hv' hb;subst this;exact znx ht2 hx hy
   | none => exact (mix x y L L' ⟨j, hx⟩ hy hL hL' hv hv' hb).elim
  | none =>
   cases hy : find ti y with
   | some k => exact (mix y x L' L ⟨k, hy⟩ hx hL' hL hv' hv hb.symm).elim
   | none =>
    rw [hg2n x hx] at hL;rw [hg2n y hy] at hL';split at hL
    ·cases hL
    ·split at hL'
     ·cases hL'
     ·exact h.inj x y L L' hL hL' hv hv' hb
 ·refine ⟨hs1.os, hs1.tape, hs1.output, hs1.size, fun b hb hn => hs1.block b hb fun ho => hn ?_, ?_, fun b hb => hs1.ro b hb, fun b hb => ?_⟩
  ·obtain ⟨x, _, L, h1, h2, h3⟩ := hown0 b ho;exact ⟨x, L, h1, h2, h3⟩
  ·rintro b ⟨x, L, hL, hv, hb⟩;cases hf : find ti x with
   | some j =>
    rw [hg2t x j hf] at hL;rcases hs1.own b ⟨j, L, hL, hv, hb⟩ with h1 | h1
    ·exact .inl h1
    ·obtain ⟨y, _, M, q1, q2, q3⟩ := hown0 b h1;exact .inr ⟨y, M, q1, q2, q3⟩
   | none =>
    rw [hg2n x hf] at hL;split at hL
    ·cases hL
    ·exact .inr ⟨x, L, hL, hv, hb⟩
  ·rcases hs1.ro' b hb with h1 | h1 | h1
   ·exact .inl h1
   ·exact .inr (.inl h1)
   ·obtain ⟨y, _, M, q1, q2, q3⟩ := hown0 b h1;exact .inr (.inr ⟨y, M, q1, q2, q3⟩)
 ·intro k hk;rcases hk with hk | hk
  ·exact .inl hk
  ·cases hf : find ti k with
   | none => exact absurd hf hk
   | some j =>
    rcases hti k j hf with hN | ⟨i, h1, h2⟩
    ·exact .inr hN
    ·have h3 := hin h2;obtain ⟨o, ho⟩ := Option.isSome_iff_exists.1 h3;obtain ⟨x', o', q1, q2, _⟩ := znp hhp i o ho;rw [h2] at q1;cases q1;obtain ⟨L, hL, _⟩ := h.own k o' q2;exact .inl (h.live k L hL).1
 ·exact zrz (fun i y hy => Or.inr (by rw [hτ i y hy]; simp)) (fun i y hy => hg2t y i (hτ i y hy)) (fun _ hb => hb) _ _ hr1

def PXE (P : Program) (f : FuncId) (av : List AV) (hp : List (Nat × Ob)) (pin : List (Nat × Nat)) (Out : List (Nat × Ob) -> AV -> Prop) : Prop :=
 zha P f /\ ∀ (g : G) (w : World) (vs : List Value), zah g (zfy hp) w -> (∀ id, g.used id -> (find hp id).isSome = true) -> zk g w av vs ->
  Calls P f vs.toArray w fun e w' => ∃ v g' hp' r, e = .returned v /\ Out hp' r /\ zah g' (zfy hp') w' /\ zi g' w' r v /\ zam g w g' w' /\ ∀ i j, (i, j) ∈ pin -> g'.loc j = g.loc i

def obE (c : XC) (ti : List (Nat × Nat)) (obj : Nat -> Option Ob) (args : List AV) : Prop :=
 (zen c.σ c.as args /\ zka obj c.σ c.hp /\ zdg (c.σ.map (·.2)) = true /\ c.σ.map (·.1) = c.hp.map (·.1) /\ zdg (ti.map (·.1)) = true /\ zdg (ti.map (·.2)) = true)
theorem y_soundE {P : Program} {f : FuncId} {g : G} {obj : Nat -> Option Ob} {w : World} (h : zah g obj w) {c : XC} {Out : List (Nat × Ob) -> AV -> Prop} {ti : List (Nat × Nat)} {N : Nat -> Prop} (hid : ∀ x, N x -> ¬ g.used x) (hti : ∀ x j, find ti x = some j -> N x \/ ∃ i, (i, j) ∈ c.pin /\ find c.σ i = some x) {args : List AV} {us : List Value} (hargs : zk g w args us)
  (hob : obE c ti obj args) (hpx : PXE P f c.as c.hp c.pin Out) :
  Calls P f us.toArray w fun e w' => ∃ v hp' r, e = .returned v /\ Out hp' r /\ AfterN g obj w N (zko P f { c with hp' := hp', r := r } ti obj args) v w' := by
 have hob0 := hob;obtain ⟨ha, hhp, hσ0, hdom, ht10, ht20⟩ := hob;have hσ := zes hσ0;have hin : ∀ {i x}, find c.σ i = some x -> (find c.hp i).isSome = true := fun {i x} hi => zlb hdom hi;have hH0 : zah (via g c.σ c.hp) (zfy c.hp) w := zsk h hhp hσ hdom;refine (hpx.2 (via g c.σ c.hp) w us hH0 (fun _ hk => hk) (zii (fun i x hi => hin hi) (fun i x hi => zhk hi) (fun _ hb => hb) ha hargs)).mono fun e w' ⟨v, g1, hp', r, he, hO, hH1, hr1, hs1, hp1⟩ => ⟨v, hp', r, he, hO, ?_⟩
 exact y_core (c := { c with hp' := hp', r := r }) h hid hti hob0 hH1 hr1 hs1 hp1

theorem zjs {P : Program} {ty : TypeId -> Option TI} (hc : Ctx P ty) (orc : List (Nat × Res)) {id : Nat} {l pre post : List Oper} {o : Oper} (hl : l = pre ++ o :: post) (hg : o.guard = none) {cl : Call} {fo : Operand} (ho : o.op = .call cl) (hcal : cl.callee = .value fo) (m : Nat) (c : XC) (Out : List (Nat × Ob) -> AV -> Prop) (fr : List (Nat × Nat)) {Q : Exit -> St -> Prop} {s : St}
  (h : ∀ K : St -> Prop, (∀ s', Q .normal s' -> K s') -> wpT ty P orc (l.map (·.dst)) s.nxt 0 pre { s with nxt := s.nxt + l.length + m } fun s1 =>
   match zks (s1.eval fo) with
   | some q => zix (s.nxt + pre.length) (m + 1) fr /\ obE c (fr ++ zrg c.σ c.pin) s1.obj (cl.args.toList.map s1.eval ++ q.2) /\ PXE P q.1 c.as c.hp c.pin Out /\ (match o.dst with | some d => d < s1.n | none => True) /\
     ∀ hp' r, Out hp' r -> wpT ty P orc (l.map (·.dst)) (s.nxt + m) (pre.length + 1) post (s1.app o.dst (zko P q.1 { c with hp' := hp', r := r } (fr ++ zrg c.σ c.pin) s1.obj (cl.args.toList.map s1.eval ++ q.2))) K
   | none => False) : AWp P (.region id l.toArray false) Q s := by
 intro g a w hr;refine wp_region ?_;have hgs : ∀ j : Nat, (l.map (·.dst))[j]? = (l.toArray[j]?).map fun o : Oper => o.dst := by intro j; simp
 have hlen : l.length = pre.length + 1 + post.length := by rw [hl]; simp; omega
 have hh := h _ fun _ hq => hq;have key : wpList P l.toArray (fun e a' w' => ∃ s' g', zcn s' g' a' w' /\ zam g w g' w' /\ Q e s') l a w := by
  have h2 := zfb (P := P) hc (orc := orc) (gs := l.map (·.dst)) (ops := l.toArray) hgs (base := s.nxt) (nxt := s.nxt + l.length + m)
   (Q := fun e a' w' => ∃ s' g', zcn s' g' a' w' /\ zam g w g' w' /\ Q e s') (g0 := g) (w0 := w) (l2 := o :: post) (en := pre.length) (n0 := s.n) (K := fun s1 =>
    match zks (s1.eval fo) with
    | some q => zix (s.nxt + pre.length) (m + 1) fr /\ obE c (fr ++ zrg c.σ c.pin) s1.obj (cl.args.toList.map s1.eval ++ q.2) /\ PXE P q.1 c.as c.hp c.pin Out /\ (match o.dst with | some d => d < s1.n | none => True) /\
      ∀ hp' r, Out hp' r -> wpT ty P orc (l.map (·.dst)) (s.nxt + m) (pre.length + 1) post (s1.app o.dst (zko P q.1 { c with hp' := hp', r := r } (fr ++ zrg c.σ c.pin) s1.obj (cl.args.toList.map s1.eval ++ q.2))) fun s' => Q .normal s'
    | none => False) ?_ pre 0 { s with nxt := s.nxt + l.length + m } g a w (by simp) rfl rfl ⟨hr.defers, hr.size, hr.tmp, fun id hu => by have := hr.used id hu; simpa using this, hr.heap⟩ (zam.refl g w) hh
  ·rw [<- hl] at h2; exact h2
  ·intro s1 g1 a1 w1 hnx hn0 hrel hst hk;simp only [wpList];have hw : Region.wanted o (yielded l.toArray a1.tmps) = true := by simp [Region.wanted, hg]
   rw [if_pos hw];left
   have hev : ∀ x : Operand, zi g1 w1 (s1.eval x) (a1.eval x) := fun x => zec hrel (fun _ => rfl) x;cases hq : zks (s1.eval fo) with
   | none => rw [hq] at hk; exact hk.elim
   | some q =>
    rw [hq] at hk;obtain ⟨hfr, hob, hpx, hd, hrest⟩ := hk;obtain ⟨k, caps⟩ := q;have hargs : zk g1 w1 (cl.args.toList.map s1.eval) (cl.args.toList.map a1.eval) := by
     refine zk.of_get (by simp) fun j av hj => ?_;rw [List.getElem?_map] at hj ⊢;cases hx : cl.args.toList[j]? with
     | none => rw [hx] at hj; cases hj
     | some x => rw [hx] at hj; cases hj; exact ⟨a1.eval x, rfl, hev x⟩
    have hf : ∃ cs : List Value, a1.eval fo = .func (.func k) #[] cs.toArray /\ zk g1 w1 caps cs := by
     have hfv := hev fo;unfold zks at hq;split at hq
     ·rename_i heq;cases hq;rw [heq] at hfv;simp only [zi, zv] at hfv;obtain ⟨cs, h1, h2⟩ := hfv;exact ⟨cs, h1, zk.of_ds h2⟩
     ·rename_i heq;split at hq
      case isFalse => cases hq
      rename_i hok;cases hq;rw [heq] at hfv;exact ztd hok hfv
     ·cases hq
    obtain ⟨cs, hcs, hrc⟩ := hf;obtain ⟨fn, hfn, hname, hbody⟩ := hpx.1;have hrun : (execOp a1.eval o).run P w1 = .ok (.enter k ((cl.args.toList.map a1.eval) ++ cs).toArray) w1 := by
     unfold execOp;simp only [ho, resolve, hcal, Deferred.ofValue, hcs, Sem.run_bind, Sem.run_pure, Result.andThen_ok, invoke, callFunc, run_program, hfn, hname, hbody, Bool.false_eq_true, if_false]
     congr 2
     simp
    have hys := y_soundE (N := fun x => s.nxt + pre.length <= x /\ x < s.nxt + pre.length + (m + 1)) hrel.heap (fun x hx hu => by have := hrel.used x hu; omega) (c := c) (ti := fr ++ zrg c.σ c.pin) (fun x j hxj => by
     rw [zpr] at hxj;cases hfx : find fr x with
     | some j' => exact .inl (zwc hfr hfx)
     | none =>
      rw [hfx] at hxj;exact .inr (zni hxj)) (hargs.append hrc) hob hpx
    refine ziu hrun (R := fun v w2 => ∃ hp' r, Out hp' r /\ AfterN g1 s1.obj w1 (fun x => s.nxt + pre.length <= x /\ x < s.nxt + pre.length + (m + 1)) (zko P k { c with hp' := hp', r := r } (fr ++ zrg c.σ c.pin) s1.obj (cl.args.toList.map s1.eval ++ caps)) v w2) (hys.mono fun e w2 ⟨v, hp', r, he, hO, hA⟩ => ⟨v, he, hp', r, hO, hA⟩) _ _ fun v w2 hA => ?_;obtain ⟨hp', r, hO, g2, k1, k2, k3, k4, k5⟩ := hA
    replace hrest := hrest hp' r hO
    have hput := zcb (U' := fun x => x < s.nxt + m + (pre.length + 1)) (dst := o.dst) hrel k1 k3 (fun x hx => by
     rcases k4 x hx with hx | hx
     ·have := hrel.used x hx; omega
     ·omega) k5 (fun d hd' => by rw [hd'] at hd; exact hd)
    have hn : (s1.app o.dst (zko P k { c with hp' := hp', r := r } (fr ++ zrg c.σ c.pin) s1.obj (cl.args.toList.map s1.eval ++ caps))).n = s1.n := by unfold St.app St.put; cases o.dst <;> rfl
    have hnx' : (s1.app o.dst (zko P k { c with hp' := hp', r := r } (fr ++ zrg c.σ c.pin) s1.obj (cl.args.toList.map s1.eval ++ caps))).nxt = s.nxt + l.length + m := by rw [<- hnx]; unfold St.app St.put; cases o.dst <;> rfl
    refine zfo (P := P) hc (orc := orc) (gs := l.map (·.dst)) (ops := l.toArray) hgs (base := s.nxt + m) (nxt := s.nxt + l.length + m) (K := fun s' => Q .normal s') (g0 := g) (w0 := w)
     (fun s' g' a' w' h1 h2 h3 => ⟨s', g', h1, h2, h3⟩) post (pre.length + 1) _ g2 _ w2 (by omega) hnx' ?_ (hst.trans k2) hrest
    rw [hn];exact ⟨hput.defers, hput.size, fun t => by rw [zku]; exact hput.tmp t, hput.used, by
     have : (s1.app o.dst (zko P k { c with hp' := hp', r := r } (fr ++ zrg c.σ c.pin) s1.obj (cl.args.toList.map s1.eval ++ caps))).obj = zcm s1.obj (zko P k { c with hp' := hp', r := r } (fr ++ zrg c.σ c.pin) s1.obj (cl.args.toList.map s1.eval ++ caps)).wr := funext (zkt s1 o.dst _);rw [this]; exact hput.heap⟩
 have := wpOps_eq_wpList (P := P) (ops := l.toArray) (Q := fun e a' w' => ∃ s' g', zcn s' g' a' w' /\ zam g w g' w' /\ Q e s') l 0 (by intro j; simp);rw [show List.range l.toArray.size = List.range' 0 l.length by simp [List.range_eq_range'], this];exact key
end Go.Abs

namespace Go.Abs
variable [Flag]
open Go.Shelf Go.RowKit Go.Lib Go.Sort Go.Proofs

def sortOut (e : TypeId) (k : Nat) (cf : List D -> List D -> Int) (rows : List (List D)) : List (Nat × Ob) -> AV -> Prop := fun hp' r => ∃ rows', rows'.Perm rows /\ (rows'.Pairwise fun a b => ¬ cf b a < 0) /\ hp' = [(0, ⟨e, k, dr rows'⟩)] /\ r = .tup []
theorem sortFunc_pxe {P : Program} {ρ : Ren} (L : SlLaysF0.n6 P ρ) {k : Nat} (hk0 : 0 < k) (aE : ∀ w, (isAgg (ρ.t 24)).run P w = .ok true w) (zE : ∀ w, (Go.sizeOf (ρ.t 24)).run P w = .ok k w) (hent : zha P (ρ.f 6)) {cg : FuncId}
  (eg : ∀ args w, (callFunc cg args).run P w = .ok (.enter cg args) w) {V : List D -> Prop} {cf : List D -> List D -> Int} (hc : zsj P cg V cf) (hO : zqg V cf) (e : TypeId) {rows : List (List D)} (hV : ∀ r ∈ rows, V r)
  (hn : 0 < rows.length) (hsz : rows.length < 4611686018427387904) (fv : AV)
  (hfv : ∀ g w v, zi g w fv v -> v = .func (.func cg) #[] #[]) :
  PXE P (ρ.f 6) [.hs 0 0 rows.length, fv] [(0, ⟨e, k, dr rows⟩)] [(0, 0)] (sortOut e k cf rows) := by
 refine ⟨hent, fun g w vs h hu hvs => ?_⟩;simp only [zk] at hvs;obtain ⟨v0, _, rfl, h0, v1, _, rfl, h1, rfl⟩ := hvs;have e1 := hfv g w v1 h1;obtain ⟨L0, hL, hok⟩ := h.own 0 ⟨e, k, dr rows⟩ (by simp [zfy, find]);have hkm : L0.m = k := hok.m;have hlenr : (dr rows).length = rows.length := by simp [dr]
 have hvirt : L0.virt = false := by
  cases hv : L0.virt with
  | false => rfl
  | true =>
   have h2 : (dr rows).length = 0 := by rw [show dr rows = [] from hok.virt hv]; rfl
   omega
 simp only [zi] at h0;have hflat : L0.virt = false /\ L0.map = false := by
  rcases h0.2 L0 hL with ⟨hv, _⟩ | ⟨hv, _⟩
  ·rw [hvirt] at hv; cases hv
  ·exact hv
 have hvm := hflat.2;obtain ⟨cur, hR, hcs, hcap, hrows⟩ := hok.cells hflat;have hR' := hR;obtain ⟨el0, fr0, hblk, hx1, hx2⟩ := hR';have e0 : v0 = .slice (some ⟨L0.blk, 0, none⟩) rows.length L0.cap := by
  rcases h0.2 L0 hL with ⟨hv, _⟩ | ⟨_, _, hv⟩
  ·rw [hvirt] at hv; cases hv
  ·rw [hv]; simp
 have hcapl : rows.length <= L0.cap := by have := hok.len hvm; rw [hlenr] at this; exact this
 have hblt : L0.blk < w.heap.size := (Array.getElem?_eq_some_iff.1 hblk).1;have hnro : ¬ g.ro L0.blk := ((h.live 0 L0 hL).2 hvirt).2;have hro : ∀ b, g.ro b -> b < w.heap.size /\ b ≠ L0.blk := fun b hb => ⟨h.ro b hb, fun e => hnro (e ▸ hb)⟩
 have hcsz : rows.length * k <= cur.size := by rw [hcs, hkm]; exact Nat.mul_le_mul_right k hcapl
 have hin : ∀ i, i < rows.length -> i * k + k <= cur.size := fun i hi => by
  have := Nat.mul_le_mul_right k (show i + 1 <= rows.length from hi);rw [Nat.add_mul, Nat.one_mul] at this; omega
 -- the cells of element i
 have hel : ∀ i (hi : i < rows.length), V rows[i] /\ (cur.toList.drop (i * k) |>.take k).length = k /\ zbk (cur.toList.drop (i * k) |>.take k) /\ zt g.ro w rows[i] (cur.toList.drop (i * k) |>.take k) := by
  intro i hi;have hrow := hrows i (rows[i].map AV.d) (by simp [dr, hi]);have hl : (cur.toList.drop (i * k) |>.take k).length = k := by
   have := hin i hi;simp only [List.length_take, List.length_drop, Array.length_toList]; omega
  have hget : ∀ j, j < k -> (cur.toList.drop (i * k) |>.take k)[j]? = cur[i * k + j]? := fun j hj => by
   rw [List.getElem?_take, if_pos hj, List.getElem?_drop, Array.getElem?_toList]
  have hrl : rows[i].length = k := by have := hrow.1; rw [hkm] at this; simpa using this
  refine ⟨hV _ (List.getElem_mem hi), hl, ?_, ?_⟩
  ·intro v hv;obtain ⟨j, hj⟩ := List.mem_iff_getElem?.1 hv;have hjk : j < k := by have := (List.getElem?_eq_some_iff.1 hj).1; omega
   rw [hget j hjk] at hj;obtain ⟨u, hu1, hu2, _⟩ := hrow.2 j (.d (rows[i][j]'(by omega))) (by simp [show j < rows[i].length by omega]);rw [hkm, hj] at hu1;cases hu1;exact hu2
  ·refine zt.of_get (by rw [hl, hrl]) fun j x hj => ?_;have hjk : j < k := by have := (List.getElem?_eq_some_iff.1 hj).1; omega
   obtain ⟨u, hu1, _, hu3⟩ := hrow.2 j (.d x) (by simp [hj]);rw [hkm] at hu1;exact ⟨u, by rw [hget j hjk, hu1], by simpa only [zi] using hu3⟩
 let mk : _root_.Fin rows.length -> Elt g.ro w V k := fun i => ⟨(rows[i.1], (cur.toList.drop (i.1 * k)).take k), hel i.1 i.2⟩
 let d : Array (Elt g.ro w V k) := Array.ofFn mk
 haveI : Inhabited (Elt g.ro w V k) := ⟨mk ⟨0, hn⟩⟩
 have hds : d.size = rows.length := by simp [d]
 have hdi : ∀ i (hi : i < rows.length), d[i]! = mk ⟨i, hi⟩ := fun i hi => by
  rw [getElem!_pos d i (by rw [hds]; exact hi)]; simp [d]
 have hdl : d.toList.map (fun x => x.1.1) = rows := by
  apply List.ext_getElem
  ·simp [d]
  ·intro i h1 h2;have hi : i < d.size := by simpa using h1
   rw [List.getElem_map, Array.getElem_toList];have e := hdi i h2;rw [getElem!_pos d i hi] at e;rw [e]
 have hH : HoldsK (Elt.enc g.ro w V k) k w L0.blk 0 d := by
  intro j hj;have hjs : j < rows.length * k := by simpa [hds] using hj
  have hdk : j / k < rows.length := Nat.div_lt_of_lt_mul (by rwa [Nat.mul_comm] at hjs);have hmod : j % k < k := Nat.mod_lt j hk0;have hdm : j / k * k + j % k = j := by rw [Nat.mul_comm]; exact Nat.div_add_mod j k
  rw [get_flatK _ _ _ _ (by rw [hds]; exact hjs), hdi _ hdk];have hlt : j < cur.size := by omega
  refine ⟨?_, ?_⟩
  ·simp only [World.cell?, hblk, Nat.zero_add];simp only [Option.isSome_none, Bool.false_eq_true, if_false, id_eq];have hl2 := (hel _ hdk).2.1;rw [getElem!_pos _ _ (by rw [show (Elt.enc g.ro w V k (mk ⟨j / k, hdk⟩)) = (cur.toList.drop (j / k * k)).take k from rfl, hl2]; exact hmod)];simp only [Elt.enc, mk, List.getElem_take, List.getElem_drop, Array.getElem_toList, hdm];exact Array.getElem?_eq_getElem hlt
  ·simpa using hR.open (o := j) hlt
 have hswo : SWO (ltOf fun x y : Elt g.ro w V k => cf x.1.1 y.1.1) := by
  refine ⟨fun x => ?_, fun x y z h1 h2 => ?_, fun x y z h1 h2 => ?_⟩
  ·simpa [ltOf] using hO.irrefl x.1.1 x.2.1
  ·simp only [ltOf, decide_eq_true_eq] at h1 h2 ⊢;exact hO.trans _ _ _ x.2.1 y.2.1 z.2.1 h1 h2
  ·simp only [ltOf, decide_eq_false_iff_not] at h1 h2 ⊢;exact hO.ntrans _ _ _ x.2.1 y.2.1 z.2.1 h1 h2
 have hmain := AnyQ.slices_SortFunc L k aE zE (Elt.enc g.ro w V k) (fun x => x.2.2.1) (fun x v hv => x.2.2.2.1 v hv) (fun x y => cf x.1.1 y.1.1) hswo cg #[] L0.blk 0 L0.cap d w eg (cmp_lays hc hro) hH hblt (by rw [hds]; exact hsz);rw [hds] at hmain;rw [e0, e1];refine hmain.mono ?_;rintro ex w' ⟨rfl, d', n, os, hperm, hsort, rfl⟩;obtain ⟨hps, _, hpp⟩ := hperm;have hex : ∀ a : Array (Elt g.ro w V k), a.size = rows.length -> (a.extract 0 rows.length) = a := fun a ha => by rw [<- ha]; simp
 rw [hex d' (by rw [hps, hds]), hex d hds] at hpp;obtain ⟨rows', hrows'⟩ : ∃ rows', d'.toList.map (fun x => x.1.1) = rows' := ⟨_, rfl⟩
 have hp : rows'.Perm rows := by rw [<- hrows', <- hdl]; exact hpp.map _
 have hs : rows'.Pairwise fun a b => ¬ cf b a < 0 := by
  rw [<- hrows', List.pairwise_map, List.pairwise_iff_getElem];intro i j hi hj hij;have hj' : j < d'.size := by simpa using hj
  have := hsort i j (Nat.zero_le _) hij (by rw [hps, hds] at hj'; exact hj');rw [getElem!_pos d' i (by omega), getElem!_pos d' j hj'] at this;simpa [ltOf] using this
 have hd's : d'.size = rows.length := by rw [hps, hds]
 have hbs : zgc ((sortWorldK (Elt.enc g.ro w V k) k w L0.blk 0 n d' os).heap[L0.blk]?) e (Go.Sort.putCells id 0 (flatK (Elt.enc g.ro w V k) k d') cur) := ⟨el0, fr0, ztr _ _ _ _ _ _ _ hblk, hx1, by simp only [Go.Sort.putCells, Array.size_mapIdx]; exact hx2⟩
 obtain ⟨g', h1, h2, h3, h4, h5, h6⟩ := zah.write h hL hflat (id' := 0) (.inl rfl) ⟨e, k, dr rows'⟩ (Go.Sort.putCells id 0 (flatK (Elt.enc g.ro w V k) k d') cur) (w' := sortWorldK (Elt.enc g.ro w V k) k w L0.blk 0 n d' os) (cap := L0.cap) (B := L0.blk) rfl ⟨rfl, .inr (drawn_sort _ _ _ _ _ _ _)⟩ rfl (size_sort _ _ _ _ _ _ _)
  (fun b hb hne => heap_sort _ _ _ _ _ _ _ hb hne) (.inl rfl) hbs hkm.symm hok.pos (by simp only [Go.Sort.putCells, Array.size_mapIdx]; exact hcs) (by have := hp.length_eq; simp [dr]; omega) hcap (fun _ => ⟨rfl, rfl⟩) (by
   intro i row hi;have hil : i < rows'.length := by have := (List.getElem?_eq_some_iff.1 hi).1; simpa [dr] using this
   have hil2 : i < rows.length := by have := hp.length_eq; omega
   have hid : i < d'.size := by omega
   have hri : rows'[i] = (d'[i]'hid).1.1 := by
    have : (d'.toList.map (fun x => x.1.1))[i]'(by simpa using hid) = rows'[i] := by simp only [hrows']
    rw [<- this]; simp
   have hrow : row = rows'[i].map AV.d := by
    have : (dr rows')[i]? = some (rows'[i].map AV.d) := by simp [dr, hil]
    rw [this] at hi; exact (Option.some.inj hi).symm
   obtain ⟨x1, x2, x3, x4⟩ := (d'[i]'hid).2;subst hrow;rw [hri, hkm];have hxl : (d'[i]'hid).1.1.length = k := by have := x4.length; omega
   refine ⟨by simp [hxl], fun j av hj => ?_⟩;have hjk : j < k := by have := (List.getElem?_eq_some_iff.1 hj).1; simp at this; omega
   have hav : av = .d ((d'[i]'hid).1.1[j]'(by omega)) := by
    rw [List.getElem?_map, List.getElem?_eq_getElem (by omega)] at hj;exact (Option.some.inj hj).symm
   obtain ⟨v, hv1, hv2⟩ := x4.get j _ (List.getElem?_eq_getElem (by omega));have hdiv : (i * k + j) / k = i := (blk_iff k i _ hk0).1 ⟨by omega, by omega⟩;have hmod : (i * k + j) % k = j := by rw [Nat.mod_eq_sub_div_mul, hdiv]; omega
   have hlt : i * k + j < rows.length * k := by have := Nat.mul_le_mul_right k (show i + 1 <= rows.length from hil2); rw [Nat.add_mul, Nat.one_mul] at this; omega
   refine ⟨v, ?_, x3 v (List.mem_of_getElem? hv1), ?_⟩
   ·have hlc : i * k + j < cur.size := by omega
    have hc1 : (Go.Sort.putCells id 0 (flatK (Elt.enc g.ro w V k) k d') cur)[i * k + j]? = some ((flatK (Elt.enc g.ro w V k) k d')[i * k + j]!) := by
     simp only [Go.Sort.putCells, Array.getElem?_mapIdx, Array.getElem?_eq_getElem hlc, Option.map_some];rw [if_pos ⟨Nat.zero_le _, by rw [size_flatK, hd's]; omega⟩];simp
    rw [hc1, get_flatK _ _ _ _ (by rw [hd's]; exact hlt), hdiv, hmod, getElem!_pos d' i hid];simp only [Elt.enc];obtain ⟨hjl, hjv⟩ := List.getElem?_eq_some_iff.1 hv1;rw [getElem!_pos _ j hjl, hjv]
   ·rw [hav];simpa only [zi] using hv2)
 refine ⟨_, g', [(0, ⟨e, k, dr rows'⟩)], .tup [], rfl, ⟨rows', hp, hs, rfl, rfl⟩, ?_, ?_, h5, ?_⟩
 ·have : (zbj (zbj (zfy [(0, ⟨e, k, dr rows⟩)]) 0 none) 0 (some ⟨e, k, dr rows'⟩)) = zfy [(0, ⟨e, k, dr rows'⟩)] := by
   funext x
   simp only [zbj, zfy, find];by_cases hx : x = 0
   ·subst hx; simp
   ·have hx' : ¬ (0 = x) := fun h => hx h.symm;simp [hx, hx']
  rw [<- this]; exact h4
 ·simp only [zi, zk];exact ⟨[], rfl, rfl⟩
 ·intro i j hij;simp only [List.mem_cons, List.not_mem_nil, or_false, Prod.mk.injEq] at hij;obtain ⟨rfl, rfl⟩ := hij;rw [h1, hL];cases L0; simp_all


theorem PX.toE {P : Program} {f : FuncId} {av : List AV} {hp hp' : List (Nat × Ob)} {pin : List (Nat × Nat)} {r : AV} {Out : List (Nat × Ob) -> AV -> Prop} (h : PX P f av hp pin hp' r) (hO : Out hp' r) : PXE P f av hp pin Out :=
 ⟨h.1, fun g w vs h1 h2 h3 => (h.2 g w vs h1 h2 h3).mono fun e w' ⟨v, g', he, k1, k2, k3, k4⟩ => ⟨v, g', hp', r, he, hO, k1, k2, k3, k4⟩⟩
theorem zmm {P : Program} {ρ : Ren} (L : SlLaysF0.n6 P ρ) {k : Nat} (hk0 : 0 < k) (aE : ∀ w, (isAgg (ρ.t 24)).run P w = .ok true w) (zE : ∀ w, (Go.sizeOf (ρ.t 24)).run P w = .ok k w) (hent : zha P (ρ.f 6)) {cg : FuncId}
  (eg : ∀ args w, (callFunc cg args).run P w = .ok (.enter cg args) w) {V : List D -> Prop} {cf : List D -> List D -> Int} (hc : zsj P cg V cf) (hO : zqg V cf) (e : TypeId) {rows : List (List D)} (hV : ∀ r ∈ rows, V r) (hsz : rows.length < 4611686018427387904) :
  PXE P (ρ.f 6) [.hs 0 0 rows.length, .d (.fn (.func cg) [])] [(0, ⟨e, k, dr rows⟩)] [(0, 0)] (sortOut e k cf rows) := by
 by_cases hn : rows = []
 ·subst hn;exact (zve L hk0 hent e _).toE ⟨[], List.Perm.refl _, List.Pairwise.nil, rfl, rfl⟩
 ·refine sortFunc_pxe L hk0 aE zE hent eg hc hO e hV (List.length_pos_iff.2 hn) hsz _ fun g w v hv => ?_;simp only [zi, zv] at hv;obtain ⟨vs, rfl, h2⟩ := hv;simp only [zt] at h2;rw [h2]

end Go.Abs
