/-
  Texts of this seat put together: M7, A7, A8, A9, A10, A11, L0, XR.
-/
import Derived.Test.YtdddknniooimmaaGreatJT11
import Derived.Test.YtdddknniooimmaaGreatJT7
import Derived.Test.YtdddknniooimmaaGreatJT9
import Derived.Test.YtdddknniooimmaaGreatJT8
import Derived.Test.YtdddknniooimmaaGreatJT10
import Derived.Test.YtdddknniooimmaaGreatJT4
import Derived.Test.YtdddknniooimmaaGreatJT3
import Derived.Test.YtdddknniooimmaaGreatChecked
set_option linter.unusedVariables false
set_option linter.unusedSimpArgs false
set_option maxRecDepth 100000
namespace Go.Proofs.YtdddknniooimmaaGreat
open Go.Abs

theorem cell_bd {R : List Row} (hv : zo R = true) {c : zf} (hc : c ∈ zl R) : -4096 <= c.x /\ c.x < 4096 /\ -4096 <= c.y /\ c.y < 4096 := by
 obtain ⟨w, hw, hy, r, hr, h5, h6⟩ := zdk.1 hc;obtain ⟨h1, h2⟩ := zbs hv hw;have := (zfd.1 h2).2.2 r hr;omega

abbrev zfe (L : List (List Row)) : D := .sl (L.map zp)
def zml : List zf := [⟨1, 0⟩, ⟨-1, 0⟩, ⟨0, 1⟩, ⟨0, -1⟩]
def zqt : List zf := [⟨1, 0⟩, ⟨-1, 0⟩, ⟨0, 1⟩, ⟨0, -1⟩, ⟨1, 1⟩, ⟨1, -1⟩, ⟨-1, 1⟩, ⟨-1, -1⟩]
theorem steps_own : PC Tryz.prog 51 [] (.o 67 2 (zml.map zf.row)) := by
 refine pw cx Tryz.func51 Tryz.ntmps51 ?_;refine rg cx ?_;refine rg cx ?_;simp [push_cast, zml, zf.row]
theorem steps_ok : PC Tryz.prog 51 [] (.p (zaj zml)) := steps_own.data
theorem touches_ok : PC Tryz.prog 59 [] (.p (zaj zqt)) := by
 have c := steps_own;simp only [zml, List.map_cons, List.map_nil, zf.row] at c;refine pw cx Tryz.func59 Tryz.ntmps59 ?_;refine rg cx ?_;refine rx cx [(0, .o 67 2 [[.int .i64 1, .int .i64 0], [.int .i64 (-1), .int .i64 0], [.int .i64 0, .int .i64 1], [.int .i64 0, .int .i64 (-1)]])] (fun K hK => by simp [push_cast, c]; (repeat refine ob ?_); exact hK) ?_;simp [push_cast, zqt, zf.row]
theorem adj_steps (b x : zf) (h : b ≠ x) : zao false b x = true ↔ ∃ d ∈ zml, zhf b d = x := by
 obtain ⟨bx, bz⟩ := b;obtain ⟨xx, xy⟩ := x;simp only [zao, Bool.false_or, Bool.and_eq_true, Bool.or_eq_true, decide_eq_true_eq, zml, List.mem_cons, List.not_mem_nil, or_false, exists_eq_or_imp, exists_eq_left, zhf, zf.mk.injEq];simp only [ne_eq, zf.mk.injEq] at h;omega
theorem adj_touch (b x : zf) (h : b ≠ x) : zao true b x = true ↔ ∃ d ∈ zqt, zhf b d = x := by
 obtain ⟨bx, bz⟩ := b;obtain ⟨xx, xy⟩ := x;simp only [zao, Bool.true_or, Bool.and_eq_true, decide_eq_true_eq, and_true, zqt, List.mem_cons, List.not_mem_nil, or_false, exists_eq_or_imp, exists_eq_left, zhf, zf.mk.injEq];simp only [ne_eq, zf.mk.injEq] at h;omega
theorem zvz (l : List zf) (adj : zf -> zf -> Bool) : (zeb l adj).length <= l.length /\ ∀ g ∈ zeb l adj, g.length <= l.length := by
 refine ⟨by simp only [zeb, List.length_map]; exact hdS_len _, fun g hg => ?_⟩;obtain ⟨h, _, rfl⟩ := List.mem_map.1 hg;exact List.length_filter_le _ _
theorem cells_sm {R : List Row} : ∀ c ∈ cellsOf R, smC c := fun c hc => by
 unfold cellsOf at hc;split at hc
 ·rename_i hv;have := cell_bd hv hc;unfold smC; omega
 ·simp at hc

noncomputable def zaz (R : List Row) : List (List Row) := (zeb (cellsOf R) (zao false)).map ofR
set_option maxHeartbeats 4000000 in
theorem zls (R : List Row) (hR : zbw R) (hn : (cellsOf R).length <= 1000000) (hgr : (zeb (cellsOf R) (zao false)).length <= 900000) : PC Tryz.prog 13 [.agg (zp R)] (.p (zfe (zaz R))) := by
 have c1 := cells_ok R hR (fun hv => by unfold cellsOf at hn; rw [if_pos hv] at hn; omega);have c2 := steps_ok;have c3 := split_ok21 (cellsOf R) false zml (by omega) hgr cells_sm (by simp [zml]) (by simp [zml]) adj_steps;have hgl := zvz (cellsOf R) (zao false);have hof := fun g (hg : g ∈ zeb (cellsOf R) (zao false)) => of_ok g (by have := hgl.2 g hg; omega);have hGl : (zeb (cellsOf R) (zao false)).length <= 1000000 := by omega
 unfold zaz;generalize zeb (cellsOf R) (zao false) = G at *;generalize cellsOf R = l at *;refine pw cx Tryz.func13 Tryz.ntmps13 ?_;refine rg cx ?_;refine rg cx ?_;refine rx cx [(1, .p (zaj l)), (2, .p (zaj zml)), (3, .p (encGs G))] (fun K hK => by simp [push_cast, c1, c2, c3]; (repeat refine ob ?_); exact hK) ?_;refine zu (β := Nat × List (List Row)) (fun s => ⟨28, [(3, .hs 0 0 s.2.length), (11, .d (encGs G)), (12, .d (.int .i64 G.length)), (13, .d (.int .i64 s.1))], [(0, some ⟨24, 1, dr (s.2.map zp)⟩)], 1⟩) (fun s => s.1 <= G.length /\ s.2 = (G.take s.1).map ofR) (fun s => G.length - s.1) (0, []) ?_ ⟨Nat.zero_le _, rfl⟩ ?_
 ·refine wk [(0, none)]
 ·rintro ⟨k, X⟩ ⟨hk, hX⟩;simp only at hk hX;have hXl : X.length = k := by rw [hX]; simp; omega
  refine Nav.imp ?_;refine rg cx ?_;refine awp_cd (decide ((k : Int) < G.length)) (fun hb => ?_) fun hb => ?_
  ·have hlt : k < G.length := by simpa using hb
   obtain ⟨g, hg⟩ := zap hlt;have e0 := wI ((k : Int) + 1);have c4 := hof g (List.mem_of_getElem? hg);have h24 : (X.length + 1) * 24 <= 140737488355328 := by omega
   have hnx : (G.take (k + 1)).map ofR = X ++ [ofR g] := by rw [zat hg, hX]; simp
   refine rx cx [] (fun K hK => by simp [push_cast, hg]; (repeat refine ob ?_); exact hK) ?_;refine rx cx [(1, .p (ofD g))] (fun K hK => by simp [push_cast, c4]; (repeat refine ob ?_); exact hK) ?_;refine rx cx [] (fun K hK => by simp [push_cast, h24]; (repeat refine ob ?_); exact hK) ?_;refine rx cx [] (fun K hK => by simp [push_cast, e0]; (repeat refine ob ?_); exact hK) ?_;refine ⟨(k + 1, X ++ [ofR g]), ⟨hlt, hnx.symm⟩, by simp only; omega, ?_⟩;refine wk [(0, some 16)]
  ·have hke : k = G.length := by simp at hb; omega
   subst hke;rw [List.take_length] at hX;rw [<- hX];have ht : List.take X.length (X.map zp) = X.map zp := List.take_of_length_le (by simp);refine rg cx ?_;simp [push_cast, ht]
theorem zja (R : List Row) (hR : zbw R) (hn : (cellsOf R).length <= 100000) : PC Tryz.prog 13 [.agg (zp R)] (.p (zfe (zaz R))) := zls R hR (by omega) (by have := (zvz (cellsOf R) (zao false)).1; omega)

def zio (R : List Row) (y : Int) (xs : List Int) : List zf := (xs.filter fun x => !conB R ⟨x, y⟩).map fun x => ⟨x, y⟩
def frXs (R : List Row) : List Int := ysD (zbd R - 1) (zbe R - zbd R + 3).toNat
def frYs (R : List Row) : List Int := ysD (zbv R - 1) (zdl R - zbv R + 3).toNat
def zag (R : List Row) : List zf := (frYs R).flatMap fun y => zio R y (frXs R)
theorem frLine_len {R : List Row} {y : Int} {xs : List Int} : (zio R y xs).length <= xs.length := by
 simp only [zio, List.length_map];exact List.length_filter_le _ _
theorem frLine_next {R : List Row} {y x : Int} {xs : List Int} {j : Nat} (h : xs[j]? = some x) : zio R y (xs.take (j + 1)) = zio R y (xs.take j) ++ if conB R ⟨x, y⟩ then [] else [⟨x, y⟩] := by
 unfold zio;rw [zat h, List.filter_append, List.map_append];cases q : conB R ⟨x, y⟩ <;> simp [q]
theorem ysD_get {lo : Int} {n j : Nat} (h : j < n) : (ysD lo n)[j]? = some (lo + j) := by simp [ysD, h]
theorem zur (lo : Int) (n : Nat) : (ysD lo n).length = n := by simp [ysD]
theorem zkx {α β : Type} {f : α -> List β} {n : Nat} (h : ∀ x, (f x).length <= n) : ∀ l : List α, (l.flatMap f).length <= n * l.length
 | [] => by simp
 | x :: l => by
  have h1 := zkx h l;have h2 := h x;rw [List.flatMap_cons, List.length_append, List.length_cons, Nat.mul_add, Nat.mul_one];omega
theorem zew {R : List Row} (hv : zo R = true) (h0 : 0 < R.length) : -4096 <= zbd R /\ zbd R <= zbe R /\ zbe R <= 4095 /\ -4096 <= zbv R /\ zbv R <= zdl R /\ zdl R <= 4095 := by
 obtain ⟨w0, hw0⟩ : ∃ w, R[0]? = some w := zap h0;have hm := List.mem_of_getElem? hw0;obtain ⟨w1, hw1⟩ : ∃ w, R[R.length - 1]? = some w := zap (by omega);have b1 := (zbs hv hm).1;have b2 := (zbs hv (List.mem_of_getElem? hw1)).1;have y1 : zbv R = w0.y := by simp [zbv, hw0]
 have y2 : zdl R = w1.y := by simp [zdl, hw1]
 have y3 := zso hv hm;have lx2 : -4096 <= zbd R := (zpo zlm R 4096).2.2 (-4096) (by omega) fun w hw => (zig (zbs hv hw).2).2.1;have hx2 : zbe R <= 4095 := (zpp (fun w => zkk w - 1) R (-4096)).2.2 4095 (by omega) fun w hw => by have := (zig (zbs hv hw).2).2.2.2; show zkk w - 1 <= 4095; omega
 have q1 : zbd R <= zlm w0 := (zpo zlm R 4096).2.1 w0 hm;have q2 : zkk w0 - 1 <= zbe R := (zpp (fun w => zkk w - 1) R (-4096)).2.1 w0 hm;have q3 := (zig (zbs hv hm).2).2.2.1;omega
theorem free_sm {R : List Row} (hv : zo R = true) (h0 : 0 < R.length) : ∀ c ∈ zag R, smC c := fun c hc => by
 obtain ⟨y, hy, hc⟩ := List.mem_flatMap.1 hc;obtain ⟨x, hx, rfl⟩ := List.mem_map.1 hc;have hx := (List.mem_filter.1 hx).1;have hb := zew hv h0;unfold frXs at hx;unfold frYs at hy;rw [zuq] at hx hy;unfold smC;simp only;omega
noncomputable def zcf (R : List Row) : List (List Row) := if some? R then ((zeb (zag R) (zao true)).drop 1).map ofR else []


open Classical in
theorem free_pw (R : List Row) : (zag R).Pairwise ltY := by
 unfold zag;rw [List.pairwise_flatMap];refine ⟨fun y _ => ?_, (ysD_pw _ _).imp fun {a b} hab x hx z hz => ?_⟩
 ·unfold zio;rw [List.pairwise_map];refine ((ysD_pw _ _).sublist List.filter_sublist).imp fun {a b} hab => ?_;exact .inr ⟨rfl, hab⟩
 ·obtain ⟨_, _, rfl⟩ := List.mem_map.1 hx;obtain ⟨_, _, rfl⟩ := List.mem_map.1 hz;exact .inl hab
theorem zno {l : List zf} (h : l.Pairwise ltY) : l.Nodup := h.imp fun {a b} hab e => by
 subst e;rcases hab with h | ⟨_, h⟩ <;> omega
theorem grps_pw {l : List zf} (h : l.Pairwise ltY) {adj : zf -> zf -> Bool} {g : List zf} (hg : g ∈ zeb l adj) : g.Pairwise ltY := by
 obtain ⟨a, _, rfl⟩ := List.mem_map.1 hg;exact h.sublist List.filter_sublist
theorem ofR_ok {l : List zf} (h : l.Pairwise ltY) : zo (ofR l) = true := by
 by_cases hon : ∀ c ∈ l, onG c = true
 ·exact (of_set (zno h) hon).1
 ·have : ofR l = [] := by
   unfold ofR;rw [if_neg];rw [List.all_eq_true];exact hon
  rw [this]; rfl
theorem zhh {R : List Row} : ∀ h ∈ zcf R, zo h = true := fun h hh => by
 unfold zcf at hh;split at hh
 ·obtain ⟨g, hg, rfl⟩ := List.mem_map.1 hh;exact ofR_ok (grps_pw (free_pw R) (List.mem_of_mem_drop hg))
 ·simp at hh
theorem cellsOf_pw (R : List Row) : (cellsOf R).Pairwise ltY := by
 unfold cellsOf;split
 ·rename_i h; exact zhv h
 ·simp
theorem comp_valid {R : List Row} : ∀ h ∈ zaz R, zo h = true := fun h hh => by
 obtain ⟨g, hg, rfl⟩ := List.mem_map.1 hh;exact ofR_ok (grps_pw (cellsOf_pw R) hg)
theorem zpa {f : Bool -> Bool -> Bool} (hf : f false false = false) (a b : List Row) : zo (opR f a b) = true := by
 cases hv : (zo a && zo b) with
 | false => unfold opR; rw [hv]; rfl
 | true =>
  simp only [Bool.and_eq_true] at hv;exact (zst hf hv.1 hv.2).1

noncomputable def zcq (R : List Row) : List Row := if zo R then (zcf R).foldl (opR fU) (opR fU R []) else []
end Go.Proofs.YtdddknniooimmaaGreat

namespace Go.Proofs.YtdddknniooimmaaGreat
open Go.Abs



theorem run_of {f : Nat} {ds : List D} (h : zgq Tryz.prog (f + 2) 85 ds) : ∃ c : Run, ds = c.row := by
 obtain ⟨hl, hp⟩ := zrt (n := 2) (ts := [3, 3]) Tryz.underlying85 (by kernel_rfl) rfl (by kernel_rfl) h;obtain ⟨d0, r0, e0, h0, hp0⟩ := znj (by kernel_rfl) hp (by simp_all <;> omega);subst e0;obtain ⟨d1, r1, e1, h1, hp1⟩ := znj (by kernel_rfl) hp0 (by simp_all <;> omega);subst e1;simp only [zeq] at hp1;subst hp1;obtain ⟨n0, e0, w0⟩ := hasT_int Tryz.underlying3 h0;cases e0;obtain ⟨n1, e1, w1⟩ := hasT_int Tryz.underlying3 h1;cases e1;exact ⟨⟨n0, n1⟩, rfl⟩
theorem own : ownKnob Tryz.prog.godebug = none := by kernel_rfl
theorem laidOut : laidOutB Tryz.prog = true := by kernel_rfl
def zeroReg : Value := .agg #[.slice none 0 0]

end Go.Proofs.YtdddknniooimmaaGreat
