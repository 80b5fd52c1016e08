/-
  Texts of this seat put together: TP4, BD1, BD2, BW1, AbsI, BW2, AbsG, AbsJ.
-/
import Derived.Test.YtdddknniooimmaaGreatJT13
import Derived.Test.YtdddknniooimmaaGreatJT4
import Derived.Test.YtdddknniooimmaaGreatJT8
import Derived.Test.YtdddknniooimmaaGreatJT9
import Derived.Shelf.SlicesE.Delete
import Derived.Test.YtdddknniooimmaaGreatChecked
set_option linter.unusedVariables false
set_option linter.unusedSimpArgs false
set_option maxRecDepth 100000
set_option linter.unusedSectionVars false
namespace Go.Proofs.YtdddknniooimmaaGreat
open Go.Abs

def boxBg (R : List Row) : Prop := some? R = true -> zbe R - zbd R < 2100 /\ zdl R - zbv R < 2100
theorem freeB_len {R : List Row} (hb : boxBg R) (hs : some? R = true) : (frXs R).length <= 2102 /\ (frYs R).length <= 2102 := by
 have := hb hs;simp only [frXs, frYs, zur];omega
theorem rows_le {R : List Row} (hv : zo R = true) : R.length <= (zl R).length := by
 have hle := zlk (l := R.map fun w => (⟨zlm w, w.y⟩ : zf)) (m := zl R) (by
  unfold List.Nodup;rw [List.pairwise_map];refine (ziw hv).imp fun {a b} h e => ?_;have : a.y = b.y := by injection e
  omega) fun x hx => by
   obtain ⟨w, hw, rfl⟩ := List.mem_map.1 hx;exact (row_cells hv hw).1
 rwa [List.length_map] at hle
set_option maxHeartbeats 16000000 in
theorem holesB_ok (R : List Row) (hR : zbw R) (hbx : boxBg R) (hcn : (zl R).length <= 200) : PC Tryz.prog 15 [.agg (zp R)] (.p (zfe (zcf R))) := by
 have c1 := box_ok R hR;by_cases hs : some? R = true
 ·have hv : zo R = true := by simp [some?] at hs; exact hs.1
  have h0 : 0 < R.length := by simp [some?] at hs; exact hs.2
  have hres : zcf R = ((zeb (zag R) (zao true)).drop 1).map ofR := by unfold zcf; rw [if_pos hs]
  have hbxx : boxD R = .tup [.agg (zf.row ⟨zbd R, zbv R⟩), .agg (zf.row ⟨zbe R, zdl R⟩), .bool true] := by simp [boxD, zgm, zgn, hs]
  rw [hbxx] at c1;clear hbxx;obtain ⟨hxl, hyl⟩ := freeB_len hbx hs;have hbe := zew hv h0;have hbs := hbx hs;have hfs := free_sm hv h0;have hfl : (zag R).length <= 4418404 := by
   have := zkx (f := fun y => zio R y (frXs R)) (n := 2102) (fun y => Nat.le_trans frLine_len hxl) (frYs R);unfold zag;omega
  have c2 := touches_ok;have c3 := split_ok21 (zag R) true zqt (by omega) (by have := zru hv h0; omega) hfs (by simp [zqt]) (by simp [zqt]) adj_touch;have hgl := zvz (zag R) (zao true);have hof := fun i g (hg : (zeb (zag R) (zao true))[i + 1]? = some g) => of_ok g (by
   have h1 := hole_cells hv h0 hg;have h2 := rows_le hv;have h3 : R.length * (zbe R - zbd R + 3).toNat <= 200 * 2102 := Nat.mul_le_mul (by omega) (by omega);omega)
  have hgn := zru hv h0;have hcon := fun c => contains_ok R c hR;have hfd : zag R = (frYs R).flatMap fun y => zio R y (frXs R) := rfl;have hln := fun y x xs j (h : xs[j]? = some x) => frLine_next (R := R) (y := y) h;have hXn : ∀ j : Nat, j < (zbe R - zbd R + 3).toNat -> (frXs R)[j]? = some (zbd R - 1 + j) := fun j hj => ysD_get hj;have hYn : ∀ j : Nat, j < (zdl R - zbv R + 3).toNat -> (frYs R)[j]? = some (zbv R - 1 + j) := fun j hj => ysD_get hj;have hXl : (frXs R).length = (zbe R - zbd R + 3).toNat := zur _ _;have hYl : (frYs R).length = (zdl R - zbv R + 3).toNat := zur _ _;have hl32 : ∀ y xs, (zio R y xs).length <= xs.length := fun y xs => frLine_len;have hl0 : ∀ y, zio R y [] = [] := fun y => rfl;rw [hres];clear hres hbx;generalize conB R = con at *;generalize zio R = fl at *;have hfy : ∀ i : Nat, (((frYs R).take i).flatMap (fun y => fl y (frXs R))).length <= 4418404 := fun i => by
   have := zkx (f := fun y => fl y (frXs R)) (n := 2102) (fun y => Nat.le_trans (hl32 y _) hxl) ((frYs R).take i);rw [List.length_take] at this;omega
  generalize hF : zag R = fr at *;generalize frXs R = xs at *;generalize frYs R = ys at *;generalize hG : zeb fr (zao true) = G at *;generalize zbd R = lx at *;generalize zbe R = hx at *;generalize zbv R = fy at *;generalize zdl R = ly at *;have e1 := wI (lx - 1);have e2 := wI (fy - 1);have e3 := wI (hx + 1);have e4 := wI (ly + 1);refine pw cx Tryz.func15 Tryz.ntmps15 ?_;refine rg cx ?_;refine rx cx [(1, .p (.tup [.agg (zf.row ⟨lx, fy⟩), .agg (zf.row ⟨hx, ly⟩), .bool true]))] (fun K hK => by simp [push_cast, c1, zf.row]; (repeat refine ob ?_); exact hK) ?_;refine rg cx ?_;refine awp_cd false (fun hb => ?_) fun hb => ?_
  ·simp at hb
  ·refine rg cx ?_;refine rx cx [] (fun K hK => by simp [push_cast, e2, zf.row]; (repeat refine ob ?_); exact hK) ?_;refine zu (β := Nat × List zf) (fun s => ⟨76, [(1, .ptr 0 0 0), (3, .ptr 1 0 0), (4, .ptr 2 0 0), (6, .hs 3 0 s.2.length), (7, .d (.int .i64 (fy - 1 + s.1)))], [(0, some ⟨24, 1, [(zp R).map .d]⟩), (1, some ⟨67, 2, [(zf.row ⟨lx, fy⟩).map .d]⟩), (2, some ⟨67, 2, [(zf.row ⟨hx, ly⟩).map .d]⟩), (3, some ⟨67, 2, dr (s.2.map zf.row)⟩)], 4⟩) (fun s => s.1 <= (ly - fy + 3).toNat /\ s.2 = (ys.take s.1).flatMap fun y => fl y xs) (fun s => (ly - fy + 3).toNat - s.1) (0, []) ?_ ⟨Nat.zero_le _, by simp⟩ ?_
   ·refine wq [(0, some 0), (1, some 8), (2, some 9), (3, none)] (by simp [upT, upH, upR, upL, up, push_cast, zf.row])
   ·rintro ⟨i, X⟩ ⟨hi, hX⟩;simp only at hi hX;have hXl2 := hfy i;rw [<- hX] at hXl2;refine Nav.imp ?_;refine rx cx [] (fun K hK => by simp [push_cast, e4, zf.row]; (repeat refine ob ?_); exact hK) ?_;by_cases hil : i < (ly - fy + 3).toNat
    ·have q1 : fy - 1 + (i : Int) <= ly + 1 := by omega
     have k1 := wI (fy - 1 + (i : Int) + 1);have hyi := hYn i hil;have hnx : (ys.take (i + 1)).flatMap (fun y => fl y xs) = X ++ fl (fy - 1 + i) xs := by rw [hX]; exact zhi _ hyi
     have hlnn := fun x j => hln (fy - 1 + i) x xs j;have hl33 := hl32 (fy - 1 + i);have hl00 := hl0 (fy - 1 + i);generalize fl (fy - 1 + i) = f at *;have hyb : -10000 <= fy - 1 + (i : Int) /\ fy - 1 + (i : Int) <= 10000 := by omega
     have hyy : fy - 1 + ((i + 1 : Nat) : Int) = fy - 1 + (i : Int) + 1 := by omega
     refine awp_cn true (by simp [push_cast, q1]) (fun hb => ?_) fun hb => ?_
     ·refine rx cx [] (fun K hK => by simp [push_cast, e1, zf.row]; (repeat refine ob ?_); exact hK) ?_;refine zu (β := Nat × List zf) (fun s => ⟨76, [(1, .ptr 0 0 0), (3, .ptr 1 0 0), (4, .ptr 2 0 0), (6, .hs 3 0 s.2.length), (7, .d (.int .i64 (fy - 1 + i))), (8, .d (.int .i64 (lx - 1 + s.1)))], [(0, some ⟨24, 1, [(zp R).map .d]⟩), (1, some ⟨67, 2, [(zf.row ⟨lx, fy⟩).map .d]⟩), (2, some ⟨67, 2, [(zf.row ⟨hx, ly⟩).map .d]⟩), (3, some ⟨67, 2, dr (s.2.map zf.row)⟩)], 4⟩) (fun s => s.1 <= (hx - lx + 3).toNat /\ s.2 = X ++ f (xs.take s.1)) (fun s => (hx - lx + 3).toNat - s.1) (0, X) ?_ ⟨Nat.zero_le _, by simp [hl00]⟩ ?_
      ·refine wq [(0, some 0), (1, some 1), (2, some 2), (3, some 3)] (by simp [upT, upH, upR, upL, up, push_cast, zf.row])
      ·rintro ⟨j, Z⟩ ⟨hj, hZ⟩;simp only at hj hZ;have hZl : Z.length <= 4418404 + 2102 := by
        have h1 := hl33 (xs.take j);rw [List.length_take] at h1;rw [hZ, List.length_append];omega
       have h16 : (Z.length + 1) * 16 <= 140737488355328 := by omega
       refine Nav.imp ?_;refine rx cx [] (fun K hK => by simp [push_cast, e3, zf.row]; (repeat refine ob ?_); exact hK) ?_;by_cases hjl : j < (hx - lx + 3).toNat
       ·have q2 : lx - 1 + (j : Int) <= hx + 1 := by omega
        have k2 := wI (lx - 1 + (j : Int) + 1);have hxj := hXn j hjl;have hlj := hlnn _ j hxj;have hxx : lx - 1 + ((j + 1 : Nat) : Int) = lx - 1 + (j : Int) + 1 := by omega
        have c2 := hcon ⟨lx - 1 + j, fy - 1 + i⟩;generalize con ⟨lx - 1 + j, fy - 1 + i⟩ = v at *;refine awp_cn true (by simp [push_cast, q2]) (fun hb => ?_) fun hb => ?_
        ·refine rx cx [] (fun K hK => by simp [push_cast, zf.row]; (repeat refine ob ?_); exact hK) ?_;refine rx cx [(2, .p (.bool v))] (fun K hK => by simp [push_cast, c2, zf.row]; (repeat refine ob ?_); exact hK) ?_;cases v with
         | true =>
          rw [if_pos rfl, List.append_nil] at hlj;refine awp_cd false (fun hb => ?_) fun hb => ?_
          ·simp at hb
          ·refine rx cx [] (fun K hK => by simp [push_cast, k2]; (repeat refine ob ?_); exact hK) ?_;refine ⟨(j + 1, Z), ⟨hjl, by rw [hlj]; exact hZ⟩, by simp only; omega, ?_⟩;simp only [hxx];refine wq [(0, some 0), (1, some 1), (2, some 2), (3, some 3)] (by simp [upT, upH, upR, upL, up, push_cast, zf.row])
         | false =>
          rw [if_neg (by simp)] at hlj;refine awp_cd true (fun hb => ?_) fun hb => ?_
          ·refine rx cx [] (fun K hK => by simp [push_cast, h16, zf.row]; (repeat refine ob ?_); exact hK) ?_;refine rx cx [] (fun K hK => by simp [push_cast, k2]; (repeat refine ob ?_); exact hK) ?_;refine ⟨(j + 1, Z ++ [⟨lx - 1 + j, fy - 1 + i⟩]), ⟨hjl, by rw [hlj, hZ, List.append_assoc]⟩, by simp only; omega, ?_⟩;simp only [hxx];refine wq [(0, some 0), (1, some 1), (2, some 2), (3, some 21)] (by simp [upT, upH, upR, upL, up, push_cast, zf.row])
          ·simp at hb
        ·simp at hb
       ·have hje : j = (hx - lx + 3).toNat := by omega
        have q2 : ¬ lx - 1 + (j : Int) <= hx + 1 := by omega
        rw [hje, <- hXl, List.take_length, <- hnx] at hZ;refine awp_cn false (by simp [push_cast, q2]) (fun hb => ?_) fun hb => ?_
        ·simp at hb
        ·refine rx cx [] (fun K hK => by simp [push_cast, k1]; (repeat refine ob ?_); exact hK) ?_;refine ⟨(i + 1, Z), ⟨hil, hZ⟩, by simp only; omega, ?_⟩;simp only [hyy];refine wq [(0, some 0), (1, some 1), (2, some 2), (3, some 3)] (by simp [upT, upH, upR, upL, up, push_cast, zf.row])
     ·simp at hb
    ·have hie : i = (ly - fy + 3).toNat := by omega
     have q1 : ¬ fy - 1 + (i : Int) <= ly + 1 := by omega
     rw [hie, <- hYl, List.take_length, <- hfd] at hX;subst hX;have htf : List.take X.length (X.map zf.row) = X.map zf.row := List.take_of_length_le (by simp);refine awp_cn false (by simp [push_cast, q1]) (fun hb => ?_) fun hb => ?_
     ·simp at hb
     ·refine zaq 3 (X.map zf.row) rfl (by simp [push_cast]) fun K hK => ?_;simp [push_cast, St.fz, fzT, fzH, fzO, fz, fzL, fzR, zbx, zbo, zbn, zbm];refine nx hK ?_; clear hK K;refine rg cx ?_;refine rx cx [(1, .p (zaj zqt)), (2, .p (encGs G))] (fun K hK => by simp [push_cast, c2, c3, htf]; (repeat refine ob ?_); exact hK) ?_;refine zu (β := Nat × List (List Row)) (fun s => ⟨76, [(10, .hs 0 0 s.2.length), (56, .d (encGs G)), (57, .d (.int .i64 G.length)), (58, .d (.int .i64 s.1))], [(0, some ⟨24, 1, dr (s.2.map zp)⟩)], 1⟩) (fun s => s.1 <= G.length /\ s.2 = ((G.take s.1).drop 1).map ofR) (fun s => G.length - s.1) (0, []) ?_ ⟨Nat.zero_le _, rfl⟩ ?_
      ·refine wk [(0, none)]
      ·rintro ⟨k, Y⟩ ⟨hk, hY⟩;simp only at hk hY;have hYl2 : Y.length <= k := by rw [hY]; simp; omega
       refine Nav.imp ?_;refine rg cx ?_;refine awp_cd (decide ((k : Int) < G.length)) (fun hb => ?_) fun hb => ?_
       ·have hlt : k < G.length := by simpa using hb
        obtain ⟨g, hg⟩ := zap hlt;have e0 := wI ((k : Int) + 1);have h24 : (Y.length + 1) * 24 <= 140737488355328 := by omega
        refine rx cx [] (fun K hK => by simp [push_cast, hg]; (repeat refine ob ?_); exact hK) ?_;refine rg cx ?_;by_cases hk0 : k = 0
        ·subst hk0;have hnx : ((G.take (0 + 1)).drop 1).map ofR = Y := by rw [hY]; simp
         refine awp_cd false (fun hb => ?_) fun hb => ?_
         ·simp at hb
         ·refine rg cx ?_;refine ⟨(0 + 1, Y), ⟨hlt, hnx.symm⟩, by simp only; omega, ?_⟩;refine wk [(0, some 0)]
        ·have hnx : ((G.take (k + 1)).drop 1).map ofR = Y ++ [ofR g] := by
          rw [zat hg, List.drop_append_of_le_length (by simp; omega), hY]; simp
         have hk1 : 0 < k := by omega
         refine awp_cn true (by simp [push_cast, hk1]) (fun hb => ?_) fun hb => ?_
         ·have c4 := hof (k - 1) g (by rw [show k - 1 + 1 = k by omega]; exact hg);refine rx cx [(1, .p (ofD g))] (fun K hK => by simp [push_cast, c4]; (repeat refine ob ?_); exact hK) ?_;refine rx cx [] (fun K hK => by simp [push_cast, h24]; (repeat refine ob ?_); exact hK) ?_;refine rx cx [] (fun K hK => by simp [push_cast, e0]; (repeat refine ob ?_); exact hK) ?_;refine ⟨(k + 1, Y ++ [ofR g]), ⟨hlt, hnx.symm⟩, by simp only; omega, ?_⟩;refine wk [(0, some 20)]
         ·simp at hb
       ·have hke : k = G.length := by simp at hb; omega
        subst hke;rw [List.take_length] at hY;rw [<- hY];have ht : List.take Y.length (Y.map zp) = Y.map zp := List.take_of_length_le (by simp);refine rg cx ?_;simp [push_cast, ht]
 ·have hres : zcf R = [] := by unfold zcf; rw [if_neg hs]
  have hbxx : boxD R = .tup [.agg (zf.row ⟨0, 0⟩), .agg (zf.row ⟨0, 0⟩), .bool false] := by
   have : some? R = false := by simpa using hs
   simp [boxD, zgm, zgn, this]
  rw [hbxx] at c1;rw [hres];refine pw cx Tryz.func15 Tryz.ntmps15 ?_;refine rg cx ?_;refine rx cx [(1, .p (.tup [.agg (zf.row ⟨0, 0⟩), .agg (zf.row ⟨0, 0⟩), .bool false]))] (fun K hK => by simp [push_cast, c1, zf.row]; (repeat refine ob ?_); exact hK) ?_;refine rg cx ?_;refine awp_cd true (fun hb => ?_) fun hb => ?_
  ·refine rg cx ?_;simp [push_cast]
  ·simp at hb

theorem zud (R : List Row) (hcn : (zl R).length <= 200) : (zcf R).length <= 2000 := by
 unfold zcf;split
 ·rename_i hs;have hv : zo R = true := by simp [some?] at hs; exact hs.1
  have h0 : 0 < R.length := by simp [some?] at hs; exact hs.2
  have := zru hv h0;simp only [List.length_map, List.length_drop];omega
 ·simp
set_option maxHeartbeats 4000000 in
theorem fillB_ok (R : List Row) (hR : zbw R) (hbx : boxBg R) (hcn : (zl R).length <= 200) : PC Tryz.prog 19 [.agg (zp R)] (.p (.agg (zp (zcq R)))) := by
 have c0 := zmy R hR;cases hv : zo R with
 | false =>
  rw [hv] at c0;have hres : zcq R = [] := by unfold zcq; rw [hv]; rfl
  rw [hres];refine pw cx Tryz.func19 Tryz.ntmps19 ?_;refine rg cx ?_;refine rx cx [(1, .p (.bool false))] (fun K hK => by simp [push_cast, c0]; (repeat refine ob ?_); exact hK) ?_;refine awp_cd true (fun hb => ?_) fun hb => ?_
  ·refine rg cx ?_;simp [push_cast]
  ·simp at hb
 | true =>
  rw [hv] at c0;have hres : zcq R = (zcf R).foldl (opR fU) (opR fU R []) := by unfold zcq; rw [hv]; rfl
  have c1 : PC Tryz.prog 65 [.agg (zp R), .agg [.sl []]] (.p (.agg (zp (opR fU R [])))) := unionR_ok R [] hR (zbg rfl);have c2 := holesB_ok R hR hbx hcn;have hhv := @zhh R;have hHl := zud R hcn;have hF0 : zo (opR fU R []) = true := zpa (f := fU) rfl _ _;have hun := fun a b (ha : zo a = true) (hb : zo b = true) => unionR_ok a b (zbg ha) (zbg hb);have hov := fun a b => zpa (f := fU) rfl a b;rw [hres];clear hres;generalize opR fU R [] = F0 at *;generalize zcf R = H at *;refine pw cx Tryz.func19 Tryz.ntmps19 ?_;refine rg cx ?_;refine rx cx [(1, .p (.bool true))] (fun K hK => by simp [push_cast, c0]; (repeat refine ob ?_); exact hK) ?_;refine awp_cd false (fun hb => ?_) fun hb => ?_
  ·simp at hb
  ·refine rx cx [(2, .p (.agg (zp F0)))] (fun K hK => by simp [push_cast, c1]; (repeat refine ob ?_); exact hK) ?_;refine rx cx [(1, .p (zfe H))] (fun K hK => by simp [push_cast, c2]; (repeat refine ob ?_); exact hK) ?_;refine zu (β := Nat × List Row) (fun s => ⟨25, [(1, .ptr 0 0 0), (2, .ptr 1 0 0), (3, .ptr 2 0 0), (14, .d (zfe H)), (15, .d (.int .i64 H.length)), (16, .d (.int .i64 s.1))], [(0, some ⟨24, 1, [(zp R).map .d]⟩), (1, some ⟨24, 1, [[.nl]]⟩), (2, some ⟨24, 1, [(zp s.2).map .d]⟩)], 3⟩) (fun s => s.1 <= H.length /\ s.2 = (H.take s.1).foldl (opR fU) F0 /\ zo s.2 = true) (fun s => H.length - s.1) (0, F0) ?_ ⟨Nat.zero_le _, rfl, hF0⟩ ?_
   ·refine wk [(0, some 0), (1, some 1), (2, some 8)]
   ·rintro ⟨k, X⟩ ⟨hk, hX, hXv⟩;simp only at hk hX hXv;refine Nav.imp ?_;refine rg cx ?_;refine awp_cd (decide ((k : Int) < H.length)) (fun hb => ?_) fun hb => ?_
    ·have hlt : k < H.length := by simpa using hb
     obtain ⟨h, hh⟩ := zap hlt;have e0 := wI ((k : Int) + 1);have c3 := hun X h hXv (hhv h (List.mem_of_getElem? hh));have hnx : (H.take (k + 1)).foldl (opR fU) F0 = opR fU X h := by rw [zat hh, List.foldl_append, <- hX]; rfl
     have hXv2 := hov X h;generalize opR fU X h = Y at *;refine rx cx [] (fun K hK => by simp [push_cast, hh]; (repeat refine ob ?_); exact hK) ?_;refine rx cx [(2, .p (.agg (zp Y)))] (fun K hK => by simp [push_cast, c3]; (repeat refine ob ?_); exact hK) ?_;refine rx cx [] (fun K hK => by simp [push_cast, e0]; (repeat refine ob ?_); exact hK) ?_;refine ⟨(k + 1, Y), ⟨hlt, hnx.symm, hXv2⟩, by show H.length - (k + 1) < H.length - k; omega, ?_⟩;refine wk [(0, some 0), (1, some 1), (2, some 2)]
    ·have hke : k = H.length := by simp at hb; omega
     subst hke;rw [List.take_length] at hX;subst hX;refine rg cx ?_;simp [push_cast]

inductive Hd where
 | e | n | w | s
 deriving DecidableEq, Repr
def Hd.l : Hd -> Hd | .e => .n | .n => .w | .w => .s | .s => .e
def Hd.r : Hd -> Hd | .e => .s | .n => .e | .w => .n | .s => .w
def Hd.int : Hd -> Int | .e => 0 | .n => 1 | .w => 2 | .s => 3
theorem Hd.int_inj {a b : Hd} (h : a.int = b.int) : a = b := by cases a <;> cases b <;> simp_all [Hd.int]
theorem Hd.l_ne (h : Hd) : h.l ≠ h := by cases h <;> simp [Hd.l]
theorem Hd.r_ne (h : Hd) : h.r ≠ h := by cases h <;> simp [Hd.r]
def stp : Hd -> zf -> zf
 | .e, p => ⟨p.x + 1, p.y⟩
 | .n, p => ⟨p.x, p.y + 1⟩
 | .w, p => ⟨p.x - 1, p.y⟩
 | .s, p => ⟨p.x, p.y - 1⟩
def lcell : Hd -> zf -> zf
 | .e, p => p
 | .n, p => ⟨p.x - 1, p.y⟩
 | .w, p => ⟨p.x - 1, p.y - 1⟩
 | .s, p => ⟨p.x, p.y - 1⟩
def rcell : Hd -> zf -> zf
 | .e, p => ⟨p.x, p.y - 1⟩
 | .n, p => p
 | .w, p => ⟨p.x - 1, p.y⟩
 | .s, p => ⟨p.x - 1, p.y - 1⟩
structure Crk where
 p : zf
 h : Hd
 deriving DecidableEq
def isC (S : zf -> Bool) (c : Crk) : Bool := S (lcell c.h c.p) && !S (rcell c.h c.p)
def nxH (S : zf -> Bool) (q : zf) (h : Hd) : Hd := if isC S ⟨q, h.l⟩ then h.l else if isC S ⟨q, h⟩ then h else h.r
def Crk.q (c : Crk) : zf := stp c.h c.p
def suc (S : zf -> Bool) (c : Crk) : Crk := ⟨c.q, nxH S c.q c.h⟩
def inQ (ne nw sw se : Bool) : Hd -> Bool | .e => nw && !sw | .n => sw && !se | .w => se && !ne | .s => ne && !nw
def outB (ne nw sw se : Bool) : Hd -> Bool | .e => ne && !se | .n => nw && !ne | .w => sw && !nw | .s => se && !sw
def nxB (ne nw sw se : Bool) (h : Hd) : Hd := if outB ne nw sw se h.l then h.l else if outB ne nw sw se h then h else h.r
theorem outB_of (S : zf -> Bool) (z : zf) (h : Hd) : isC S ⟨z, h⟩ = outB (S z) (S ⟨z.x - 1, z.y⟩) (S ⟨z.x - 1, z.y - 1⟩) (S ⟨z.x, z.y - 1⟩) h := by
 cases h <;> rfl
theorem inQ_of (S : zf -> Bool) (c : Crk) : isC S c = inQ (S c.q) (S ⟨c.q.x - 1, c.q.y⟩) (S ⟨c.q.x - 1, c.q.y - 1⟩) (S ⟨c.q.x, c.q.y - 1⟩) c.h := by
 obtain ⟨⟨x, y⟩, h⟩ := c;cases h <;> simp [isC, inQ, Crk.q, stp, lcell, rcell]
theorem nxB_of (S : zf -> Bool) (z : zf) (h : Hd) : nxH S z h = nxB (S z) (S ⟨z.x - 1, z.y⟩) (S ⟨z.x - 1, z.y - 1⟩) (S ⟨z.x, z.y - 1⟩) h := by
 unfold nxH nxB;rw [outB_of, outB_of]
theorem nxB_out {ne nw sw se : Bool} {h : Hd} (hi : inQ ne nw sw se h = true) : outB ne nw sw se (nxB ne nw sw se h) = true := by
 revert hi; cases ne <;> cases nw <;> cases sw <;> cases se <;> cases h <;> decide
theorem nxB_inj {ne nw sw se : Bool} {h k : Hd} (hi : inQ ne nw sw se h = true) (hk : inQ ne nw sw se k = true) (e : nxB ne nw sw se h = nxB ne nw sw se k) : h = k := by
 revert hi hk e; cases ne <;> cases nw <;> cases sw <;> cases se <;> cases h <;> cases k <;> decide
theorem suc_is {S : zf -> Bool} {c : Crk} (h : isC S c = true) : isC S (suc S c) = true := by
 unfold suc;rw [outB_of, nxB_of];rw [inQ_of] at h;exact nxB_out h
theorem suc_inj {S : zf -> Bool} {a b : Crk} (ha : isC S a = true) (hb : isC S b = true) (e : suc S a = suc S b) : a = b := by
 unfold suc at e;have e1 : a.q = b.q := by injection e
 have e2 : nxH S a.q a.h = nxH S b.q b.h := by injection e
 rw [inQ_of] at ha hb;rw [e1] at ha;rw [e1, nxB_of, nxB_of] at e2;have e3 := nxB_inj ha hb e2;obtain ⟨⟨x, y⟩, h⟩ := a;obtain ⟨⟨x', y'⟩, h'⟩ := b;simp only at e3;subst e3;simp only [Crk.q] at e1;cases h <;> simp [stp] at e1 <;> simp <;> omega
section
variable {α : Type} (f : α -> α)
def itn : Nat -> α -> α
 | 0, c => c
 | n + 1, c => itn n (f c)
def orb : Nat -> α -> List α
 | 0, _ => []
 | n + 1, c => c :: orb n (f c)
end
section
variable {α : Type} {f : α -> α}
theorem zpi : ∀ (m n : Nat) (c : α), itn f (m + n) c = itn f n (itn f m c)
 | 0, n, c => by simp [itn]
 | m + 1, n, c => by rw [Nat.succ_add]; simp only [itn]; exact zpi m n (f c)
theorem zfl (n : Nat) (c : α) : itn f (n + 1) c = f (itn f n c) := by rw [zpi]; rfl
theorem zlh : ∀ (n : Nat) (c : α), (orb f n c).length = n
 | 0, _ => rfl
 | n + 1, c => by simp [orb, zlh n]
theorem zvl : ∀ {n i : Nat} {c : α}, i < n -> (orb f n c)[i]? = some (itn f i c)
 | 0, _, _, h => absurd h (Nat.not_lt_zero _)
 | n + 1, 0, c, _ => rfl
 | n + 1, i + 1, c, h => by simp only [orb, List.getElem?_cons_succ, itn]; exact zvl (by omega)
theorem zvj : ∀ (n : Nat) (c : α), orb f (n + 1) c = orb f n c ++ [itn f n c]
 | 0, c => rfl
 | n + 1, c => by rw [orb, zvj n (f c)]; rfl
theorem orb_add : ∀ (m n : Nat) (c : α), orb f (m + n) c = orb f m c ++ orb f n (itn f m c)
 | 0, n, c => by simp [orb, itn]
 | m + 1, n, c => by rw [Nat.succ_add]; simp only [orb, itn, List.cons_append]; rw [orb_add m n (f c)]
theorem zek {n : Nat} {c x : α} : x ∈ orb f n c ↔ ∃ i, i < n /\ x = itn f i c := by
 rw [List.mem_iff_getElem?];constructor
 ·rintro ⟨i, h⟩;have hi := (List.getElem?_eq_some_iff.1 h).1;rw [zlh] at hi;rw [zvl hi] at h;exact ⟨i, hi, by cases h; rfl⟩
 ·rintro ⟨i, hi, rfl⟩;exact ⟨i, zvl hi⟩
structure Per (f : α -> α) (c : α) (n : Nat) : Prop where
 pos : 0 < n
 ret : itn f n c = c
 least : ∀ i, 0 < i -> i < n -> itn f i c ≠ c
theorem Per.eq {c : α} {m n : Nat} (h : Per f c m) (k : Per f c n) : m = n := by
 rcases Nat.lt_trichotomy m n with e | e | e
 ·exact absurd h.ret (k.least m h.pos e)
 ·exact e
 ·exact absurd k.ret (h.least n k.pos e)
theorem zmt [DecidableEq α] : ∀ {l m : List α}, l.Nodup -> (∀ x ∈ l, x ∈ m) -> l.length <= m.length
 | [], m, _, _ => Nat.zero_le _
 | a :: l, m, hn, hs => by
  obtain ⟨h1, h2⟩ := List.nodup_cons.1 hn;have ha := hs a (by simp);have := zmt (l := l) (m := m.erase a) h2 fun x hx => by
   have hne : x ≠ a := fun e => h1 (e ▸ hx);exact (List.mem_erase_of_ne hne).2 (hs x (by simp [hx]))
  rw [List.length_erase_of_mem ha] at this;have hp := List.length_pos_of_mem ha;simp only [List.length_cons];omega
section
variable [DecidableEq α] {C : List α} (hcl : ∀ c ∈ C, f c ∈ C) (hinj : ∀ a ∈ C, ∀ b ∈ C, f a = f b -> a = b)
include hcl in
theorem zsy {c : α} (hc : c ∈ C) : ∀ n, itn f n c ∈ C
 | 0 => hc
 | n + 1 => by rw [zfl]; exact hcl _ (zsy hc n)
include hcl hinj in
theorem itn_back {c : α} (hc : c ∈ C) : ∀ (i j : Nat), itn f (i + j) c = itn f i c -> itn f j c = c
 | 0, j, h => by rw [Nat.zero_add] at h; exact h
 | i + 1, j, h => by
  rw [show i + 1 + j = (i + j) + 1 by omega, zfl, zfl] at h;exact itn_back hc i j (hinj _ (zsy hcl hc _) _ (zsy hcl hc _) h)
theorem nodup_of_get {l : List α} (h : ∀ i j, i < j -> j < l.length -> l[i]? ≠ l[j]?) : l.Nodup := by
 induction l with
 | nil => exact List.nodup_nil
 | cons a l ih =>
  refine List.nodup_cons.2 ⟨fun ha => ?_, ih fun i j hij hj => by have := h (i + 1) (j + 1) (by omega) (by simp; omega); simpa using this⟩;obtain ⟨j, hj⟩ := List.mem_iff_getElem?.1 ha;have hl := (List.getElem?_eq_some_iff.1 hj).1;exact h 0 (j + 1) (by omega) (by simp; omega) (by simp [hj])
include hcl hinj in
theorem orb_nodup {c : α} (hc : c ∈ C) {n : Nat} (h : ∀ i, 0 < i -> i < n -> itn f i c ≠ c) : (orb f n c).Nodup := by
 refine nodup_of_get fun i j hij hj => ?_;rw [zlh] at hj;rw [zvl (by omega), zvl hj];intro e;have e : itn f i c = itn f j c := by injection e
 have := itn_back hcl hinj hc i (j - i) (by rw [show i + (j - i) = j by omega]; exact e.symm);exact h (j - i) (by omega) (by omega) this
include hcl hinj in
theorem per_ex {c : α} (hc : c ∈ C) : ∃ n, Per f c n /\ n <= C.length := by
 have h1 : ∃ n, 0 < n /\ n <= C.length /\ itn f n c = c := by
  apply Classical.byContradiction
  intro hno;have hnd : (orb f (C.length + 1) c).Nodup := orb_nodup hcl hinj hc fun i h0 hi e => hno ⟨i, h0, by omega, e⟩;have := zmt hnd (m := C) fun x hx => by
   obtain ⟨i, _, rfl⟩ := zek.1 hx;exact zsy hcl hc i
  rw [zlh] at this;omega
 obtain ⟨n, h1⟩ := h1;induction n using Nat.strongRecOn with
 | _ n ih =>
  by_cases hl : ∃ i, 0 < i /\ i < n /\ itn f i c = c
  ·obtain ⟨i, a, b, e⟩ := hl;exact ih i b ⟨a, by omega, e⟩
  ·exact ⟨n, ⟨h1.1, h1.2.2, fun i a b e => hl ⟨i, a, b, e⟩⟩, h1.2.1⟩
include hcl hinj in
theorem Per.next {c : α} (hc : c ∈ C) {n : Nat} (h : Per f c n) : Per f (f c) n := by
 have comm : ∀ i, Go.Proofs.YtdddknniooimmaaGreat.itn f i (f c) = f (Go.Proofs.YtdddknniooimmaaGreat.itn f i c) := fun i => (zfl (f := f) i c).symm ▸ rfl;refine ⟨h.pos, by rw [comm, h.ret], fun i a b e => ?_⟩;rw [comm] at e;exact h.least i a b (hinj _ (zsy hcl hc i) _ hc e)
include hcl hinj in
theorem Per.itn {c : α} (hc : c ∈ C) {n : Nat} (h : Per f c n) : ∀ i, Per f (itn f i c) n
 | 0 => h
 | i + 1 => by rw [zfl]; exact (Per.itn hc h i).next hcl hinj (zsy hcl hc i)
theorem Per.mod {c : α} {n : Nat} (h : Per f c n) (i : Nat) : Go.Proofs.YtdddknniooimmaaGreat.itn f i c = Go.Proofs.YtdddknniooimmaaGreat.itn f (i % n) c := by
 have h1 : ∀ k, Go.Proofs.YtdddknniooimmaaGreat.itn f (n * k) c = c := by
  intro k;induction k with
  | zero => rfl
  | succ k ih => rw [Nat.mul_succ, zpi, ih, h.ret]
 conv => lhs; rw [<- Nat.div_add_mod i n, zpi, h1]
theorem Per.orb_mem {c d : α} {n : Nat} (h : Per f c n) (hd : d ∈ orb f n c) : ∀ x, x ∈ orb f n d ↔ x ∈ orb f n c := by
 obtain ⟨k, hk, rfl⟩ := zek.1 hd;intro x;constructor
 ·intro hx;obtain ⟨i, hi, rfl⟩ := zek.1 hx;rw [<- zpi, h.mod];exact zek.2 ⟨_, Nat.mod_lt _ h.pos, rfl⟩
 ·intro hx;obtain ⟨i, hi, rfl⟩ := zek.1 hx;refine zek.2 ⟨(i + n - k) % n, Nat.mod_lt _ h.pos, ?_⟩;rw [<- zpi, h.mod i, h.mod (k + _)]
  congr 1
  rw [Nat.add_mod, Nat.mod_mod, <- Nat.add_mod, show k + (i + n - k) = i + n by omega, Nat.add_mod_right]
end
end
def zjk (a b : zf) : Prop := a.y < b.y \/ (a.y = b.y /\ a.x < b.x)
theorem lowC_irr (a : zf) : ¬ zjk a a := by unfold zjk; omega
theorem zsw {a b : zf} (h : zjk a b) : ¬ zjk b a := by unfold zjk at *; omega
theorem lowC_tri (a b : zf) : zjk a b \/ a = b \/ zjk b a := by
 obtain ⟨x, y⟩ := a; obtain ⟨u, v⟩ := b;unfold zjk; simp only [zf.mk.injEq]; omega
theorem lowC_step {c : Crk} (h : ¬ zjk c.q c.p) : c.h = .e \/ c.h = .n := by
 obtain ⟨⟨x, y⟩, k⟩ := c;cases k <;> simp [zjk, Crk.q, stp] at h ⊢ <;> omega
theorem least_one {S : zf -> Bool} {c d : Crk} (hc : isC S c = true) (hd : isC S d = true) (e : c.p = d.p) (h1 : ¬ zjk c.q c.p) (h2 : ¬ zjk d.q d.p) : c = d := by
 have k1 := lowC_step h1;have k2 := lowC_step h2;obtain ⟨p, h⟩ := c;obtain ⟨p', k⟩ := d;simp only at e k1 k2;subst e;rw [outB_of] at hc hd;rcases k1 with rfl | rfl <;> rcases k2 with rfl | rfl <;> simp [outB] at hc hd ⊢ <;> simp_all

def zhb (S : zf -> Bool) (C : List Crk) : Prop := ∀ c, c ∈ C ↔ isC S c = true
theorem zhb.cl {S : zf -> Bool} {C : List Crk} (h : zhb S C) : ∀ c ∈ C, suc S c ∈ C := fun c hc => (h _).2 (suc_is ((h c).1 hc))
theorem zhb.inj {S : zf -> Bool} {C : List Crk} (h : zhb S C) : ∀ a ∈ C, ∀ b ∈ C, suc S a = suc S b -> a = b := fun a ha b hb e => suc_inj ((h a).1 ha) ((h b).1 hb) e
def IsLp (S : zf -> Bool) (L : List Crk) : Prop := ∃ c n, isC S c = true /\ Per (suc S) c n /\ L = orb (suc S) n c /\ ∀ d ∈ L, d ≠ c -> zjk c.p d.p
def lowL (L M : List Crk) : Prop := ∃ c d, L.head? = some c /\ M.head? = some d /\ zjk c.p d.p
structure Lps (S : zf -> Bool) (Ls : List (List Crk)) : Prop where
 each : ∀ L ∈ Ls, IsLp S L
 cover : ∀ c, isC S c = true -> ∃ L ∈ Ls, c ∈ L
 sorted : Ls.Pairwise lowL
theorem orb_head {α : Type} {f : α -> α} {n : Nat} {c : α} (h : 0 < n) : (orb f n c).head? = some c := by
 cases n with
 | zero => omega
 | succ n => rfl
theorem zvk {α : Type} {f : α -> α} {n : Nat} {c : α} (h : 0 < n) : c ∈ orb f n c := zek.2 ⟨0, h, rfl⟩
theorem orb_isC {S : zf -> Bool} {c d : Crk} (hc : isC S c = true) {n : Nat} (h : d ∈ orb (suc S) n c) : isC S d = true := by
 obtain ⟨i, hi, rfl⟩ := zek.1 h;clear h hi;induction i generalizing c with
 | zero => exact hc
 | succ i ih => exact ih (suc_is hc)
theorem pw_uniq {α : Type} {R : α -> α -> Prop} : ∀ {l m : List α}, l.Pairwise R -> m.Pairwise R -> (∀ x, x ∈ l ↔ x ∈ m) -> (∀ a ∈ l, ∀ b ∈ l, R a b -> ¬ R b a) -> l = m
 | [], m, _, _, h, _ => by
  cases m with
  | nil => rfl
  | cons b m => have := (h b).2 (by simp); cases this
 | a :: l, [], _, _, h, _ => by have := (h a).1 (by simp); cases this
 | a :: l, b :: m, h1, h2, h, has => by
  obtain ⟨k1, k1'⟩ := List.pairwise_cons.1 h1;obtain ⟨k2, k2'⟩ := List.pairwise_cons.1 h2;have hab : a = b := by
   rcases List.mem_cons.1 ((h a).1 (by simp)) with e | ha
   ·exact e
   ·rcases List.mem_cons.1 ((h b).2 (by simp)) with e | hb
    ·exact e.symm
    ·exact absurd (k2 a ha) (has a (by simp) b (by simp [hb]) (k1 b hb))
  subst hab;have irr : ¬ R a a := fun hr => has a (by simp) a (by simp) hr hr
  congr 1
  refine pw_uniq k1' k2' (fun x => ?_) fun x hx y hy => has x (by simp [hx]) y (by simp [hy]);constructor
  ·intro hx;rcases List.mem_cons.1 ((h x).1 (by simp [hx])) with rfl | hm
   ·exact absurd (k1 x hx) irr
   ·exact hm
  ·intro hx;rcases List.mem_cons.1 ((h x).2 (by simp [hx])) with rfl | hm
   ·exact absurd (k2 x hx) irr
   ·exact hm
theorem lp_uniq {S : zf -> Bool} {L M : List Crk} (hL : IsLp S L) (hM : IsLp S M) {x : Crk} (h1 : x ∈ L) (h2 : x ∈ M) {C : List Crk} (hC : zhb S C) : L = M := by
 obtain ⟨c, n, hc, pc, rfl, lc⟩ := hL;obtain ⟨d, m, hd, pd, rfl, ld⟩ := hM;have e1 := pc.orb_mem h1;have e2 := pd.orb_mem h2;obtain ⟨i, hi, rfl⟩ := zek.1 h1;have px : Per (suc S) (itn (suc S) i c) n := pc.itn hC.cl hC.inj ((hC c).2 hc) i;have px2 : Per (suc S) (itn (suc S) i c) m := by
  obtain ⟨j, hj, e⟩ := zek.1 h2;rw [e];exact pd.itn hC.cl hC.inj ((hC d).2 hd) j
 have hnm := px.eq px2;subst hnm;have hcd : c = d := by
  apply Classical.byContradiction
  intro hne;have a1 : d ∈ orb (suc S) n c := (e1 d).1 ((e2 d).2 (zvk pd.pos));have a2 : c ∈ orb (suc S) n d := (e2 c).1 ((e1 c).2 (zvk pc.pos));exact zsw (lc d a1 (Ne.symm hne)) (ld c a2 hne)
 rw [hcd]
theorem lps_uniq {S : zf -> Bool} {C : List Crk} (hC : zhb S C) {Ls Ms : List (List Crk)} (h : Lps S Ls) (k : Lps S Ms) : Ls = Ms := by
 refine pw_uniq h.sorted k.sorted (fun L => ?_) fun L _ M _ ⟨c, d, e1, e2, hlt⟩ ⟨d', c', e3, e4, hlt'⟩ => by
  rw [e1] at e4; rw [e2] at e3;cases e3; cases e4;exact zsw hlt hlt'
 have key : ∀ {Ls Ms : List (List Crk)}, Lps S Ls -> Lps S Ms -> ∀ L, L ∈ Ls -> L ∈ Ms := by
  intro Ls Ms h k L hL;have hl := h.each L hL;obtain ⟨c, n, hc, pc, rfl, lc⟩ := hl;obtain ⟨M, hM, hm⟩ := k.cover c hc;have := lp_uniq (h.each _ hL) (k.each M hM) (zvk pc.pos) hm hC;rw [this]; exact hM
 exact ⟨key h k L, key k h L⟩

def ztj (h : Hd) : List Crk -> List zf
 | [] => []
 | d :: t => if d.h = h then ztj d.h t else d.p :: ztj d.h t
def zdp : List Crk -> List zf
 | [] => []
 | c :: t => c.p :: ztj c.h t
def lastH (h : Hd) : List Crk -> Hd
 | [] => h
 | d :: t => lastH d.h t
theorem zuu : ∀ (h : Hd) (A B : List Crk), ztj h (A ++ B) = ztj h A ++ ztj (lastH h A) B
 | h, [], B => rfl
 | h, d :: A, B => by
  simp only [List.cons_append, ztj, lastH];rw [zuu d.h A B];split <;> rfl
theorem lastH_orb {S : zf -> Bool} : ∀ {n : Nat} {c : Crk} (h : Hd), 0 < n -> lastH h (orb (suc S) n c) = (itn (suc S) (n - 1) c).h
 | 0, c, h, hn => absurd hn (Nat.lt_irrefl 0)
 | 1, c, h, _ => rfl
 | n + 2, c, h, _ => by
  have := lastH_orb (S := S) (n := n + 1) (c := suc S c) c.h (by omega);simp only [Nat.add_sub_cancel] at this;rw [orb];exact this
end Go.Proofs.YtdddknniooimmaaGreat

namespace Go.Proofs.YtdddknniooimmaaGreat
open Go.Abs

theorem lp_pred {S : zf -> Bool} {C : List Crk} (hC : zhb S C) {c d : Crk} {n : Nat} (hc : isC S c = true) (pc : Per (suc S) c n) (hd : isC S d = true) (h : suc S d ∈ orb (suc S) n c) : d ∈ orb (suc S) n c := by
 obtain ⟨i, hi, e⟩ := zek.1 h;have e2 : suc S d = suc S (itn (suc S) (i + (n - 1)) c) := by
  rw [show suc S (itn (suc S) (i + (n - 1)) c) = itn (suc S) (i + (n - 1) + 1) c from (zfl _ c).symm, show i + (n - 1) + 1 = n + i by have := pc.pos; omega, zpi, pc.ret, e]
 have := suc_inj hd (orb_isC hc (by rw [pc.mod]; exact zek.2 ⟨_, Nat.mod_lt _ pc.pos, rfl⟩)) e2;rw [this, pc.mod];exact zek.2 ⟨_, Nat.mod_lt _ pc.pos, rfl⟩

structure Fam (S : zf -> Bool) (Ls : List (List Crk)) : Prop where
 each : ∀ L ∈ Ls, IsLp S L
 sorted : Ls.Pairwise lowL
def onF (Ls : List (List Crk)) (c : Crk) : Prop := ∃ L ∈ Ls, c ∈ L
theorem Fam.pred {S : zf -> Bool} {C : List Crk} (hC : zhb S C) {Ls : List (List Crk)} (h : Fam S Ls) {d : Crk} (hd : isC S d = true) (k : onF Ls (suc S d)) : onF Ls d := by
 obtain ⟨L, hL, hm⟩ := k;obtain ⟨c, n, hc, pc, rfl, _⟩ := h.each L hL;exact ⟨_, hL, lp_pred hC hc pc hd hm⟩
theorem Fam.off {S : zf -> Bool} {C : List Crk} (hC : zhb S C) {Ls : List (List Crk)} (h : Fam S Ls) {c : Crk} (hc : isC S c = true) (k : ¬ onF Ls c) : ∀ i, ¬ onF Ls (itn (suc S) i c) /\ isC S (itn (suc S) i c) = true
 | 0 => ⟨k, hc⟩
 | i + 1 => by
  obtain ⟨h1, h2⟩ := Fam.off hC h hc k i;rw [zfl];exact ⟨fun h3 => h1 (h.pred hC h2 h3), suc_is h2⟩
instance (a b : zf) : Decidable (zjk a b) := inferInstanceAs (Decidable (_ \/ _))
structure zej (A : List (zf × List Hd)) (rem : Crk -> Prop) : Prop where
 keys : (A.map (·.1)).Nodup
 some : ∀ p hs, zan A p = some hs -> hs ≠ [] /\ hs.Nodup
 mem : ∀ p h, rem ⟨p, h⟩ ↔ ∃ hs, zan A p = Option.some hs /\ h ∈ hs
theorem zrf {α β : Type} [DecidableEq α] {a : α} : ∀ {l : List (α × β)}, zfk a l = none ↔ a ∉ l.map (·.1)
 | [] => by simp [zfk]
 | p :: l => by
  unfold zfk;by_cases h : a = p.1
  ·simp [h]
  ·simp only [if_neg h, Option.map_eq_none_iff, zrf (l := l), List.map_cons, List.mem_cons];simp [h]
theorem keys_put {α β : Type} [DecidableEq α] {l : List (α × β)} (h : (l.map (·.1)).Nodup) (a : α) (b : β) : ((zcz l a b).map (·.1)).Nodup := by
 unfold zcz;have hp := zdw (a := a) l;cases hpos : zfk a l with
 | none =>
  have := zrf.1 hpos;simp only [List.map_append, List.map_cons, List.map_nil];rw [List.nodup_append];refine ⟨h, by simp, fun x hx y hy => ?_⟩;simp at hy; subst hy;exact fun e => this (e ▸ hx)
 | some j =>
  rw [hpos] at hp;obtain ⟨b', hb, _⟩ := hp;have : (l.set j (a, b)).map (·.1) = l.map (·.1) := by
   rw [List.map_set];refine List.ext_getElem? fun i => ?_;rw [List.getElem?_set];split
   ·rename_i e;subst e;split
    ·simp [hb]
    ·rename_i hn; rw [List.length_map] at hn; rw [List.getElem?_eq_none (by simpa using hn)]
   ·rfl
  simp only [this]; exact h
theorem keys_del {α β : Type} [DecidableEq α] {l : List (α × β)} (h : (l.map (·.1)).Nodup) (a : α) : ((delL l a).map (·.1)).Nodup := by
 unfold delL;cases zfk a l with
 | none => exact h
 | some j => exact h.sublist ((List.eraseIdx_sublist ..).map _)
theorem getL_delL {α β : Type} [DecidableEq α] : ∀ {l : List (α × β)} (h : (l.map (·.1)).Nodup) (a c : α), zan (delL l a) c = if c = a then none else zan l c
 | [], _, a, c => by simp [delL, zfk, zan]
 | p :: l, h, a, c => by
  obtain ⟨h1, h2⟩ := List.nodup_cons.1 h;have ih := getL_delL h2 a c;have hnone : ∀ x, x ∉ l.map (·.1) -> zan l x = none := fun x hx => by
   have := zdw (a := x) l;rw [zrf.2 hx] at this;exact this
  unfold delL zfk;by_cases hp : a = p.1
  ·rw [if_pos hp];simp only [List.eraseIdx_cons_zero, zan];by_cases hc : c = a
   ·rw [if_pos hc, hc, hp]; exact hnone _ h1
   ·rw [if_neg hc, if_neg (fun e => hc (e.trans hp.symm))]
  ·rw [if_neg hp];unfold delL at ih;cases hpos : zfk a l with
   | none =>
    rw [hpos] at ih;simp only [Option.map_none, zan] at ih ⊢;by_cases hc : c = p.1
    ·rw [if_pos hc, if_neg (fun e => hp (e.symm.trans hc))]
    ·rw [if_neg hc]; exact ih
   | some j =>
    rw [hpos] at ih;simp only [Option.map_some, List.eraseIdx_cons_succ, zan] at ih ⊢;by_cases hc : c = p.1
    ·rw [if_pos hc, if_pos hc, if_neg (fun e => hp (e.symm.trans hc))]
    ·rw [if_neg hc, if_neg hc]; exact ih
def zab (A : List (zf × List Hd)) (p : zf) : List Hd := (zan A p).getD []
def takeA (A : List (zf × List Hd)) (c : Crk) : List (zf × List Hd) := if (zab A c.p).length = 1 then delL A c.p else zcz A c.p ((zab A c.p).erase c.h)
theorem zej.heads {A : List (zf × List Hd)} {rem : Crk -> Prop} (h : zej A rem) (p : zf) (k : Hd) : k ∈ zab A p ↔ rem ⟨p, k⟩ := by
 rw [h.mem];unfold zab;cases zan A p with
 | none => simp
 | some hs => simp
theorem zej.take {A : List (zf × List Hd)} {rem : Crk -> Prop} (h : zej A rem) {c : Crk} (hc : rem c) : zej (takeA A c) fun d => rem d /\ d ≠ c := by
 obtain ⟨hs, hg, hm⟩ := (h.mem c.p c.h).1 hc;obtain ⟨h1, h2⟩ := h.some _ _ hg;have hh : zab A c.p = hs := by simp [zab, hg]
 unfold takeA;rw [hh];split
 ·rename_i hl;refine ⟨keys_del h.keys _, fun p ks hk => ?_, fun p k => ?_⟩
  ·rw [getL_delL h.keys] at hk;split at hk
   ·cases hk
   ·exact h.some _ _ hk
  ·rw [getL_delL h.keys];by_cases e : p = c.p
   ·subst e;rw [if_pos rfl];simp only [reduceCtorEq, false_and, exists_false, iff_false, not_and, Classical.not_not];intro hr;obtain ⟨ks, e1, e2⟩ := (h.mem _ _).1 hr;rw [hg] at e1; cases e1;obtain ⟨a, rfl⟩ := List.length_eq_one_iff.1 hl;simp at hm e2;rw [e2, <- hm]
   ·rw [if_neg e, <- h.mem];constructor
    ·exact And.left
    ·intro hr; exact ⟨hr, fun e' => e (by rw [<- e'])⟩
 ·rename_i hl;refine ⟨keys_put h.keys _ _, fun p ks hk => ?_, fun p k => ?_⟩
  ·rw [zdc] at hk;split at hk
   ·cases hk;refine ⟨fun e => ?_, h2.sublist (List.erase_sublist ..)⟩;have q1 := congrArg List.length e;rw [List.length_erase_of_mem hm] at q1;have q2 := List.length_pos_iff.2 h1;rw [List.length_nil] at q1;omega
   ·exact h.some _ _ hk
  ·rw [zdc];by_cases e : p = c.p
   ·subst e;rw [if_pos rfl];simp only [Option.some.injEq, exists_eq_left'];rw [h2.mem_erase_iff, h.mem];constructor
    ·rintro ⟨⟨ks, e1, e2⟩, hne⟩;rw [hg] at e1; cases e1;exact ⟨fun e => hne (by rw [e]), e2⟩
    ·rintro ⟨hne, hk⟩;exact ⟨⟨hs, hg, hk⟩, fun e => hne (by rw [<- e])⟩
   ·rw [if_neg e, <- h.mem];constructor
    ·exact And.left
    ·intro hr; exact ⟨hr, fun e' => e (by rw [<- e'])⟩
theorem zej.congr {A : List (zf × List Hd)} {rem rem' : Crk -> Prop} (h : zej A rem) (k : ∀ c, rem c ↔ rem' c) : zej A rem' := ⟨h.keys, h.some, fun p x => (k _).symm.trans (h.mem p x)⟩
def zdj (A : List (zf × List Hd)) (l : List Crk) : List (zf × List Hd) := l.foldl takeA A
theorem zuz (A : List (zf × List Hd)) (f : Crk -> Crk) (n : Nat) (c : Crk) : zdj A (orb f (n + 1) c) = takeA (zdj A (orb f n c)) (itn f n c) := by
 rw [zvj, zdj, List.foldl_append]; rfl
theorem zej.walk {A : List (zf × List Hd)} {rem : Crk -> Prop} (h : zej A rem) {f : Crk -> Crk} {c : Crk} {n : Nat} (hr : ∀ i, i < n -> rem (itn f i c)) (hn : (orb f n c).Nodup) : ∀ m, m <= n -> zej (zdj A (orb f m c)) fun d => rem d /\ d ∉ orb f m c
 | 0, _ => h.congr fun d => by simp [orb]
 | m + 1, hm => by
  rw [zuz];have ih := zej.walk h hr hn m (by omega);refine (ih.take ⟨hr m (by omega), fun hmem => ?_⟩).congr fun d => by rw [zvj]; simp [and_assoc]
  have e1 : orb f n c = orb f m c ++ (itn f m c :: orb f (n - m - 1) (itn f (m + 1) c)) := by
   have : orb f n c = orb f (m + (n - m - 1 + 1)) c := by congr 1; omega
   rw [this, orb_add];simp only [orb];rw [zfl]
  rw [e1] at hn;exact (List.nodup_append.1 hn).2.2 _ hmem _ (by simp) rfl
def pickH (hs : List Hd) (h : Hd) : Hd := if h.l ∈ hs then h.l else if h ∈ hs then h else h.r
theorem pickH_eq {S : zf -> Bool} {q : zf} {hs : List Hd} {h : Hd} (hall : ∀ k ∈ hs, isC S ⟨q, k⟩ = true) (hin : nxH S q h ∈ hs) : pickH hs h = nxH S q h := by
 unfold pickH nxH at *;by_cases h1 : isC S ⟨q, h.l⟩ = true
 ·rw [if_pos h1] at hin ⊢;rw [if_pos hin]
 ·rw [if_neg h1] at hin ⊢;rw [if_neg (fun k => h1 (hall _ k))];by_cases h2 : isC S ⟨q, h⟩ = true
  ·rw [if_pos h2] at hin ⊢;rw [if_pos hin]
  ·rw [if_neg h2, if_neg (fun k => h2 (hall _ k))]
theorem polyOf_succ {S : zf -> Bool} {c : Crk} {m : Nat} : zdp (orb (suc S) (m + 2) c) = if (itn (suc S) (m + 1) c).h = (itn (suc S) m c).h then zdp (orb (suc S) (m + 1) c) else zdp (orb (suc S) (m + 1) c) ++ [(itn (suc S) (m + 1) c).p] := by
 rw [zvj]
 show zdp ((c :: orb (suc S) m (suc S c)) ++ [_]) = if _ then zdp (c :: orb (suc S) m (suc S c)) else _
 simp only [List.cons_append, zdp];rw [zuu];have : lastH c.h (orb (suc S) m (suc S c)) = (itn (suc S) m c).h := by
  cases m with
  | zero => rfl
  | succ j => rw [lastH_orb _ (by omega)]; simp only [Nat.add_sub_cancel, itn]
 rw [this];simp only [ztj];split
 ·simp
 ·first | rfl | simp [zdp]

abbrev znr (h : Hd) : List D := [.int .i64 h.int]
abbrev zdq (l : List Hd) : D := .sl (l.map znr)
theorem left_ok (h : Hd) : PC Tryz.prog 142 [.int .i64 h.int] (.p (.int .i64 h.l.int)) := by
 refine pw cx Tryz.func142 Tryz.ntmps142 ?_;refine rg cx ?_;have e1 : IntKind.wrap .i64 (h.int + 1) = h.int + 1 := wrap_i64 (by cases h <;> decide) (by cases h <;> decide);have e2 : (h.int + 1).tmod 4 = h.l.int := by cases h <;> rfl
 refine rx cx [] (fun K hK => by simp [push_cast, e1, e2]; (repeat refine ob ?_); exact hK) ?_;simp [push_cast]
theorem right_ok (h : Hd) : PC Tryz.prog 143 [.int .i64 h.int] (.p (.int .i64 h.r.int)) := by
 refine pw cx Tryz.func143 Tryz.ntmps143 ?_;refine rg cx ?_;have e1 : IntKind.wrap .i64 (h.int + 3) = h.int + 3 := wrap_i64 (by cases h <;> decide) (by cases h <;> decide);have e2 : (h.int + 3).tmod 4 = h.r.int := by cases h <;> rfl
 refine rx cx [] (fun K hK => by simp [push_cast, e1, e2]; (repeat refine ob ?_); exact hK) ?_;simp [push_cast]
theorem from_ok (h : Hd) (p : zf) (hp : -1000000 <= p.x /\ p.x <= 1000000 /\ -1000000 <= p.y /\ p.y <= 1000000) : PC Tryz.prog 141 [.int .i64 h.int, .agg p.row] (.p (.agg (stp h p).row)) := by
 have e1 := wI (p.x + 1);have e2 := wI (p.x - 1);have e3 := wI (p.y + 1);have e4 := wI (p.y - 1);obtain ⟨x, y⟩ := p;simp only at e1 e2 e3 e4;refine pw cx Tryz.func141 Tryz.ntmps141 ?_;iterate 3 refine rg cx ?_
 cases h
 ·simp only [Hd.int, stp];refine awp_cd true (fun hb => ?_) fun hb => ?_
  ·refine rx cx [] (fun K hK => by simp [push_cast, e1]; (repeat refine ob ?_); exact hK) ?_;refine rg cx ?_;simp [push_cast]
  ·simp at hb
 ·simp only [Hd.int, stp];refine awp_cd false (fun hb => ?_) fun hb => ?_
  ·simp at hb
  ·refine rg cx ?_;refine awp_cd true (fun hb => ?_) fun hb => ?_
   ·refine rx cx [] (fun K hK => by simp [push_cast, e3]; (repeat refine ob ?_); exact hK) ?_;refine rg cx ?_;simp [push_cast]
   ·simp at hb
 ·simp only [Hd.int, stp];refine awp_cd false (fun hb => ?_) fun hb => ?_
  ·simp at hb
  ·refine rg cx ?_;refine awp_cd false (fun hb => ?_) fun hb => ?_
   ·simp at hb
   ·refine rg cx ?_;refine awp_cd true (fun hb => ?_) fun hb => ?_
    ·refine rx cx [] (fun K hK => by simp [push_cast, e2]; (repeat refine ob ?_); exact hK) ?_;refine rg cx ?_;simp [push_cast]
    ·simp at hb
 ·simp only [Hd.int, stp];refine awp_cd false (fun hb => ?_) fun hb => ?_
  ·simp at hb
  ·refine rg cx ?_;refine awp_cd false (fun hb => ?_) fun hb => ?_
   ·simp at hb
   ·refine rg cx ?_;refine awp_cd false (fun hb => ?_) fun hb => ?_
    ·simp at hb
    ·refine rx cx [] (fun K hK => by simp [push_cast, e4]; (repeat refine ob ?_); exact hK) ?_;refine rg cx ?_;simp [push_cast]
def zlj (h : Hd) : List Hd -> Int
 | [] => -1
 | k :: l => if h = k then 0 else if zlj h l = -1 then -1 else zlj h l + 1
theorem idxH_ge (h : Hd) : ∀ l, -1 <= zlj h l
 | [] => by simp [zlj]
 | k :: l => by unfold zlj; have := idxH_ge h l; split <;> (try split) <;> omega
theorem idxH_le (h : Hd) : ∀ l, zlj h l < l.length
 | [] => by simp [zlj]
 | k :: l => by unfold zlj; have := idxH_le h l; simp only [List.length_cons]; split <;> (try split) <;> omega
theorem zvu (h : Hd) : ∀ l, 0 <= zlj h l ↔ h ∈ l
 | [] => by simp [zlj]
 | k :: l => by
  unfold zlj;have h1 := zvu h l;have h2 := idxH_ge h l;by_cases e : h = k
  ·simp [e]
  ·rw [if_neg e];simp only [List.mem_cons, e, false_or, <- h1];split <;> omega
theorem idxH_at (h : Hd) : ∀ (l : List Hd) (i : Nat), l[i]? = some h -> h ∉ l.take i -> zlj h l = i
 | [], i, hi, _ => by simp at hi
 | k :: l, 0, hi, _ => by simp at hi; simp [zlj, hi]
 | k :: l, i + 1, hi, hn => by
  simp only [List.take_succ_cons, List.mem_cons, not_or] at hn;have := idxH_at h l i (by simpa using hi) hn.2;unfold zlj;rw [if_neg hn.1, this, if_neg (by omega)];simp
theorem index_ok (l : List Hd) (h : Hd) (hl : l.length <= 1000000) : PC Tryz.prog 211 [zdq l, .int .i64 h.int] (.p (.int .i64 (zlj h l))) := by
 refine pw cx Tryz.func211 Tryz.ntmps211 ?_;refine rg cx ?_;refine rg cx ?_;refine zu (β := Nat) (fun k => ⟨19, [(0, .d (zdq l)), (1, .d (.int .i64 h.int)), (6, .d (zdq l)), (7, .d (.int .i64 l.length)), (8, .d (.int .i64 k))], [], 0⟩) (fun k => k <= l.length /\ h ∉ l.take k) (fun k => l.length - k) 0 ?_ ⟨Nat.zero_le _, by simp⟩ ?_
 ·refine wk []
 ·rintro k ⟨hk, hpre⟩;refine Nav.imp ?_;refine rg cx ?_;refine awp_cd (decide ((k : Int) < l.length)) (fun hb => ?_) fun hb => ?_
  ·have hlt : k < l.length := by simpa using hb
   obtain ⟨q, hq⟩ := zap hlt;have e0 := wI ((k : Int) + 1);refine rg cx ?_;refine rx cx [] (fun K hK => by simp [push_cast, hq]; (repeat refine ob ?_); exact hK) ?_;by_cases e : h = q
   ·subst e;have hi := idxH_at h l k hq hpre;refine awp_cd true (fun hb => ?_) fun hb => ?_
    ·refine rg cx ?_;simp [push_cast, hi]
    ·simp at hb
   ·have e1 : ¬ h.int = q.int := fun e2 => e (Hd.int_inj e2);refine awp_cn false (by simp [push_cast, e1]) (fun hb => ?_) fun hb => ?_
    ·simp at hb
    ·refine rx cx [] (fun K hK => by simp [push_cast, e0]; (repeat refine ob ?_); exact hK) ?_;refine ⟨k + 1, ⟨hlt, fun hm => ?_⟩, by omega, ?_⟩
     ·rw [zat hq] at hm;simp only [List.mem_append, List.mem_singleton] at hm;rcases hm with hm | hm
      ·exact hpre hm
      ·exact e hm
     ·refine wk []
  ·have hke : k = l.length := by simp at hb; omega
   subst hke;rw [List.take_length] at hpre;have hi : zlj h l = -1 := by
    have h1 := zvu h l;have h2 := idxH_ge h l;have h3 : ¬ 0 <= zlj h l := fun h4 => hpre (h1.1 h4);omega
   refine rg cx ?_;simp [push_cast, hi]
theorem hcont_ok (l : List Hd) (h : Hd) (hl : l.length <= 1000000) : PC Tryz.prog 144 [zdq l, .int .i64 h.int] (.p (.bool (decide (h ∈ l)))) := by
 have c1 := index_ok l h hl;have e1 : decide (0 <= zlj h l) = decide (h ∈ l) := by rw [Bool.eq_iff_iff]; simp [zvu]
 generalize zlj h l = i at *;refine pw cx Tryz.func144 Tryz.ntmps144 ?_;refine rg cx ?_;refine rx cx [(2, .p (.int .i64 i))] (fun K hK => by simp [push_cast, c1]; (repeat refine ob ?_); exact hK) ?_;simp [push_cast, e1]
theorem hclone_ok (l : List Hd) (hl : l.length <= 1000000) : PC Tryz.prog 213 [zdq l] (.o 178 1 (l.map znr)) := by
 have h16 : l.length * 16 <= 140737488355328 := by omega
 refine pw cx Tryz.func213 Tryz.ntmps213 ?_;refine rg cx ?_;refine rg cx ?_;refine awp_ub 4 (by simp [push_cast]; exact ⟨rfl, rfl⟩) fun bu hu1 hu2 => ?_;refine awp_cd bu (fun hb => ?_) fun hb => ?_
 ·have hl0 : l = [] := by simpa using hu1 hb
  subst hl0;refine rg cx ?_;simp [push_cast]
 ·refine rx cx [] (fun K hK => by simp [push_cast, h16]; (repeat refine ob ?_); exact hK) ?_;simp [push_cast]
end Go.Proofs.YtdddknniooimmaaGreat

namespace Go.Abs
variable [Flag]
open Go.Shelf Go.RowKit Go.Lib Go.Sort Go.Proofs

theorem int_px2 {P : Program} {f : FuncId} (hent : zha P f) (e : TypeId) {zs ys : List Int} (a b : Int) (hn : 0 < zs.length) (hlen : ys.length = zs.length) (rv : Nat -> Nat -> Value) (rA : AV)
  (hrep : ∀ (g : G) (w : World) (L : Loc), g.used 0 -> g.loc 0 = some L -> (L.virt = false /\ L.map = false) -> zs.length <= L.cap -> zi g w rA (rv L.blk L.cap))
  (hc : ∀ (blk cap : Nat) (w : World), Holds zkc w blk 0 zs.toArray -> blk < w.heap.size -> zs.length <= cap -> cap <= maxLen -> Calls P f #[.slice (some ⟨blk, 0, none⟩) zs.length cap, .int .i64 a, .int .i64 b] w fun e w' => e = .returned (rv blk cap) /\ ∃ n os, w' = grow (putRow zkc (Go.Sort.ahead w n) blk 0 ys.toArray) os) :
  PX P f [.hs 0 0 zs.length, .d (.int .i64 a), .d (.int .i64 b)] [(0, ⟨e, 1, dr (zs.map zbu)⟩)] [(0, 0)] [(0, ⟨e, 1, dr (ys.map zbu)⟩)] rA := by
 refine ⟨hent, fun g w vs h hu hvs => ?_⟩;simp only [zk, zi, zv] at hvs;obtain ⟨v0, _, rfl, h0, _, _, rfl, rfl, _, _, rfl, rfl, rfl⟩ := hvs;obtain ⟨L0, hL, hok⟩ := h.own 0 ⟨e, 1, dr (zs.map zbu)⟩ (by simp [zfy, find]);have hkm : L0.m = 1 := hok.m;have hlenr : (dr (zs.map zbu)).length = zs.length := by simp [dr]
 have hvirt : L0.virt = false := by
  cases hv : L0.virt with
  | false => rfl
  | true =>
   have h2 : (dr (zs.map zbu)).length = 0 := by rw [show dr (zs.map zbu) = [] from hok.virt hv]; rfl
   omega
 have hflat : L0.virt = false /\ L0.map = false := by
  rcases h0.2 L0 hL with ⟨hv, _⟩ | ⟨hv, _⟩
  ·rw [hvirt] at hv; cases hv
  ·exact hv
 have hvm := hflat.2;obtain ⟨cur, hR, hcs, hcap, hrows⟩ := hok.cells hflat;have hR' := hR;obtain ⟨el0, fr0, hblk, hx1, hx2⟩ := hR';have e0 : v0 = .slice (some ⟨L0.blk, 0, none⟩) zs.length L0.cap := by
  rcases h0.2 L0 hL with ⟨hv, _⟩ | ⟨_, _, hv⟩
  ·rw [hvirt] at hv; cases hv
  ·rw [hv]; simp
 have hcapl : zs.length <= L0.cap := by have := hok.len hvm; rw [hlenr] at this; exact this
 have hblt : L0.blk < w.heap.size := (Array.getElem?_eq_some_iff.1 hblk).1;have hcsz : cur.size = L0.cap := by rw [hcs, hkm]; simp
 have hget : ∀ i (hi : i < zs.length), cur[i]? = some (zkc zs[i]) := fun i hi => by
  have hrow := hrows i ((zbu zs[i]).map AV.d) (by simp [dr, hi]);obtain ⟨u, hu1, hu2, hu3⟩ := hrow.2 0 (.d (.int .i64 zs[i])) (by simp);rw [hkm] at hu1;simp only [zi, zv] at hu3;rw [hu3] at hu1;simpa using hu1
 have hH : Holds zkc w L0.blk 0 zs.toArray := by
  intro j hj;have hj' : j < zs.length := by simpa using hj
  have h1 := hget j hj';refine ⟨?_, ?_⟩
  ·simp only [World.cell?, hblk, Nat.zero_add, Option.isSome_none, Bool.false_eq_true, if_false];rw [h1, getElem!_pos zs.toArray j hj];simp
  ·simpa using hR.open (o := j) (by omega)
 rw [e0];refine (hc L0.blk L0.cap w hH hblt hcapl hcap).mono ?_;rintro ex w' ⟨rfl, n, os, rfl⟩;have hbs : zgc ((grow (putRow zkc (Go.Sort.ahead w n) L0.blk 0 ys.toArray) os).heap[L0.blk]?) e (Go.Sort.putCells zkc 0 ys.toArray cur) := ⟨el0, fr0, zts w L0.blk n ys.toArray os hblk, hx1, by simp only [Go.Sort.putCells, Array.size_mapIdx]; exact hx2⟩
 obtain ⟨g', h1, h2, h3, h4, h5, h6⟩ := zah.write h hL hflat (id' := 0) (.inl rfl) ⟨e, 1, dr (ys.map zbu)⟩ (Go.Sort.putCells zkc 0 ys.toArray cur) (w' := grow (putRow zkc (Go.Sort.ahead w n) L0.blk 0 ys.toArray) os) (cap := L0.cap) (B := L0.blk) rfl ⟨rfl, .inr (drawn_rowI _ _ _ _ _)⟩ rfl (size_rowI _ _ _ _ _)
  (fun b hb hne => heap_rowI _ _ _ _ _ hb hne) (.inl rfl) hbs hkm.symm hok.pos (by simp only [Go.Sort.putCells, Array.size_mapIdx]; rw [hcs]) (by simp [dr]; omega) hcap (fun _ => ⟨rfl, rfl⟩) (by
   intro i row hi;have hil : i < ys.length := by have := (List.getElem?_eq_some_iff.1 hi).1; simpa [dr] using this
   have hrow : row = (zbu ys[i]).map AV.d := by
    have : (dr (ys.map zbu))[i]? = some ((zbu ys[i]).map AV.d) := by simp [dr, hil]
    rw [this] at hi; exact (Option.some.inj hi).symm
   subst hrow;refine ⟨by simp [hkm], fun j av hj => ?_⟩;have hj0 : j = 0 := by have := (List.getElem?_eq_some_iff.1 hj).1; simp at this; omega
   subst hj0;have hav : av = .d (.int .i64 ys[i]) := by simpa using hj.symm
   subst hav;refine ⟨zkc ys[i], ?_, rfl, by simp only [zi, zv]⟩;rw [hkm];have hic : i < cur.size := by omega
   simp only [Go.Sort.putCells, Nat.mul_one, Nat.add_zero, Array.getElem?_mapIdx, Array.getElem?_eq_getElem hic, Option.map_some];rw [if_pos ⟨Nat.zero_le _, by simp; omega⟩];have : ys.toArray[i - 0]! = ys[i] := by rw [Nat.sub_zero, getElem!_pos ys.toArray i (by simpa using hil)]; simp
   rw [this])
 refine ⟨_, g', rfl, ?_, ?_, h5, ?_⟩
 ·have : (zbj (zbj (zfy [(0, ⟨e, 1, dr (zs.map zbu)⟩)]) 0 none) 0 (some ⟨e, 1, dr (ys.map zbu)⟩)) = zfy [(0, ⟨e, 1, dr (ys.map zbu)⟩)] := by
   funext x
   simp only [zbj, zfy, find];by_cases hx : x = 0
   ·subst hx; simp
   ·have hx' : ¬ (0 = x) := fun h => hx h.symm;simp [hx, hx']
  rw [<- this]; exact h4
 ·exact hrep g' _ ⟨L0.blk, L0.m, L0.cap, false, false⟩ (by rw [h2]; exact .inr rfl) h1 ⟨rfl, rfl⟩ hcapl
 ·intro i j hij;simp only [List.mem_cons, List.not_mem_nil, or_false, Prod.mk.injEq] at hij;obtain ⟨rfl, rfl⟩ := hij;rw [h1, hL];cases L0; simp_all

theorem deleteE_px {P : Program} {ρ : Ren} (L : SlLaysE.n45 P ρ) (hent : zha P (ρ.f 45)) (e : TypeId) (v23 : ∀ w, (zeroValue (ρ.t 23)).run P w = .ok (zkc 0) w) (hi0 : (P.info? (ρ.t 23)).map (fun i => i.size) = some 1) (zs : List Int) (i j : Nat) (hn : 0 < zs.length) (hij : i <= j) (hj : j <= zs.length) :
  PX P (ρ.f 45) [.hs 0 0 zs.length, .d (.int .i64 i), .d (.int .i64 j)] [(0, ⟨e, 1, dr (zs.map zbu)⟩)] [(0, 0)] [(0, ⟨e, 1, dr ((zs.take i ++ zs.drop j ++ List.replicate (j - i) 0).map zbu)⟩)] (.hs 0 0 (zs.length - (j - i))) := by
 simp only [Option.map_eq_some_iff] at hi0;obtain ⟨i0, h0, h1⟩ := hi0;refine int_px2 hent e i j hn (by simp; omega) (fun blk cap => .slice (some ⟨blk, 0, none⟩) (zs.length - (j - i)) cap) _ (fun g w L hu hL hv hcap => ?_) fun blk cap w hH hb hcap hm => ?_
 ·exact zrc (L := L) (w := w) hu hL hv (len := zs.length - (j - i)) (by omega)
 ·have hs : zs.toArray.size = zs.length := by simp
  have := AnyE.slices_Delete L zkc (fun _ => rfl) (0 : Int) v23 i0 h0 h1 blk 0 cap i j zs.toArray w hH (by simpa using hcap) (by simpa [maxLen] using hm) hij (by simpa using hj);rw [hs] at this;refine this.mono ?_;rintro ex w' ⟨h1, q, h2⟩;exact ⟨h1, q, #[], by rw [grow_empty]; simpa using h2⟩
end Go.Abs

namespace Go.Proofs.YtdddknniooimmaaGreat
open Go.Abs Go.Shelf

def delH_ren : Go.Shelf.Ren := ⟨fun | 45 => 212 | n => n, fun | 22 => 121 | 23 => 178 | n => n, fun n => n⟩
theorem delH_lays : SlLaysE.n45 Tryz.prog delH_ren where
 mixed := by kernel_rfl
 f45 := ⟨Tryz.f212.name, by kernel_rfl, Tryz.func212.trans (congrArg some (by kernel_rfl))⟩
 t0 := Tryz.underlying0
 a0 := Tryz.isAgg0
 z0 := Tryz.sizeOf0
 v0 := Tryz.zeroValue0
 t3 := Tryz.underlying3
 a3 := Tryz.isAgg3
 z3 := Tryz.sizeOf3
 v3 := Tryz.zeroValue3
 t4 := Tryz.underlying4
 a4 := Tryz.isAgg4
 z4 := Tryz.sizeOf4
 v4 := Tryz.zeroValue4
 t22 := Tryz.underlying121
 a22 := Tryz.isAgg121
 z22 := Tryz.sizeOf121
 v22 := Tryz.zeroValue121
 a23 := Tryz.isAgg178
 z23 := Tryz.sizeOf178
theorem hdelete_px (zs : List Int) (i : Nat) (hi : i < zs.length) : PX Tryz.prog 212 [.hs 0 0 zs.length, .d (.int .i64 i), .d (.int .i64 (i + 1))] [(0, ⟨178, 1, dr (zs.map zbu)⟩)] [(0, 0)] [(0, ⟨178, 1, dr ((zs.eraseIdx i ++ [0]).map zbu)⟩)] (.hs 0 0 (zs.length - 1)) := by
 have h := deleteE_px delH_lays ⟨_, Tryz.func212, by kernel_rfl, by kernel_rfl⟩ 178 (fun w => Tryz.zeroValue178 w) (by kernel_rfl) zs i (i + 1) (by omega) (by omega) (by omega);rw [show i + 1 - i = 1 by omega] at h;rw [List.eraseIdx_eq_take_drop_succ];exact h

abbrev zfa (A : List (zf × List Hd)) : List (List D) := zmo (fun c : zf => .agg c.row) zdq A
theorem zlp (a b : zf) : eqK (.agg a.row) (.agg b.row) = some (decide (a = b)) := by
 obtain ⟨x, y⟩ := a;obtain ⟨u, v⟩ := b;simp [eqK, eqD];by_cases h1 : x = u <;> by_cases h2 : y = v <;> simp [h1, h2]
theorem look_c (p : zf) (A : List (zf × List Hd)) : zgx .nl false (zhg (.agg p.row) (dr (zfa A))) (zdq (zab A p)) = True := by
 rw [show dr (zfa A) = dr (zmo (fun c : zf => D.agg c.row) zdq A) from rfl, zsx (kd := fun c : zf => D.agg c.row) (vd := zdq) zlp p A];unfold zab;cases zan A p <;> simp [zgx, outD, zdq]
theorem del_c (p : zf) (A : List (zf × List Hd)) : delR (.agg p.row) (dr (zfa A)) = some (dr (zfa (delL A p))) := delR_row (kd := fun c : zf => D.agg c.row) (vd := zdq) zlp p A
theorem put_c (p : zf) (x : AV) (A : List (zf × List Hd)) {j : Nat} (h : zfk p A = some j) : zlw (.agg p.row) x (dr (zfa A)) = some ((dr (zfa A)).set j [.d (.agg p.row), x]) := by
 unfold zlw;rw [zre (kd := fun c : zf => D.agg c.row) (vd := zdq) zlp p A, h]
theorem fzR_setR (id : Nat) (rs : List (List D)) (k : D) (x : AV) : ∀ (R : List (List D)) (j : Nat), fzR id rs ((dr R).set j [.d k, x]) = (dr R).set j [.d k, fz id rs x]
 | [], j => rfl
 | r :: R, 0 => by
  show fzL id rs [.d k, x] :: fzR id rs (dr R) = [.d k, fz id rs x] :: dr R
  rw [zbx]; rfl
 | r :: R, j + 1 => by
  show fzL id rs (r.map AV.d) :: fzR id rs ((dr R).set j [.d k, x]) = r.map AV.d :: (dr R).set j [.d k, fz id rs x]
  rw [zbm, fzR_setR id rs k x R j]
theorem dr_setD (R : List (List D)) (j : Nat) (k x : D) : (dr R).set j [.d k, .d x] = dr (R.set j [k, x]) := by
 simp [dr, List.map_set]
theorem idxH_erase (h : Hd) : ∀ (l : List Hd) (i : Nat), zlj h l = i -> l.eraseIdx i = l.erase h
 | [], i, _ => by simp
 | k :: l, i, hi => by
  unfold zlj at hi;by_cases e : h = k
  ·rw [if_pos e] at hi;have : i = 0 := by omega
   subst this; subst e;simp
  ·rw [if_neg e] at hi;split at hi
   ·omega
   ·have hg := idxH_ge h l;obtain ⟨j, rfl⟩ : ∃ j, i = j + 1 := ⟨i - 1, by omega⟩
    have := idxH_erase h l j (by omega);simp only [List.eraseIdx_cons_succ, this];rw [List.erase_cons_tail (by simpa using fun e' => e e'.symm)]

set_option maxHeartbeats 4000000 in
theorem take_px (A : List (zf × List Hd)) (c : Crk) (hc : c.h ∈ zab A c.p) (hl : (zab A c.p).length <= 1000) :
  PX Tryz.prog 140 [.hm 0, .d (.agg c.p.row), .d (.int .i64 c.h.int)] [(0, ⟨118, mapM, dr (zfa A)⟩)] [(0, 0)] [(0, ⟨118, mapM, dr (zfa (takeA A c))⟩)] (.d (.bool true)) := by
 have hA : takeA A c = if (zab A c.p).length = 1 then delL A c.p else zcz A c.p ((zab A c.p).erase c.h) := rfl
 have c1 := index_ok (zab A c.p) c.h (by omega);have l1 := look_c c.p A;have d1 := del_c c.p A;have i0 := (zvu c.h (zab A c.p)).2 hc;have i1 := idxH_le c.h (zab A c.p);obtain ⟨i, hi⟩ : ∃ i : Nat, zlj c.h (zab A c.p) = i := ⟨(zlj c.h (zab A c.p)).toNat, by omega⟩
 have he := idxH_erase c.h _ i hi;have hpos : ∃ j, zfk c.p A = some j /\ zcz A c.p ((zab A c.p).erase c.h) = A.set j (c.p, (zab A c.p).erase c.h) := by
  have hg := zdw (a := c.p) A;unfold zcz;cases hp : zfk c.p A with
  | none =>
   rw [hp] at hg;simp only at hg;unfold zab at hc;rw [hg] at hc;simp at hc
  | some j => exact ⟨j, rfl, rfl⟩
 obtain ⟨j, hj, hput⟩ := hpos;have p1 := fun x => put_c c.p x A hj;rw [hi] at c1 i0 i1;rw [hput] at hA;rw [<- he] at hA;have c3 := hclone_ok (zab A c.p) (by omega);have c4 := fun h => hdelete_px ((zab A c.p).map Hd.int) i h;rw [List.length_map, show ((zab A c.p).map Hd.int).map zbu = (zab A c.p).map znr from by simp] at c4;have hel : ((zab A c.p).eraseIdx i).length = (zab A c.p).length - 1 := by rw [List.length_eraseIdx, if_pos (by omega)]
 have hme : ((zab A c.p).map Hd.int).eraseIdx i = ((zab A c.p).eraseIdx i).map Hd.int := (Go.ChangeMaps.map_eraseIdx _ _ _).symm;have hys : ((((zab A c.p).map Hd.int).eraseIdx i ++ [0]).map zbu).take ((zab A c.p).length - 1) = ((zab A c.p).eraseIdx i).map znr := by
  rw [hme, List.map_append, List.take_left' (by rw [List.length_map, List.length_map, hel])];simp
 have hyl : ((((zab A c.p).map Hd.int).eraseIdx i ++ [0]).map zbu).length = (zab A c.p).length := by
  rw [hme, List.length_map, List.length_append, List.length_map, hel]; simp; omega
 generalize (((zab A c.p).map Hd.int).eraseIdx i ++ [0]).map zbu = ys at *;obtain ⟨⟨x, y⟩, h⟩ := c;simp only at *;generalize zab A ⟨x, y⟩ = hs at *;generalize h.int = hn at *;rw [hA];refine zeo cx (fn := Tryz.f140) (c := _) 1 Tryz.func140 rfl rfl (lB rfl) rfl rfl fun Ls => ?_;rw [Tryz.ntmps140]; refine Nav.imp ?_;refine rg cx ?_;refine rx cx [(2, .p (zdq hs)), (4, .p (.int .i64 i))] (fun K hK => by simp [push_cast, c1, l1]; (repeat refine ob ?_); exact hK) ?_;have hb0 : decide ((i : Int) < 0) = false := by simp
 refine rg cx ?_;refine awp_cn false (by simp [push_cast, hb0]) (fun hb => ?_) fun hb => ?_
 ·simp at hb
 ·refine rx cx [(2, .p (zdq hs))] (fun K hK => by simp [push_cast, l1]; (repeat refine ob ?_); exact hK) ?_;by_cases h1 : hs.length = 1
  ·rw [if_pos h1];refine awp_cn true (by simp [push_cast, h1]) (fun hb => ?_) fun hb => ?_
   ·refine rx cx [] (fun K hK => by simp [push_cast, d1]; (repeat refine ob ?_); exact hK) ?_;refine rg cx ?_;first | refine rx_r [(0, 0)] ?_ | refine rx_n [(0, 0)] ?_
    simp [push_cast];try decide
   ·simp at hb
  ·rw [if_neg h1];have hb1 : ¬ ((hs.length : Int) = 1) := by omega
   refine awp_cn false (by simp [push_cast, hb1]) (fun hb => ?_) fun hb => ?_
   ·simp at hb
   ·have w1 := wI ((i : Int) + 1);refine rd cx mixed [(4, .p (zdq hs)), (5, .o 178 1 (hs.map znr)), (9, .x ⟨[(0, 21)], [.hs 0 0 hs.length, .d (.int .i64 i), .d (.int .i64 (i + 1))], [(0, ⟨178, 1, dr (hs.map znr)⟩)], [(0, 0)], none, [(0, ⟨178, 1, dr ys⟩)], .hs 0 0 (hs.length - 1)⟩)] (fun K hK => by simp [push_cast, l1, c3, c4, w1, p1]; (repeat refine ob ?_); exact hK) ?_;have hf := fzR_setR 21 ys (.agg [.int .i64 x, .int .i64 y]) (.hs 21 0 (hs.length - 1)) (zfa A) j;have hz : fz 21 ys (.hs 21 0 (hs.length - 1)) = .d (.sl ((hs.eraseIdx i).map znr)) := by
     simp only [fz, if_true, Nat.zero_add, List.drop_zero];rw [if_pos (by omega), hys]
    rw [hz, dr_setD] at hf;refine zaq 21 (ys) rfl (by simp [push_cast, hf]) fun K hK => ?_;simp [push_cast, St.fz, fzT, fzH, fzO, fz, fzL, fzR, zbx, zbo, zbn, zbm, hf];refine nx hK ?_; clear hK K;refine rg cx ?_;first | refine rx_r [(0, 0)] ?_ | refine rx_n [(0, 0)] ?_
    simp [push_cast, zmo, List.map_set];try decide
    rw [dr_setD];exact rnR_dr _ _
end Go.Proofs.YtdddknniooimmaaGreat

namespace Go.Abs
variable [Flag]
open Go.RowKit

section
variable {P : Program} {g : G} {w : World} {t kt et : TypeId} {kti eti : TI}

theorem entry_run {obj : Nat -> Option Ob} (h : zah g obj w) (hu : P.underlying t = some (.map kt et)) (hk : TOk P kt kti) (het : TOk P et eti) (hz : zup eti = .nl) {id : Nat} {o : Ob} (ho : obj id = some o) {L : Loc} (hL : g.loc id = some L) (hv : L.virt = false /\ L.map = true)
  {k : D} {kv : Value} (hf : zcj kti k = true) (hkv : zv g.ro w k kv) {r : Option AV} (hl : zhg k o.rows = some r) {rows1 : List (List AV)} (hp : zlw k (r.getD .nl) o.rows = some rows1) :
  ∃ w1 g1 val es1 clock1 j e, (Instr.mapEntry t (.map (some L.blk)) kv).run P w = .ok (.tuple #[val, goInt e.born]) w1 /\ zah g1 (zbj obj id (some ⟨o.elem, o.m, rows1⟩)) w1 /\ zam g w g1 w1 /\ zbt g w g1 w1 /\ (∀ k, g1.used k -> g.used k) /\ g1.loc id = some L /\
   w1.heap[L.blk]? = some (.map es1 clock1) /\ MapKept.Stamped es1 clock1 /\ es1[j]? = some e /\ e.key = kv /\ zi g1 w1 (r.getD .nl) val /\ zep k rows1 = some (some j) := by
 obtain ⟨L', hL', hok⟩ := h.own id o ho;rw [hL] at hL'; cases hL';obtain ⟨_, es, clock, hb, hst, hes⟩ := hok.ents hv;have hlt : L.blk < w.heap.size := ((h.live id L hL).2 hv.1).1;unfold zhg at hl;unfold zlw at hp;have locs : ∀ {g1 : G} {w1 : World}, zbt g w g1 w1 -> zah g1 (zbj obj id (some ⟨o.elem, o.m, rows1⟩)) w1 -> g1.loc id = some L := by
  intro g1 w1 hlat hrel;obtain ⟨M, hM, _⟩ := hrel.own id ⟨o.elem, o.m, rows1⟩ (by simp [zbj]);rcases hlat.loc id (h.live id L hL).1 with e | e
  ·rw [e, hL]
  ·rw [hM] at e; cases e
 cases hq : zep k o.rows with
 | none => rw [hq] at hp; cases hp
 | some q =>
  rw [hq] at hp hl;have hs := znh hkv hes hq;have hrun := zmi hk hf hkv hes hq;cases q with
  | none =>
   simp only [Option.some.injEq] at hl;subst hl;simp only [Option.getD_none, Option.some.injEq] at hp ⊢;subst hp;obtain ⟨z, hzr, hzrep⟩ := het.zeroOne hz (by simp) g w;have hst' := MapKept.stamped_push hst (key := kv) (val := z) hs;obtain ⟨g', h1, h2, h3, h4⟩ := zik h ho hL hok hv hb hst' (o.rows ++ [[.d k, .nl]]) (by rw [Array.toList_push]; exact hes.append (by simp only [zad, zk]; exact ⟨_, [], rfl, ⟨kv, _, rfl, by simpa only [zi] using hkv, z, _, rfl, hzrep, rfl⟩, rfl⟩));refine ⟨_, g', z, _, _, es.size, ⟨kv, z, clock⟩, ?_, h1, h2, h3, h4, locs h3 h1, (MapKept.heap_set hb).1, hst', by simp, rfl, zi.later h3 _ _ hzrep, ?_⟩
   ·simp [Instr.mapEntry, run_underlying hu, MapKept.run_getObj_map hb, zfh hk hf hkv, hrun, hzr, MapKept.run_setObj_map _ hb, Result.andThen]
   ·have hlen : o.rows.length = es.size := by
     have : ∀ {rows : List (List AV)} {l : List MapEntry}, zad g w rows l -> rows.length = l.length := by
      intro rows;induction rows with
      | nil => intro l hl; simp only [zad] at hl; simp [hl]
      | cons r rs ih => intro l hl; simp only [zad] at hl; obtain ⟨e, l', rfl, _, h2⟩ := hl; simp [ih h2]
     simpa using this hes
    rw [<- hlen];have hself : eqK k k = some true := by
     cases k with
     | int q a => simp [eqK]
     | agg cs =>
      simp only [eqK];simp only [zcj] at hf;split at hf
      ·simp only [Bool.and_eq_true] at hf;have : ∀ l : List D, l.all ztq = true -> eqD 1 l l = some true := by
        intro l;induction l with
        | nil => intro _; rfl
        | cons x l ih =>
         intro hx;simp only [List.all_cons, Bool.and_eq_true] at hx;cases x with
         | int q a => simp [eqD, ih hx.2]
         | _ => simp [ztq] at hx
       exact this cs hf.2
      ·cases hf
     | _ => simp [zcj] at hf
    have app : ∀ (rows : List (List AV)), zep k rows = some none -> zep k (rows ++ [[.d k, .nl]]) = some (some rows.length) := by
     intro rows;induction rows with
     | nil => intro _; simp [zep, hself]
     | cons r rs ih =>
      intro hr;rw [List.cons_append];unfold zep at hr ⊢;split at hr
      ·rename_i k' a;split at hr
       ·cases hr
       ·rename_i hq2;simp only [Option.map_eq_some_iff] at hr;obtain ⟨x, hx, hx2⟩ := hr;cases x with
        | some x => cases hx2
        | none => simp [hq2, ih hx]
       ·cases hr
      ·cases hr
    exact app _ hq
  | some j =>
   obtain ⟨e, a, e1, e2, ⟨k', e3⟩, e4⟩ := hs;simp only [e3, Option.some.injEq] at hl;subst hl;simp only [Option.getD_some, Option.some.injEq] at hp ⊢;subst hp;have hj : es[j]? = some e := by simpa using e1
   have hmod : (es.modify j fun e => { e with key := kv }).toList = es.toList.set j { e with key := kv } := by rw [Array.toList_modify, ChangeMaps.modify_eq_set _ _ _ _ e1]
   have hst' := MapKept.stamped_modify hst j (fun e => { e with key := kv }) (fun _ _ => rfl) (fun e' _ he' => by rw [hj] at he'; cases he'; exact e2.symm);obtain ⟨g', h1, h2, h3, h4⟩ := zik h ho hL hok hv hb hst' (o.rows.set j [.d k, a]) (by rw [hmod]; exact zad.set (by simp only [zk]; exact ⟨kv, _, rfl, by simpa only [zi] using hkv, e.val, _, rfl, e4, rfl⟩) j hes);have hjl : j < es.size := (Array.getElem?_eq_some_iff.1 hj).1;refine ⟨_, g', e.val, _, _, j, { e with key := kv }, ?_, h1, h2, h3, h4, locs h3 h1, (MapKept.heap_set hb).1, hst', by simp [Array.getElem?_modify, hj], rfl, zi.later h3 _ _ e4, ?_⟩
   ·simp [Instr.mapEntry, run_underlying hu, MapKept.run_getObj_map hb, zfh hk hf hkv, hrun, hj, e2, stays_run hf hkv, MapKept.run_setObj_map _ hb, Result.andThen]
   ·have hself : eqK k k = some true := by
     cases k with
     | int q a => simp [eqK]
     | agg cs =>
      simp only [eqK];simp only [zcj] at hf;split at hf
      ·simp only [Bool.and_eq_true] at hf;have : ∀ l : List D, l.all ztq = true -> eqD 1 l l = some true := by
        intro l;induction l with
        | nil => intro _; rfl
        | cons x l ih =>
         intro hx;simp only [List.all_cons, Bool.and_eq_true] at hx;cases x with
         | int q a => simp [eqD, ih hx.2]
         | _ => simp [ztq] at hx
       exact this cs hf.2
      ·cases hf
     | _ => simp [zcj] at hf
    have sets : ∀ (rows : List (List AV)) (j : Nat), zep k rows = some (some j) -> zep k (rows.set j [.d k, a]) = some (some j) := by
     intro rows;induction rows with
     | nil => intro j hr; simp [zep] at hr
     | cons r rs ih =>
      intro j hr;unfold zep at hr;split at hr
      ·rename_i k' a';split at hr
       ·cases hr;simp [zep, hself]
       ·rename_i hq2;simp only [Option.map_eq_some_iff] at hr;obtain ⟨_, hx, x, rfl, rfl⟩ := hr;simp only [List.set_cons_succ];unfold zep;simp [hq2, ih x hx]
       ·cases hr
      ·cases hr
    exact sets _ _ hq

theorem entry_store {obj : Nat -> Option Ob} (h : zah g obj w) {id : Nat} {o : Ob} (ho : obj id = some o) {L : Loc} (hL : g.loc id = some L) (hv : L.virt = false /\ L.map = true) {es : Array MapEntry} {clock : Nat} (hb : w.heap[L.blk]? = some (.map es clock)) {j : Nat} {e : MapEntry} (hj : es[j]? = some e)
  {k : D} {kv : Value} (hkv : zv g.ro w k kv) (he : e.key = kv) {x : AV} {v : Value} (hx : zi g w x v) (hp : zep k o.rows = some (some j)) :
  ∃ w' g', (Instr.entryStore t (.map (some L.blk)) (goInt e.born) v).run P w = .ok () w' /\ zah g' (zbj obj id (some ⟨o.elem, o.m, o.rows.set j [.d k, x]⟩)) w' /\ zam g w g' w' /\ zbt g w g' w' /\ (∀ k, g'.used k -> g.used k) := by
 obtain ⟨L', hL', hok⟩ := h.own id o ho;rw [hL] at hL'; cases hL';obtain ⟨_, es', clock', hb', hst, hes⟩ := hok.ents hv;rw [hb] at hb'; cases hb';have hfind : es.findIdx? (fun x => (x.born : Int) == (e.born : Int)) = some j := by
  rw [Array.findIdx?_eq_some_iff_getElem];obtain ⟨hlt, rfl⟩ := Array.getElem?_eq_some_iff.1 hj;refine ⟨hlt, by simp, fun i hi => ?_⟩;have hnd := hst.2.1;have := List.pairwise_iff_getElem.1 hnd i j (by simp; omega) (by simpa using hlt) hi;simp only [List.getElem_map, Array.getElem_toList] at this;simp; omega
 have e1 : es.toList[j]? = some e := by simpa using hj
 have hmod : (es.modify j fun e => { e with val := v }).toList = es.toList.set j { e with val := v } := by rw [Array.toList_modify, ChangeMaps.modify_eq_set _ _ _ _ e1]
 have hst' := MapKept.stamped_modify hst j (fun e => { e with val := v }) (fun _ _ => rfl) (fun e' _ he' => rfl);obtain ⟨g', h1, h2, h3, h4⟩ := zik h ho hL hok hv hb hst' (o.rows.set j [.d k, x]) (by rw [hmod]; exact zad.set (by simp only [zk]; exact ⟨_, _, rfl, by simp only [zi]; rw [he]; exact hkv, v, _, rfl, hx, rfl⟩) j hes);refine ⟨_, g', ?_, h1, h2, h3, h4⟩;simp [Instr.entryStore, MapKept.run_getObj_map hb, asInt, asIntOf, goInt, hfind, MapKept.run_setObj_map _ hb, Result.andThen]
end

theorem zcy {a : Act} {t : Tmp} {v : Value} (h : t < a.tmps.size) : (a.put (some t) v).tmps.getD t undef = v := by
 simp [Act.put, Array.getD_eq_getD_getElem?, Array.getElem?_setIfInBounds, h]
theorem zce {a : Act} {t u : Tmp} {v : Value} (h : u ≠ t) : (a.put (some t) v).tmps.getD u undef = a.tmps.getD u undef := by
 simp [Act.put, Array.getD_eq_getD_getElem?, Array.getElem?_setIfInBounds_ne (Ne.symm h)]
theorem zgo {a : Act} {t : Option Tmp} {v : Value} : (a.put t v).tmps.size = a.tmps.size := by cases t <;> simp [Act.put]

theorem zok {P : Program} {ty : TypeId -> Option TI} (hc : Ctx P ty) (orc : List (Nat × Res)) {rid : Nat} {l : List Oper} (pre : List Oper) (o1 o2 o3 o4 o5 : Oper) (hl : l = pre ++ [o1, o2, o3, o4, o5])
  {T S kt et e : TypeId} {tm tk tx t1 t2 t3 t4 : Tmp} {c : Call} (g1 : o1.guard = none) (g2 : o2.guard = none) (g3 : o3.guard = none) (g4 : o4.guard = none) (g5 : o5.guard = none)
  (h1 : o1.op = .mapEntry T (.tmp tm) (.tmp tk)) (d1 : o1.dst = some t1) (h2 : o2.op = .extract (.tmp t1) 0) (d2 : o2.dst = some t2)
  (h3 : o3.op = .call c) (hcb : c.callee = .builtin .append) (hca : c.argTypes = #[S, S]) (hcx : c.args = #[.tmp t2, .tmp tx]) (d3 : o3.dst = some t3)
  (h4 : o4.op = .extract (.tmp t1) 1) (d4 : o4.dst = some t4) (h5 : o5.op = .entryStore T (.tmp tm) (.tmp t4) (.tmp t3)) (d5 : o5.dst = none)
  (ht : tm ≠ t1 /\ tm ≠ t2 /\ tm ≠ t3 /\ tm ≠ t4 /\ tx ≠ t1 /\ tx ≠ t2 /\ t2 ≠ t1 /\ t3 ≠ t1 /\ t3 ≠ t2 /\ t4 ≠ t1 /\ t4 ≠ t2 /\ t4 ≠ t3)
  {ti kti eti si te : TI} (hT : ty T = some ti) (hTk : ti.kind = .map kt et) (hkt : ty kt = some kti) (het : ty et = some eti) (hz : zup eti = .nl) (hS : ty S = some si) (hSk : si.kind = .slice e) (he : ty e = some te) (hpos : 0 < te.size) (hbpos : 0 < te.bytes)
  (I : St) {id : Nat} {o : Ob} {k : D} {r : Option AV} {rows1 rows3 r1 r2 : List (List AV)} {wr : List (Nat × Option Ob)} {p1 p2 : Prop} (hm : I.get tm = .hm id) (hk : I.get tk = .d k) (hf : zcj kti k = true) (ho : I.obj id = some o)
  (hr : r = none \/ ∃ i n', r = some (.hs i 0 (n' + 1))) (hlk : zhg k o.rows = some r) (hp : zlw k (r.getD .nl) o.rows = some rows1)
  (hd : zed (zbj I.obj id (some ⟨o.elem, o.m, rows1⟩)) e te.size (r.getD .nl) = some (r1, wr, p1)) (hp1 : p1) (hsrc : zcx (zbj I.obj id (some ⟨o.elem, o.m, rows1⟩)) te.size (I.get tx) = some (r2, p2)) (hp2 : p2)
  (hb : (r1.length + r2.length) * te.bytes <= 140737488355328) (hp3 : zlw k (.hs I.nxt 0 (r1.length + r2.length)) rows1 = some rows3) (hwr : zcm (zbj I.obj id (some ⟨o.elem, o.m, rows1⟩)) (wr ++ [(I.nxt, some ⟨e, te.size, r1 ++ r2⟩)]) id = some ⟨o.elem, o.m, rows1⟩)
  (hn : t1 < I.n /\ t2 < I.n /\ t3 < I.n /\ t4 < I.n) {Q : Exit -> St -> Prop} {s : St}
  (hw : ∀ K : St -> Prop, (∀ s', zei s' I -> K s') -> wpT ty P orc (l.map (·.dst)) s.nxt 0 pre { s with nxt := s.nxt + l.length } K)
  (hQ : Q .normal ⟨I.n, (t4, .any) :: (t3, .hs I.nxt 0 (r1.length + r2.length)) :: (t2, .any) :: (t1, .any) :: I.tm, (id, some ⟨o.elem, o.m, rows3⟩) :: zdi ((id, some ⟨o.elem, o.m, rows1⟩) :: I.hp) (wr ++ [(I.nxt, some ⟨e, te.size, r1 ++ r2⟩)]), I.nxt + 1⟩) : AWp P (.region rid l.toArray false) Q s := by
 intro g a w hrel0;refine wp_region ?_;have hgs : ∀ j : Nat, (l.map (·.dst))[j]? = (l.toArray[j]?).map fun o : Oper => o.dst := by intro j; simp
 have hlen : l.length = pre.length + 5 := by rw [hl]; simp
 have key : wpList P l.toArray (fun e a' w' => ∃ s' g', zcn s' g' a' w' /\ zam g w g' w' /\ Q e s') l a w := by
  have h3' := zfb (P := P) hc (orc := orc) (gs := l.map (·.dst)) (ops := l.toArray) hgs (base := s.nxt) (nxt := s.nxt + l.length)
   (Q := fun e a' w' => ∃ s' g', zcn s' g' a' w' /\ zam g w g' w' /\ Q e s') (g0 := g) (w0 := w) (l2 := [o1, o2, o3, o4, o5]) (en := pre.length) (n0 := s.n) (K := fun s1 => zei s1 I) ?_ pre 0 { s with nxt := s.nxt + l.length } g a w (by simp) rfl rfl ⟨hrel0.defers, hrel0.size, hrel0.tmp, fun id hu => by have := hrel0.used id hu; simpa using this, hrel0.heap⟩ (zam.refl g w) (hw _ fun _ hq => hq)
  ·rw [<- hl] at h3'; exact h3'
  ·intro s1 ga aa wa hnx1 hn0 hrel hst hwk;have hr1 : zcn s1 ga aa wa := ⟨hrel.defers, hrel.size, hrel.tmp, fun id hu => by have := hrel.used id hu; show id < s1.nxt; rw [hnx1]; omega, hrel.heap⟩
   obtain ⟨gb, R0, hsb⟩ := hwk ga aa wa hr1;have hstb := hst.trans hsb
   -- the temporaries
   obtain ⟨n1, n2, n3, n4, n5, n6, n7, n8, n9, n10, n11, n12⟩ := ht;have hsz := R0.size;have htm0 := R0.tmp tm;have htk0 := R0.tmp tk;have htx0 := R0.tmp tx;rw [hm] at htm0;rw [hk] at htk0;obtain ⟨L, hL, hok⟩ := R0.heap.own id o ho;have hmv : (L.virt = false /\ L.map = true) /\ aa.tmps.getD tm undef = .map (some L.blk) := by
    simp only [zi] at htm0;exact htm0.2 L hL
   obtain ⟨hv, hmv⟩ := hmv;have hu : P.underlying T = some (.map kt et) := zrn (hc.ok T ti hT) hTk;have hkv : zv gb.ro wa k (aa.tmps.getD tk undef) := by simpa only [zi] using htk0
   -- the entry
   obtain ⟨w1, gc, val, es1, clock1, j, en, run1, H1, S1, L1, U1, hL1, hb1, hst1, hj1, hkey1, hval1, hpos1⟩ := entry_run R0.heap hu (hc.ok kt kti hkt) (hc.ok et eti het) hz ho hL hv hf hkv hlk hp;have ex1 : (execOp aa.eval o1).run P wa = .ok (.value (.tuple #[val, goInt en.born])) w1 := by
    simp only [execOp, h1, Act.eval, hmv, Sem.run_bind, run1, Result.andThen_ok, Sem.run_pure]
   have R1 := zcb (U' := (· < I.nxt)) (dst := some t1) (v := .any) (u := .tuple #[val, goInt en.born]) R0 H1 L1 (fun k hk => R0.used k (U1 k hk)) (by simp [zi]) (fun d hd => by cases hd; exact hn.1)
   -- its value
   have ev1 : (aa.put (some t1) (.tuple #[val, goInt en.born])).tmps.getD t1 undef = .tuple #[val, goInt en.born] := zcy (by rw [hsz]; exact hn.1);have ex2 : (execOp (aa.put (some t1) (.tuple #[val, goInt en.born])).eval o2).run P w1 = .ok (.value val) w1 := by
    simp only [execOp, h2, Act.eval, ev1];simp [Instr.extract]
   have same1 : zbt gc w1 gc w1 := ⟨fun b hb => ⟨hb, rfl⟩, fun _ hx => hx, fun _ _ => .inl rfl⟩
   have R2 := zcb (U' := (· < I.nxt)) (dst := some t2) (v := .any) (u := val) R1 R1.heap same1 (fun k hk => R1.used k hk) (by simp [zi]) (fun d hd => by cases hd; exact hn.2.1)
   -- the append
   have hxv : zi gc w1 (I.get tx) (aa.tmps.getD tx undef) := zi.later L1 _ _ (R0.tmp tx);have hnid : ¬ gc.used I.nxt := fun hx => absurd (R1.used _ hx) (Nat.lt_irrefl _);obtain ⟨v', w2, run3, hfr, gd, H3, S3, L3, U3, hv3⟩ := zqm (ty := 0) (hc.ok S si hS) hSk (hc.ok e te he) hpos hbpos R1.heap hnid hval1 hxv hd hp1 hsrc hp2 hb;have ev2 : ((aa.put (some t1) (.tuple #[val, goInt en.born])).put (some t2) val).tmps.getD t2 undef = val := zcy (by rw [zgo, hsz]; exact hn.2.1);have evx : ((aa.put (some t1) (.tuple #[val, goInt en.born])).put (some t2) val).tmps.getD tx undef = aa.tmps.getD tx undef := by rw [zce n6, zce n5]
   have ex3 : (execOp ((aa.put (some t1) (.tuple #[val, goInt en.born])).put (some t2) val).eval o3).run P w1 = .ok (.value v') w2 := by
    have hb : ∀ t cs, builtin .append c.argTypes t cs (c.args.map ((aa.put (some t1) (.tuple #[val, goInt en.born])).put (some t2) val).eval) = (do pure (.value (<- Builtin.append_ #[S, S] 0 #[val, aa.tmps.getD tx undef]))) := by
     intro t cs;have : c.args.map ((aa.put (some t1) (.tuple #[val, goInt en.born])).put (some t2) val).eval = #[val, aa.tmps.getD tx undef] := by
      rw [hcx];simp only [List.map_toArray, List.map_cons, List.map_nil, Act.eval, ev2, evx]
     rw [this];simp only [builtin, hca];rfl
    simp only [execOp, h3, resolve, hcb, pure_bind, invoke, hb, Sem.run_bind, run3, Result.andThen_ok, Sem.run_pure]
   have R3 := zcb (U' := (· < I.nxt + 1)) (dst := some t3) (v := .hs I.nxt 0 (r1.length + r2.length)) (u := v') R2 H3 L3 (fun k hk => (U3 k hk).elim (fun h => by have h9 : k < I.nxt := R1.used k h; omega) fun h => by omega) hv3 (fun d hd => by cases hd; exact hn.2.2.1)
   -- the stamp
   have ev3 : (((aa.put (some t1) (.tuple #[val, goInt en.born])).put (some t2) val).put (some t3) v').tmps.getD t1 undef = .tuple #[val, goInt en.born] := by rw [zce n8.symm, zce n7.symm, ev1]
   have ex4 : (execOp (((aa.put (some t1) (.tuple #[val, goInt en.born])).put (some t2) val).put (some t3) v').eval o4).run P w2 = .ok (.value (goInt en.born)) w2 := by
    simp only [execOp, h4, Act.eval, ev3];simp [Instr.extract]
   have same2 : zbt gd w2 gd w2 := ⟨fun b hb => ⟨hb, rfl⟩, fun _ hx => hx, fun _ _ => .inl rfl⟩
   have R4 := zcb (U' := (· < I.nxt + 1)) (dst := some t4) (v := .any) (u := goInt en.born) R3 R3.heap same2 (fun k hk => R3.used k hk) (by simp [zi]) (fun d hd => by cases hd; exact hn.2.2.2)
   -- the store
   have hLb : L.blk < wa.heap.size := ((R0.heap.live id L hL).2 hv.1).1;have hne : some L.blk ≠ val.ownBlock := by
    rcases hr with rfl | ⟨i, n', rfl⟩
    ·simp only [Option.getD_none, zi] at hval1;rw [hval1]; simp [Value.ownBlock]
    ·simp only [Option.getD_some] at hval1;simp only [zi] at hval1;cases hgi : gc.loc i with
     | none =>
      simp only [Option.getD_some, zed] at hd;cases hoi : zbj I.obj id (some ⟨o.elem, o.m, rows1⟩) i with
      | none => rw [hoi] at hd; cases hd
      | some oi =>
       obtain ⟨M, hM, _⟩ := H1.own i oi hoi;rw [hgi] at hM; cases hM
     | some M =>
      rcases hval1.2 M hgi with ⟨_, _, h0, _⟩ | ⟨hMv, _, hval⟩
      ·omega
      ·rw [hval];simp only [Value.ownBlock, ne_eq, Option.some.injEq];intro e;have : id = i := H1.inj id i L M hL1 hgi hv.1 hMv.1 e;subst this;rw [hL1] at hgi; cases hgi;rw [hv.2] at hMv; cases hMv.2
   have hb2 : w2.heap[L.blk]? = some (.map es1 clock1) := by rw [hfr L.blk (Nat.lt_of_lt_of_le hLb S1.size) hne, hb1]
   have hL2 : gd.loc id = some L := by
    rcases L3.loc id (H1.live id L hL1).1 with e' | e'
    ·rw [e', hL1]
    ·obtain ⟨M, hM, _⟩ := H3.own id _ hwr;rw [hM] at e'; cases e'
   have hkv2 : zv gd.ro w2 k (aa.tmps.getD tk undef) := by
    have h9 := zi.later L3 _ _ (zi.later L1 _ _ htk0);simpa only [zi] using h9
   obtain ⟨w3, gf, run5, H5, S5, L5, U5⟩ := entry_store (t := T) H3 hwr hL2 hv hb2 hj1 hkv2 hkey1 hv3 hpos1;have hrows3 : rows1.set j [.d k, .hs I.nxt 0 (r1.length + r2.length)] = rows3 := by
    unfold zlw at hp3;rw [hpos1] at hp3;simpa using hp3
   simp only at H5;rw [hrows3] at H5;have evs : ((((aa.put (some t1) (.tuple #[val, goInt en.born])).put (some t2) val).put (some t3) v').put (some t4) (goInt en.born)).tmps.getD t4 undef = goInt en.born := zcy (by rw [zgo, zgo, zgo, hsz]; exact hn.2.2.2);have evv : ((((aa.put (some t1) (.tuple #[val, goInt en.born])).put (some t2) val).put (some t3) v').put (some t4) (goInt en.born)).tmps.getD t3 undef = v' := by
    rw [zce n12.symm]; exact zcy (by rw [zgo, zgo, hsz]; exact hn.2.2.1)
   have evm : ((((aa.put (some t1) (.tuple #[val, goInt en.born])).put (some t2) val).put (some t3) v').put (some t4) (goInt en.born)).tmps.getD tm undef = .map (some L.blk) := by
    rw [zce n4, zce n3, zce n2, zce n1, hmv]
   have ex5 : (execOp ((((aa.put (some t1) (.tuple #[val, goInt en.born])).put (some t2) val).put (some t3) v').put (some t4) (goInt en.born)).eval o5).run P w2 = .ok .skip w3 := by
    simp only [execOp, h5, Act.eval, evs, evv, evm, Sem.run_bind];rw [run5];rfl
   have R5 := zcb (U' := (· < I.nxt + 1)) (dst := none) (v := .any) (u := undef) R4 H5 L5 (fun k hk => R4.used k (U5 k hk)) (by simp [zi]) (fun d hd => by cases hd);simp only [wpList];rw [if_pos (by simp [Region.wanted, g1])];left
   unfold Oper.wp;rw [ex1, Oper.upon_value, d1];rw [if_pos (by simp [Region.wanted, g2])];left
   rw [ex2, Oper.upon_value, d2];rw [if_pos (by simp [Region.wanted, g3])];left
   rw [ex3, Oper.upon_value, d3];rw [if_pos (by simp [Region.wanted, g4])];left
   rw [ex4, Oper.upon_value, d4];rw [if_pos (by simp [Region.wanted, g5])];left
   rw [ex5, Oper.upon_skip, d5];refine ⟨_, gf, ?_, ((hstb.trans S1).trans S3).trans S5, hQ⟩;refine R5.congr (fun t => ?_) fun x => ?_
   ·simp only [zhj, St.get, find, Option.some.injEq, reduceCtorEq, if_false];by_cases e4 : t4 = t
    ·subst e4; simp
    ·simp only [e4, if_false];by_cases e3 : t3 = t
     ·simp [e3]
     ·simp only [e3, if_false];by_cases e2 : t2 = t
      ·simp [e2]
      ·simp only [e2, if_false];by_cases e1 : t1 = t <;> simp [e1]
   ·simp only [St.obj, find];unfold zbj;by_cases ex : id = x
    ·subst ex; simp
    ·rw [if_neg ex, if_neg (Ne.symm ex)];have := zpq (wr ++ [(I.nxt, some ⟨e, te.size, r1 ++ r2⟩)]) ((id, some ⟨o.elem, o.m, rows1⟩) :: I.hp) x;rw [this]
     congr 1
     funext y
     simp only [find, zbj, St.obj];by_cases ey : id = y
     ·subst ey; simp
     ·rw [if_neg ey, if_neg (Ne.symm ey)]
 have := wpOps_eq_wpList (P := P) (ops := l.toArray) (Q := fun e a' w' => ∃ s' g', zcn s' g' a' w' /\ zam g w g' w' /\ Q e s') l 0 (by intro j; simp);rw [show List.range l.toArray.size = List.range' 0 l.length by simp [List.range_eq_range'], this];exact key
end Go.Abs

namespace Go.Abs
variable [Flag]
open Go.RowKit

abbrev KL := List (D × List (List D))
def zay (ids : List Nat) (A : KL) : List (List AV) := List.zipWith (fun x p => [AV.d p.1, AV.hs x 0 p.2.length]) ids A
def SA (A : KL) : List (List (List D)) := A.map (·.2)
def mdata (A : KL) : List (List D) := A.map fun p => [p.1, .sl p.2]
theorem ziv (A : KL) : (SA A).length = A.length := by simp [SA]
theorem zgg {ids : List Nat} {A : KL} (h : ids.length = A.length) : (zay ids A).length = A.length := by simp [zay, h]
theorem mrows_get {ids : List Nat} {A : KL} {k x : Nat} {p : D × List (List D)} (h1 : ids[k]? = some x) (h2 : A[k]? = some p) : (zay ids A)[k]? = some [.d p.1, .hs x 0 p.2.length] := by
 simp [zay, List.getElem?_zipWith, h1, h2]
theorem zgw {ids : List Nat} {A : KL} {k : Nat} {r : List AV} (h : (zay ids A)[k]? = some r) : ∃ x p, ids[k]? = some x /\ A[k]? = some p /\ r = [.d p.1, .hs x 0 p.2.length] := by
 unfold zay at h;rw [List.getElem?_zipWith] at h;cases h1 : ids[k]? with
 | none => rw [h1] at h; simp at h
 | some x =>
  cases h2 : A[k]? with
  | none => rw [h1, h2] at h; simp at h
  | some p => rw [h1, h2] at h; simp at h; exact ⟨x, p, rfl, rfl, h.symm⟩
theorem upR_m {σ0 : List (Nat × Option Nat)} (hlow : (σ0.all fun x => Nat.blt x.1 1000000) = true) {ns : List Nat} {A : KL} (h : ns.length = A.length) : upR (σ0 ++ zkd 0 ns) (zay (zak A.length) A) = some (zay ns A) := by
 refine upR_of (by rw [zgg (by rw [zr]), zgg h]) fun i r q hr hq => ?_;obtain ⟨x, l, h1, h2, rfl⟩ := zgw hr;obtain ⟨y, l', h3, h4, rfl⟩ := zgw hq;obtain ⟨hk, rfl⟩ := zas h1;rw [h2] at h4;cases h4;simp [upL, up, zw, zky hlow (show 1000000 <= 1000000 + i by omega), zcv, h3]
def zkq : Nat -> List Nat -> List (Nat × Nat)
 | _, [] => []
 | k, x :: r => (1000000 + k, x) :: zkq (k + 1) r
theorem find_dynM : ∀ (S : List Nat) (k i : Nat), find (zkq k S) i = if 1000000 + k <= i then S[i - (1000000 + k)]? else none
 | [], k, i => by simp [zkq, find]
 | x :: S, k, i => by
  simp only [zkq, find];by_cases h : 1000000 + k = i
  ·rw [if_pos h, if_pos (by omega), show i - (1000000 + k) = 0 by omega]; rfl
  ·rw [if_neg h, find_dynM S (k + 1) i];by_cases h2 : 1000000 + (k + 1) <= i
   ·rw [if_pos h2, if_pos (by omega), show i - (1000000 + k) = (i - (1000000 + (k + 1))) + 1 by omega]; rfl
   ·rw [if_neg h2, if_neg (by omega)]
theorem zui (S : List Nat) (j : Nat) : find (zkq 0 S) (1000000 + j) = S[j]? := by
 rw [find_dynM, if_pos (by omega), show 1000000 + j - (1000000 + 0) = j by omega]
theorem dynM_fst : ∀ (S : List Nat) (k : Nat), (zkq k S).map (·.1) = List.range' (1000000 + k) S.length
 | [], k => rfl
 | x :: S, k => by simp only [zkq, List.map_cons, List.length_cons, List.range'_succ, dynM_fst S (k + 1)]; rfl
theorem zwo : ∀ (S : List Nat) (k : Nat), (zkq k S).map (·.2) = S
 | [], k => rfl
 | x :: S, k => by simp [zkq, zwo S]
theorem rnR_m {ρ0 : List (Nat × Nat)} (hlow : ∀ x, 1000000 <= x -> find ρ0 x = none) {ns : List Nat} {A : KL} (h : ns.length = A.length) : rnR (ρ0 ++ zkq 0 ns) (zay (zak A.length) A) = some (zay ns A) := by
 refine rnR_of (by rw [zgg (by rw [zr]), zgg h]) fun i r q hr hq => ?_;obtain ⟨x, l, h1, h2, rfl⟩ := zgw hr;obtain ⟨y, l', h3, h4, rfl⟩ := zgw hq;obtain ⟨hk, rfl⟩ := zas h1;rw [h2] at h4;cases h4;simp [rnL, rn, zw, hlow (1000000 + i) (by omega), zui, h3]

def zil (eo e m : Nat) (A : KL) : List (Nat × Ob) := (0, ⟨eo, mapM, zay (zak A.length) A⟩) :: dynP e m 0 (SA A)

theorem rx_map {ty : TypeId -> Option TI} {rs : List ResultVar} {n : Nat} {Ls : Nat -> Loc} {s : St} {eo e m : Nat} {A : KL} {ns : List Nat} {rows : List (List AV)} {r : AV} {ex : Exit} (hex : ex = .ret \/ ex = .normal) (hl : ∃ l, zgl ty s rs = some l /\ ∀ ρ, zen ρ [r] [zhp l]) (hO : s.obj 0 = some ⟨eo, mapM, rows⟩) (hlen : ns.length = A.length) (hrows : rows = zay ns A)
  (hns : ns.Nodup) (h0 : 0 ∉ ns) (hS : ∀ (j : Nat) (x : Nat) (p : D × List (List D)), ns[j]? = some x -> A[j]? = some p -> s.obj x = some ⟨e, m, dr p.2⟩) (hpin : s.get (n + 0) = .pin 0 (Ls 0)) : retX ty rs n [(0, 0)] (zil eo e m A) r Ls ex s := by
 subst hrows;have main : ∃ ρ : List (Nat × Nat), match zgl ty s rs with
  | some l => zen ρ [r] [zhp l] /\ zka s.obj ρ (zil eo e m A) /\ zdg (ρ.map (·.2)) = true /\ ρ.map (·.1) = (zil eo e m A).map (·.1) /\ zjz s ρ n Ls [(0, 0)]
  | none => False := by
  refine ⟨[(0, 0)] ++ zkq 0 ns, ?_⟩;obtain ⟨l, hl1, hl2⟩ := hl;rw [hl1];refine ⟨hl2 _, ?_, ?_, ?_, ?_⟩
  ·simp only [zil, zka];refine ⟨?_, ?_⟩
   ·simp only [List.cons_append, find, if_true, hO];refine ⟨trivial, trivial, ?_⟩;have := rnR_m (ρ0 := [(0, 0)]) (fun x hx => by simp only [find]; rw [if_neg (by omega)]) hlen;exact this
   ·have key : ∀ (T : KL) (k : Nat), (∀ j p, T[j]? = some p -> ∃ x, ns[k + j]? = some x /\ s.obj x = some ⟨e, m, dr p.2⟩) -> zka s.obj ([(0, 0)] ++ zkq 0 ns) (dynP e m k (SA T)) := by
     intro T;induction T with
     | nil => intro k _; trivial
     | cons p T ih =>
      intro k hk;simp only [SA, List.map_cons, dynP, zka];refine ⟨?_, ih (k + 1) (fun j p' hp => by have := hk (j + 1) p' (by simpa using hp); rwa [show k + (j + 1) = k + 1 + j by omega] at this)⟩;obtain ⟨x, hx, ho⟩ := hk 0 p rfl;have hf : find ([(0, 0)] ++ zkq 0 ns) (1000000 + k) = some x := by
       simp only [List.cons_append, List.nil_append, find];rw [if_neg (by omega), zui];simpa using hx
      rw [hf];simp only [ho];exact ⟨trivial, trivial, rnR_dr _ _⟩
    refine key A 0 fun j p hp => ?_;have hj : j < ns.length := by rw [hlen]; exact (List.getElem?_eq_some_iff.1 hp).1
    exact ⟨_, by rw [Nat.zero_add]; exact List.getElem?_eq_getElem hj, hS j _ p (List.getElem?_eq_getElem hj) hp⟩
  ·refine znl ?_;rw [List.map_append, zwo];exact List.nodup_cons.2 ⟨h0, hns⟩
  ·simp only [zil, List.map_append, List.map_cons, List.map_nil, dynM_fst, zwn, ziv, hlen]; rfl
  ·simp only [zjz, List.cons_append, find, if_true];exact ⟨⟨hpin, by rw [hO]; rfl⟩, trivial⟩
 rcases hex with rfl | rfl
 ·exact main
 ·exact main

theorem px_of_awp_map {P : Program} {ty : TypeId -> Option TI} (hc : Ctx P ty) {f : FuncId} {fn : Func} {c : Code} {avs : List AV} {eo e m : Nat} {A : KL} {hp' : List (Nat × Ob)} {r : AV}
  (hf : P.funcs[f]? = some fn) (hb : fn.body = some c) (hname : (fn.name == "runtime.NumGoroutine") = false) (hn : avs.length <= fn.ntmps) (hA : A.length <= 1000000000)
  (h : ∀ Ls : Nat -> Loc, AWp P c (retX ty fn.results.toList fn.ntmps [(0, 0)] hp' r Ls) ⟨fn.ntmps, zsi 0 avs (zto fn.ntmps Ls [(0, 0)]), (0, some ⟨eo, mapM, zay (zak A.length) A⟩) :: dyn e m 0 (SA A), 1000000000000⟩) : PX P f avs (zil eo e m A) [(0, 0)] hp' r := by
 refine zeo hc 1000000000000 hf hb hname hn ?_ rfl fun Ls => ?_
 ·rw [List.all_eq_true];intro x hx;simp only [zil, List.mem_cons] at hx;rcases hx with rfl | hx
  ·rfl
  ·have h1 : x.1 ∈ (dynP e m 0 (SA A)).map (·.1) := List.mem_map.2 ⟨x, hx, rfl⟩;rw [zwn] at h1;obtain ⟨i, h2, h3⟩ := List.mem_range'.1 h1;rw [ziv] at h2;exact Nat.ble_eq_true_of_le (by omega)
 ·refine zbf (weak_ext (s' := ⟨fn.ntmps, zsi 0 avs (zto fn.ntmps Ls [(0, 0)]), (0, some ⟨eo, mapM, zay (zak A.length) A⟩) :: dyn e m 0 (SA A), 1000000000000⟩) rfl (fun t => rfl) (fun x => ?_) (Nat.le_refl _)) (h Ls);simp only [St.obj, zhm, zvn, zil, find];by_cases h0 : 0 = x
  ·subst h0; simp
  ·rw [if_neg h0, if_neg h0];rw [zac, find_dynP];split
   ·cases (SA A)[x - (1000000 + 0)]? <;> rfl
   ·rfl

theorem zbz {s : St} {n : Nat} {tm : List (Nat × AV)} {eo e m : Nat} {A : KL} (σ0 : List (Nat × Option Nat)) (ns : List Nat) (H0 : List (Nat × Option Ob)) (M M0 : Nat)
  (hlow : (σ0.all fun x => Nat.blt x.1 1000000) = true) (hlow1 : Nat.blt M 1000000 = true) (hlow2 : (H0.all fun x => Nat.blt x.1 1000000) = true) (hA : A.length <= 1000000000) (hlen : ns.length = A.length) (hn : n = s.n)
  (htm : upT (σ0 ++ zkd 0 ns) s tm) (hM : find σ0 M = some (some M0)) (hobj : s.obj M0 = some ⟨eo, mapM, zay ns A⟩) (hh : upH (σ0 ++ zkd 0 ns) s H0) (hnm : zg ⟨n, tm, (M, some ⟨eo, mapM, zay (zak A.length) A⟩) :: H0, 1000000000000⟩ σ0)
  (ho : (zq σ0).Nodup) (hns : ns.Nodup) (hd : ∀ x ∈ ns, x ∉ zq σ0) (hS : ∀ (j : Nat) (x : Nat) (p : D × List (List D)), ns[j]? = some x -> A[j]? = some p -> s.obj x = some ⟨e, m, dr p.2⟩) :
  zei s ⟨n, tm, (M, some ⟨eo, mapM, zay (zak A.length) A⟩) :: H0 ++ dyn e m 0 (SA A), 1000000000000⟩ := by
 refine zqr σ0 ns ((M, some ⟨eo, mapM, zay (zak A.length) A⟩) :: H0) (SA A) hlow ?_ (by rw [ziv]; omega) (by rw [hlen, ziv]) hn htm ?_ hnm ho hns hd ?_
 ·simp only [List.all_cons, Bool.and_eq_true]; exact ⟨hlow1, hlow2⟩
 ·simp only [upH];refine ⟨?_, hh⟩;have hf : find (σ0 ++ zkd 0 ns) M = some (some M0) := by rw [zw, hM]; rfl
  rw [hf];exact ⟨_, hobj, rfl, rfl, upR_m hlow hlen⟩
 ·intro j r x hr hx;simp only [SA, List.getElem?_map, Option.map_eq_some_iff] at hr;obtain ⟨p, hp, rfl⟩ := hr;exact hS j x p hx hp

def zit (B : Nat) : Nat -> Nat -> List (Nat × Nat)
 | _, 0 => []
 | k, n + 1 => (B + k, 1000000 + k) :: zit B (k + 1) n
theorem zny (B : Nat) : ∀ (n k x : Nat), find (zit B k n) x = if B + k <= x /\ x < B + k + n then some (1000000 + (x - B)) else none
 | 0, k, x => by simp only [zit, find]; rw [if_neg (by omega)]
 | n + 1, k, x => by
  simp only [zit, find];by_cases h : B + k = x
  ·rw [if_pos h, if_pos (by omega), show x - B = k by omega]
  ·rw [if_neg h, zny B n (k + 1) x];by_cases h2 : B + (k + 1) <= x /\ x < B + (k + 1) + n
   ·rw [if_pos h2, if_pos (by omega)]
   ·rw [if_neg h2, if_neg (by omega)]
theorem dynF_fst (B : Nat) : ∀ (n k : Nat), (zit B k n).map (·.1) = List.range' (B + k) n
 | 0, k => rfl
 | n + 1, k => by simp only [zit, List.map_cons, List.range'_succ, dynF_fst B n (k + 1)]; rfl
theorem dynF_snd (B : Nat) : ∀ (n k : Nat), (zit B k n).map (·.2) = List.range' (1000000 + k) n
 | 0, k => rfl
 | n + 1, k => by simp only [zit, List.map_cons, List.range'_succ, dynF_snd B n (k + 1)]; rfl
theorem swp_dynF (B : Nat) : ∀ (n k x : Nat), find (swp (zit B k n)) x = if 1000000 + k <= x /\ x < 1000000 + k + n then some (B + (x - 1000000)) else none
 | 0, k, x => by simp only [zit, swp, find]; rw [if_neg (by omega)]
 | n + 1, k, x => by
  simp only [zit, swp, find];by_cases h : 1000000 + k = x
  ·rw [if_pos h, if_pos (by omega), show x - 1000000 = k by omega]
  ·rw [if_neg h, swp_dynF B n (k + 1) x];by_cases h2 : 1000000 + (k + 1) <= x /\ x < 1000000 + (k + 1) + n
   ·rw [if_pos h2, if_pos (by omega)]
   ·rw [if_neg h2, if_neg (by omega)]
def idsB (B n : Nat) : List Nat := (List.range n).map fun k => B + k
theorem idsB_get {B n k : Nat} (h : k < n) : (idsB B n)[k]? = some (B + k) := by simp [idsB, h]
theorem idsB_get' {B n k x : Nat} (h : (idsB B n)[k]? = some x) : k < n /\ x = B + k := by
 have hk : k < n := by have := (List.getElem?_eq_some_iff.1 h).1; simpa [idsB] using this
 rw [idsB_get hk] at h;cases h; exact ⟨hk, rfl⟩
theorem idsB_length (B n : Nat) : (idsB B n).length = n := by simp [idsB]
theorem upH_congr {σ : List (Nat × Option Nat)} {s s' : St} : ∀ {H : List (Nat × Option Ob)}, (∀ k old, (∃ o, (k, some o) ∈ H) -> find σ k = some (some old) -> s'.obj old = s.obj old) -> upH σ s H -> upH σ s' H
 | [], _, _ => trivial
 | (k, none) :: H, h, hu => by
  simp only [upH] at hu ⊢;exact upH_congr (fun k' old ⟨o, hm⟩ hf => h k' old ⟨o, by simp [hm]⟩ hf) hu
 | (k, some o) :: H, h, hu => by
  simp only [upH] at hu ⊢;refine ⟨?_, upH_congr (fun k' old ⟨o, hm⟩ hf => h k' old ⟨o, by simp [hm]⟩ hf) hu.2⟩;cases hf : find σ k with
  | none => have := hu.1; rw [hf] at this; exact this
  | some q =>
   cases q with
   | none => have := hu.1; rw [hf] at this; exact this
   | some old =>
    have := hu.1;rw [hf] at this;simp only at this ⊢;obtain ⟨o0, k1, k2⟩ := this;exact ⟨o0, by rw [h k old ⟨o, by simp⟩ hf]; exact k1, k2⟩
theorem upT_congr {σ : List (Nat × Option Nat)} {s s' : St} (h : ∀ t, s'.get t = s.get t) : ∀ {tm : List (Nat × AV)}, upT σ s tm -> upT σ s' tm
 | [], _ => trivial
 | (t, v) :: r, hu => by
  simp only [upT] at hu ⊢;refine ⟨?_, upT_congr h hu.2⟩;have := hu.1;cases v <;> simp only [h] at this ⊢ <;> exact this

theorem zhx {P : Program} {ty : TypeId -> Option TI} (hc : Ctx P ty) (orc : List (Nat × Res)) {id : Nat} {l : List Oper} (pre : List Oper) (o : Oper) (hl : l = pre ++ [o]) (hg : o.guard = none) {cl : Call} {fo : Operand} (ho : o.op = .call cl) (hcal : cl.callee = .value fo)
  (I : St) (f : FuncId) (caps : List AV) (hf : zks (I.eval fo) = some (f, caps)) (av : List AV) {eo e m : Nat} (A A' : KL) (M : Nat)
  (hobjM : I.obj M = some ⟨eo, mapM, zay (zak A.length) A⟩) (hMl : M < 1000000) (hobjS : ∀ j, I.obj (1000000 + j) = ((SA A)[j]?).map fun r => ⟨e, m, dr r⟩) (hnx : 1000000000000 <= I.nxt)
  (hpx : PX P f av (zil eo e m A) [(0, 0)] (zil eo e m A') (.tup [])) (hA : A.length <= 1000000000) (hA' : A'.length <= 1000000000) (has : zen ((0, M) :: zkq 0 (zak A.length)) av (cl.args.toList.map I.eval ++ caps)) (hd : match o.dst with | some d => d < I.n | none => True)
  (σ0 : List (Nat × Option Nat)) (tm' : List (Nat × AV)) (H' : List (Nat × Option Ob)) (hlow : (σ0.all fun x => Nat.blt x.1 1000000) = true) (hlowo : ((zq σ0).all fun x => Nat.blt x 1000000) = true) (hlow2 : (H'.all fun x => Nat.blt x.1 1000000) = true) (hMσ : find σ0 M = some (some M)) (hHM : ∀ k, k ≠ M -> find σ0 k ≠ some (some M))
  (hHk : (H'.all fun x => !Nat.beq x.1 M) = true)
  (htm : upT (σ0 ++ zkd 0 (idsB I.nxt A'.length)) (I.put o.dst (.tup [])) tm') (hh : upH (σ0 ++ zkd 0 (idsB I.nxt A'.length)) I H')
  (hnm : zg ⟨I.n, tm', (M, some ⟨eo, mapM, zay (zak A'.length) A'⟩) :: H', 1000000000000⟩ σ0) (hod : (zq σ0).Nodup) {Q : Exit -> St -> Prop} {s : St}
  (h1 : ∀ K : St -> Prop, (∀ s', zei s' I -> K s') -> wpT ty P orc (l.map (·.dst)) s.nxt 0 pre { s with nxt := s.nxt + l.length } K)
  (h2 : Q .normal ⟨I.n, tm', (M, some ⟨eo, mapM, zay (zak A'.length) A'⟩) :: H' ++ dyn e m 0 (SA A'), 1000000000000⟩) : AWp P (.region id l.toArray false) Q s := by
 intro g a w hr;refine wp_region ?_;have hgs : ∀ j : Nat, (l.map (·.dst))[j]? = (l.toArray[j]?).map fun o : Oper => o.dst := by intro j; simp
 have hlen : l.length = pre.length + 1 := by rw [hl]; simp
 have key : wpList P l.toArray (fun e a' w' => ∃ s' g', zcn s' g' a' w' /\ zam g w g' w' /\ Q e s') l a w := by
  have h3 := zfb (P := P) hc (orc := orc) (gs := l.map (·.dst)) (ops := l.toArray) hgs (base := s.nxt) (nxt := s.nxt + l.length)
   (Q := fun e a' w' => ∃ s' g', zcn s' g' a' w' /\ zam g w g' w' /\ Q e s') (g0 := g) (w0 := w) (l2 := [o]) (en := pre.length) (n0 := s.n) (K := fun s1 => zei s1 I) ?_ pre 0 { s with nxt := s.nxt + l.length } g a w (by simp) rfl rfl ⟨hr.defers, hr.size, hr.tmp, fun id hu => by have := hr.used id hu; simpa using this, hr.heap⟩ (zam.refl g w) (h1 _ fun _ hq => hq)
  ·rw [<- hl] at h3; exact h3
  ·intro s1 g1 a1 w1 hnx1 hn0 hrel hst hk;simp only [wpList];rw [if_pos (by simp [Region.wanted, hg])];left
   have hr1 : zcn s1 g1 a1 w1 := ⟨hrel.defers, hrel.size, hrel.tmp, fun id hu => by have := hrel.used id hu; show id < s1.nxt; rw [hnx1]; omega, hrel.heap⟩
   obtain ⟨g2, hr2, hs2'⟩ := hk g1 a1 w1 hr1;have hev : ∀ x : Operand, zi g2 w1 (I.eval x) (a1.eval x) := fun x => zec hr2 (fun _ => rfl) x;have hargs : zk g2 w1 (cl.args.toList.map I.eval) (cl.args.toList.map a1.eval) := by
    refine zk.of_get (by simp) fun j av hj => ?_;rw [List.getElem?_map] at hj ⊢;cases hx : cl.args.toList[j]? with
    | none => rw [hx] at hj; cases hj
    | some x => rw [hx] at hj; cases hj; exact ⟨a1.eval x, rfl, hev x⟩
   have hfv : ∃ cs : List Value, a1.eval fo = .func (.func f) #[] cs.toArray /\ zk g2 w1 caps cs := by
    have hfv := hev fo;unfold zks at hf;split at hf
    ·rename_i heq;cases hf;rw [heq] at hfv;simp only [zi, zv] at hfv;obtain ⟨cs, h1, h2⟩ := hfv;exact ⟨cs, h1, zk.of_ds h2⟩
    ·rename_i heq;split at hf
     case isFalse => cases hf
     rename_i hok;cases hf;rw [heq] at hfv;exact ztd hok hfv
    ·cases hf
   obtain ⟨cs, hcs, hrc⟩ := hfv;obtain ⟨fn, hfn, hname, hbody⟩ := hpx.1;have hrun : (execOp a1.eval o).run P w1 = .ok (.enter f ((cl.args.toList.map a1.eval) ++ cs).toArray) w1 := by
    unfold execOp;simp only [ho, resolve, hcal, Deferred.ofValue, hcs, Sem.run_bind, Sem.run_pure, Result.andThen_ok, invoke, callFunc, run_program, hfn, hname, hbody, Bool.false_eq_true, if_false]
    congr 2
    simp
   have hMB : M < I.nxt := by omega
   have hsf : ∀ i, i < A.length -> find ((0, M) :: zkq 0 (zak A.length)) (1000000 + i) = some (1000000 + i) := fun i hi => by
    simp only [find];rw [if_neg (by omega), zui, zhq hi]
   have ht1 : ((zit I.nxt 0 A'.length ++ [(M, 0)] : List (Nat × Nat)).map (·.1)).Nodup := by
    rw [List.map_append, dynF_fst, List.nodup_append];refine ⟨List.nodup_range', by simp, fun x hx y hy => ?_⟩;obtain ⟨i, h3, h4⟩ := List.mem_range'.1 hx;simp at hy; subst hy; omega
   have ht2 : ((zit I.nxt 0 A'.length ++ [(M, 0)] : List (Nat × Nat)).map (·.2)).Nodup := by
    rw [List.map_append, dynF_snd, List.nodup_append];refine ⟨List.nodup_range', by simp, fun x hx y hy => ?_⟩;obtain ⟨i, h3, h4⟩ := List.mem_range'.1 hx;simp at hy; subst hy; omega
   have hs2 : (((0, M) :: zkq 0 (zak A.length) : List (Nat × Nat)).map (·.2)).Nodup := by
    rw [List.map_cons, zwo];refine List.nodup_cons.2 ⟨fun h => ?_, zaw _⟩;have := zbb.1 h;simp only at this; omega
   have hob : (zko P f ⟨(0, M) :: zkq 0 (zak A.length), av, zil eo e m A, [(0, 0)], none, zil eo e m A', .tup []⟩ (zit I.nxt 0 A'.length ++ [(M, 0)]) I.obj (cl.args.toList.map I.eval ++ caps)).ob := by
    refine ⟨⟨has, ?_, znl hs2, ?_, znl ht1, znl ht2⟩, hpx⟩
    ·simp only [zil, zka];refine ⟨?_, ?_⟩
     ·simp only [find, if_true, hobjM];refine ⟨trivial, trivial, ?_⟩;exact rnR_m (ρ0 := [(0, M)]) (fun x hx => by simp only [find]; rw [if_neg (by omega)]) (zr _)
     ·have key : ∀ (T : KL) (k : Nat), (∀ j p, T[j]? = some p -> A[k + j]? = some p) -> zka I.obj ((0, M) :: zkq 0 (zak A.length)) (dynP e m k (SA T)) := by
       intro T;induction T with
       | nil => intro k _; trivial
       | cons p T ih =>
        intro k hk;simp only [SA, List.map_cons, dynP, zka];refine ⟨?_, ih (k + 1) (fun j p' hp => by have := hk (j + 1) p' (by simpa using hp); rwa [show k + (j + 1) = k + 1 + j by omega] at this)⟩;have h0 := hk 0 p rfl;rw [Nat.add_zero] at h0;have hkl : k < A.length := (List.getElem?_eq_some_iff.1 h0).1;have hok : I.obj (1000000 + k) = some ⟨e, m, dr p.2⟩ := by rw [hobjS k]; simp [SA, h0]
        rw [hsf k hkl];simp only [hok];exact ⟨trivial, trivial, rnR_dr _ _⟩
      exact key A 0 fun j p hp => by rw [Nat.zero_add]; exact hp
    ·simp only [zil, List.map_cons, dynM_fst, zwn, ziv, zr]
   have hys := y_sound (N := fun x => I.nxt <= x /\ x < I.nxt + A'.length) hr2.heap (fun x hx hu => by have h3 : x < I.nxt := hr2.used x hu; omega) (c := ⟨(0, M) :: zkq 0 (zak A.length), av, zil eo e m A, [(0, 0)], none, zil eo e m A', .tup []⟩) (ti := zit I.nxt 0 A'.length ++ [(M, 0)]) (fun x j hx => by
    rw [zw, zny] at hx;by_cases h3 : I.nxt + 0 <= x /\ x < I.nxt + 0 + A'.length
    ·exact .inl (by omega)
    ·rw [if_neg h3] at hx;simp only [Option.none_or, find] at hx;split at hx
     ·rename_i e0;cases hx;exact .inr ⟨0, by simp, by rw [<- e0]; simp [find]⟩
     ·cases hx) (hargs.append hrc) hob
   refine ziu hrun hys _ _ fun v w2 hAf => ?_;obtain ⟨g3, k1, k2, k3, k4, k5⟩ := hAf;have hput := zcb (U' := fun x => x < I.nxt + A'.length) (dst := o.dst) hr2 k1 k3 (fun x hx => by
    rcases k4 x hx with hx | hx
    ·have h3 : x < I.nxt := hr2.used x hx;omega
    ·omega) k5 (fun d hd' => by rw [hd'] at hd; exact hd)
   have hval : (zko P f ⟨(0, M) :: zkq 0 (zak A.length), av, zil eo e m A, [(0, 0)], none, zil eo e m A', .tup []⟩ (zit I.nxt 0 A'.length ++ [(M, 0)]) I.obj (cl.args.toList.map I.eval ++ caps)).val = .tup [] := by
    simp [zko, dn, dnL]
   rw [hval] at hput
   -- the objects behind the call
   have hobj2 : ∀ x, zcm I.obj (gone ((0, M) :: zkq 0 (zak A.length)) ++ zmw (swp (zit I.nxt 0 A'.length ++ [(M, 0)])) (zil eo e m A') (zit I.nxt 0 A'.length ++ [(M, 0)])) x = match find (zit I.nxt 0 A'.length ++ [(M, 0)]) x with
     | some j => (find (zil eo e m A') j).map fun o => ⟨o.elem, o.m, dnR (swp (zit I.nxt 0 A'.length ++ [(M, 0)])) o.rows⟩
     | none => if x ∈ ((0, M) :: zkq 0 (zak A.length) : List (Nat × Nat)).map (·.2) then none else I.obj x := by
    intro x;rw [zje, zhl (by rw [zoi]; exact ht1), zhl (by rw [zns]; exact hs2), zoj, znt];cases find (zit I.nxt 0 A'.length ++ [(M, 0)]) x with
    | some j => rfl
    | none => simp only [Option.map_none, Option.getD_none]; split <;> rfl
   generalize hwr : (gone ((0, M) :: zkq 0 (zak A.length)) ++ zmw (swp (zit I.nxt 0 A'.length ++ [(M, 0)])) (zil eo e m A') (zit I.nxt 0 A'.length ++ [(M, 0)])) = wr at hobj2;have hput' : Rel (fun x => x < I.nxt + A'.length) g3 (zhj I.get o.dst (.tup [])) (zcm I.obj wr) I.n (a1.put o.dst v) w2 := by
    have : (zko P f ⟨(0, M) :: zkq 0 (zak A.length), av, zil eo e m A, [(0, 0)], none, zil eo e m A', .tup []⟩ (zit I.nxt 0 A'.length ++ [(M, 0)]) I.obj (cl.args.toList.map I.eval ++ caps)).wr = wr := hwr;rw [this] at hput;exact hput
   have hnI : (I.put o.dst (.tup [])).n = I.n := by unfold St.put; cases o.dst <;> rfl
   have hgI : ∀ t, (⟨I.n, (I.put o.dst (.tup [])).tm, zdi I.hp wr, I.nxt + A'.length⟩ : St).get t = (I.put o.dst (.tup [])).get t := fun t => rfl;have hoI : ∀ x, (⟨I.n, (I.put o.dst (.tup [])).tm, zdi I.hp wr, I.nxt + A'.length⟩ : St).obj x = zcm I.obj wr x := fun x => by
    simp only [St.obj];exact zpq wr I.hp x
   have R2 : zcn ⟨I.n, (I.put o.dst (.tup [])).tm, zdi I.hp wr, I.nxt + A'.length⟩ g3 (a1.put o.dst v) w2 :=
    hput'.congr (fun t => by rw [hgI, St.get_put]) hoI
   have low : ∀ x, x < 1000000 -> x ≠ M -> zcm I.obj wr x = I.obj x := fun x hx hxM => by
    rw [hobj2, zw, zny, if_neg (by omega)];simp only [Option.none_or, find];rw [if_neg (Ne.symm hxM)];simp only;rw [if_neg];rw [List.map_cons, zwo];intro h;rcases List.mem_cons.1 h with h | h
    ·exact hxM h
    ·have := zbb.1 h; omega
   have atM : zcm I.obj wr M = some ⟨eo, mapM, zay (idsB I.nxt A'.length) A'⟩ := by
    rw [hobj2, zw, zny, if_neg (by omega)];simp only [Option.none_or, find, if_true, zil, Option.map_some]
    congr 2
    -- the names in the map's rows
    have : ∀ (x : List (List AV)) (y : List (List AV)), x.length = y.length -> (∀ (i : Nat) (r q : List AV), x[i]? = some r -> y[i]? = some q -> dnL (swp (zit I.nxt 0 A'.length ++ [(M, 0)])) r = q) -> dnR (swp (zit I.nxt 0 A'.length ++ [(M, 0)])) x = y := by
     intro x;induction x with
     | nil => intro y hl _; cases y with
      | nil => rfl
      | cons b y => simp at hl
     | cons a x ih =>
      intro y hl hg;cases y with
      | nil => simp at hl
      | cons b y =>
       have h1 := hg 0 a b rfl rfl;have h2 := ih y (by simpa using hl) fun i r q hr hq => hg (i + 1) r q (by simpa using hr) (by simpa using hq);simp [dnR, h1, h2]
    refine this _ _ (by rw [zgg (zr _), zgg (idsB_length _ _)]) fun i r q hr hq => ?_;obtain ⟨x, p, h3, h4, rfl⟩ := zgw hr;obtain ⟨y, p', h5, h6, rfl⟩ := zgw hq;obtain ⟨hi, rfl⟩ := zas h3;obtain ⟨_, rfl⟩ := idsB_get' h5;rw [h4] at h6; cases h6;have hsw : find (swp (zit I.nxt 0 A'.length ++ [(M, 0)])) (1000000 + i) = some (I.nxt + i) := by
     have app : ∀ (a b : List (Nat × Nat)) (x : Nat), find (swp (a ++ b)) x = (find (swp a) x).or (find (swp b) x) := by
      intro a b x;induction a with
      | nil => simp [swp, find]
      | cons y a ih =>
       simp only [List.cons_append, swp, find];split
       ·rfl
       ·exact ih
     rw [app, swp_dynF, if_pos (by omega)];simp
    simp only [dnL, dn, hsw]
   have atB : ∀ j, j < A'.length -> ∀ p, A'[j]? = some p -> zcm I.obj wr (I.nxt + j) = some ⟨e, m, dr p.2⟩ := fun j hj p hp => by
    rw [hobj2, zw, zny, if_pos (by omega)];simp only [Option.some_or, zil, find];rw [if_neg (by omega), show 1000000 + (I.nxt + j - I.nxt) = 1000000 + j by omega, find_dynP, if_pos (by omega), show 1000000 + j - (1000000 + 0) = j by omega];simp [SA, hp, dnR_dr]
   have hW := zbz (s := ⟨I.n, (I.put o.dst (.tup [])).tm, zdi I.hp wr, I.nxt + A'.length⟩) (n := I.n) (tm := tm') (eo := eo) (e := e) (m := m) (A := A') σ0 (idsB I.nxt A'.length) H' M M hlow (Nat.ble_eq_true_of_le hMl) hlow2 hA' (idsB_length _ _) rfl
    (upT_congr (fun t => hgI t) htm) hMσ (by rw [hoI]; exact atM) (upH_congr (fun k old ⟨o', hm⟩ hfk => ?_) hh) hnm hod (by
     unfold idsB;exact List.Pairwise.map _ (fun a b hab => by omega) List.nodup_range) (fun x hx hxo => ?_) (fun j x p hx hp => by
     obtain ⟨hj, rfl⟩ := idsB_get' hx;rw [hoI];exact atB j hj p hp)
   ·obtain ⟨g4, r4, st4⟩ := hW g3 _ _ R2;exact ⟨_, g4, r4, ((hst.trans hs2').trans k2).trans st4, h2⟩
   ·have hk1 := List.all_eq_true.1 hlow2 _ hm;have hk2 := List.all_eq_true.1 hHk _ hm;have hkl : k < 1000000 := Nat.le_of_ble_eq_true hk1;have hkM : k ≠ M := by
     intro e0;subst e0;simp at hk2
    rw [zw] at hfk;have hdn : find (zkd 0 (idsB I.nxt A'.length)) k = none := by rw [zaa, if_neg (by omega)]
    rw [hdn, Option.or_none] at hfk;have hmo := znw hfk;have hol : old < 1000000 := Nat.le_of_ble_eq_true (List.all_eq_true.1 hlowo _ hmo);have hoM : old ≠ M := fun e0 => by subst e0; exact hHM k hkM hfk
    rw [hoI];exact low old hol hoM
   ·obtain ⟨j, hj⟩ := List.mem_iff_getElem?.1 hx;obtain ⟨_, rfl⟩ := idsB_get' hj;have : I.nxt + j < 1000000 := Nat.le_of_ble_eq_true (List.all_eq_true.1 hlowo _ hxo);omega
 have := wpOps_eq_wpList (P := P) (ops := l.toArray) (Q := fun e a' w' => ∃ s' g', zcn s' g' a' w' /\ zam g w g' w' /\ Q e s') l 0 (by intro j; simp);rw [show List.range l.toArray.size = List.range' 0 l.length by simp [List.range_eq_range'], this];exact key

def mixM (A : KL) (k : Nat) : List (List AV) := dr (mdata (A.take k)) ++ zay ((zak A.length).drop k) (A.drop k)
theorem mixM_all (A : KL) : mixM A A.length = dr (mdata A) := by
 unfold mixM;rw [List.take_length, List.drop_length];simp [zay]
theorem mixM_zero (A : KL) : mixM A 0 = zay (zak A.length) A := by simp [mixM, dr, mdata]
theorem mixM_step {A : KL} {k : Nat} {p : D × List (List D)} (h : A[k]? = some p) : fzR (1000000 + k) p.2 (mixM A k) = mixM A (k + 1) := by
 have hk : k < A.length := (List.getElem?_eq_some_iff.1 h).1;have hdk : A.drop k = p :: A.drop (k + 1) := by
  obtain ⟨_, rfl⟩ := List.getElem?_eq_some_iff.1 h;exact List.drop_eq_getElem_cons hk
 have hdi : (zak A.length).drop k = (1000000 + k) :: (zak A.length).drop (k + 1) := by
  have h1 : k < (zak A.length).length := by rw [zr]; exact hk
  rw [List.drop_eq_getElem_cons h1]
  congr 1
  have := zhq hk;rw [List.getElem?_eq_getElem h1] at this;exact Option.some.inj this
 unfold mixM;rw [fzR_appA, zbx, hdk, hdi];have htk : A.take (k + 1) = A.take k ++ [p] := by rw [List.take_add_one, h]; rfl
 rw [htk];simp only [zay, List.zipWith_cons_cons, fzR, fzL, fz, if_true, Nat.zero_add, List.drop_zero, List.take_length];rw [if_pos (Nat.le_refl _)];have hrest : fzR (1000000 + k) p.2 (List.zipWith (fun x p => [AV.d p.1, AV.hs x 0 p.2.length]) ((zak A.length).drop (k + 1)) (A.drop (k + 1))) = List.zipWith (fun x p => [AV.d p.1, AV.hs x 0 p.2.length]) ((zak A.length).drop (k + 1)) (A.drop (k + 1)) := by
  refine fzR_keep _ _ fun i r hr => ?_;obtain ⟨x, q, h1, h2, rfl⟩ := zgw (ids := (zak A.length).drop (k + 1)) (A := A.drop (k + 1)) hr;rw [List.getElem?_drop] at h1;obtain ⟨_, rfl⟩ := zas h1;simp only [fzL, fz];rw [if_neg (by omega)]
 rw [hrest];simp [dr, mdata]
def zop : List (Nat × AV) -> Bool
 | [] => true
 | (_, .d _) :: r => zop r
 | (_, .any) :: r => zop r
 | (_, .nl) :: r => zop r
 | (_, .hs i _ _) :: r => Nat.blt i 1000000 && zop r
 | (_, .ptr i _ _) :: r => Nat.blt i 1000000 && zop r
 | (_, .hm i) :: r => Nat.blt i 1000000 && zop r
 | _ :: _ => false
theorem zll {id : Nat} (hid : 1000000 <= id) (rs : List (List D)) : ∀ {tm : List (Nat × AV)}, zop tm = true -> fzT id rs tm = tm
 | [], _ => rfl
 | (t, v) :: r, h => by
  cases v <;> simp only [zop, Bool.and_eq_true] at h <;> try (cases h; done)
  all_goals simp only [fzT, fz]
  case any => rw [zll hid rs h]
  case nl => rw [zll hid rs h]
  case d => rw [zll hid rs h]
  case hm =>
   have h1 : _ < 1000000 := Nat.le_of_ble_eq_true h.1;rw [zll hid rs h.2, if_neg (by omega)]
  case hs =>
   have h1 : _ < 1000000 := Nat.le_of_ble_eq_true h.1;rw [zll hid rs h.2, if_neg (by omega)]
  case ptr =>
   have h1 : _ < 1000000 := Nat.le_of_ble_eq_true h.1;rw [zll hid rs h.2, if_neg (by omega)]
theorem weak_fzmap {n : Nat} {tm : List (Nat × AV)} {nxt id eo : Nat} {e : TypeId} {m : Nat} (hid : id < 1000000) (htm : zop tm = true) (A : KL) :
  zei ⟨n, tm, (id, some ⟨eo, mapM, zay (zak A.length) A⟩) :: dyn e m 0 (SA A), nxt⟩ ⟨n, tm, [(id, some ⟨eo, mapM, dr (mdata A)⟩)], nxt⟩ := by
 have step : ∀ k, k <= A.length -> zei ⟨n, tm, (id, some ⟨eo, mapM, mixM A 0⟩) :: dyn e m 0 (SA A), nxt⟩ ⟨n, tm, (id, some ⟨eo, mapM, mixM A k⟩) :: dyn e m k ((SA A).drop k), nxt⟩ := by
  intro k;induction k with
  | zero => intro _; exact zei.refl _
  | succ k ih =>
   intro hk;refine zei.trans (ih (by omega)) ?_;have hr : A[k]? = some A[k] := List.getElem?_eq_getElem (by omega);have hkS : k < (SA A).length := by rw [ziv]; omega
   have hSk : (SA A)[k] = A[k].2 := by simp [SA]
   have hdk : (SA A).drop k = A[k].2 :: (SA A).drop (k + 1) := by rw [List.drop_eq_getElem_cons hkS, hSk]
   rw [hdk];simp only [dyn];refine zei.trans (zqq (1000000 + k) A[k].2 (o := ⟨e, m, dr A[k].2⟩) (by simp only [St.obj, find]; rw [if_neg (by omega)]; simp) (rowsD_dr _)) ?_;refine weak_ext rfl (fun t => ?_) (fun x => ?_) (Nat.le_refl _)
   ·simp only [St.get, St.fz]; rw [zll (by omega) _ htm]
   ·simp only [St.obj, St.fz, fzH, fzO, find, mixM_step hr, fzH_dyn, zac];by_cases h1 : id = x
    ·subst h1;simp only [if_true];rw [if_neg (by omega)]
    ·simp only [if_neg h1];by_cases h2 : 1000000 + k = x
     ·subst h2;simp only [if_true];rw [if_neg (by omega)];rfl
     ·simp only [if_neg h2]
 have h := step A.length (Nat.le_refl _);rw [mixM_zero, mixM_all, show (SA A).drop A.length = [] by rw [List.drop_eq_nil_iff, ziv]; exact Nat.le_refl _] at h;exact h
end Go.Abs
