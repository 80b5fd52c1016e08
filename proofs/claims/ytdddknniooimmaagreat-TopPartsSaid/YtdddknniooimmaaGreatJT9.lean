/-
  Texts of this seat put together: X4, X5, AbsD, B3, B4, A6, U1, U2.
-/
import Derived.Test.YtdddknniooimmaaGreatJT6
import Derived.Test.YtdddknniooimmaaGreatJT8
import Derived.Test.YtdddknniooimmaaGreatJT5
import Derived.Test.YtdddknniooimmaaGreatJT4
import Derived.Test.YtdddknniooimmaaGreatJT7
import Derived.Test.YtdddknniooimmaaGreatChecked
set_option linter.unusedVariables false
set_option linter.unusedSimpArgs false
set_option maxRecDepth 100000
set_option linter.unusedSectionVars false
namespace Go.Proofs.YtdddknniooimmaaGreat
open Go.Abs Go.Shelf

def sortInt_ren : Go.Shelf.Ren := ⟨fun | 189 => 96 | 125 => 133 | 257 => 151 | 128 => 191 | 129 => 192 | 294 => 216 | 295 => 217 | 296 => 218 | 297 => 219 | 298 => 220 | 299 => 221 | 216 => 222 | 300 => 223 | 301 => 224 | 328 => 253 | 329 => 234 | 330 => 235 | 331 => 254 | 332 => 255 | 215 => 166 | 343 => 280 | n => n, fun | 28 => 134 | 3 => 3 | 46 => 174 | 0 => 0 | 51 => 228 | 53 => 230 | 4 => 4 | 183 => 222 | 182 => 221 | 131 => 204 | 5 => 5 | 9 => 9 | 218 => 256 | 222 => 260 | 228 => 284 | 229 => 148 | n => n, fun n => n⟩
theorem sortInt_lays : Lays.n189 Tryz.prog sortInt_ren where
 mixed := by kernel_rfl
 f125 := Tryz.func133.trans (congrArg some (by kernel_rfl))
 f128 := Tryz.func191.trans (congrArg some (by kernel_rfl))
 f129 := Tryz.func192.trans (congrArg some (by kernel_rfl))
 f189 := Tryz.func96.trans (congrArg some (by kernel_rfl))
 f215 := Tryz.func166.trans (congrArg some (by kernel_rfl))
 f216 := Tryz.func222.trans (congrArg some (by kernel_rfl))
 f257 := Tryz.func151.trans (congrArg some (by kernel_rfl))
 f294 := Tryz.func216.trans (congrArg some (by kernel_rfl))
 f295 := Tryz.func217.trans (congrArg some (by kernel_rfl))
 f296 := Tryz.func218.trans (congrArg some (by kernel_rfl))
 f297 := Tryz.func219.trans (congrArg some (by kernel_rfl))
 f298 := Tryz.func220.trans (congrArg some (by kernel_rfl))
 f299 := Tryz.func221.trans (congrArg some (by kernel_rfl))
 f300 := Tryz.func223.trans (congrArg some (by kernel_rfl))
 f301 := Tryz.func224.trans (congrArg some (by kernel_rfl))
 f328 := Tryz.func253.trans (congrArg some (by kernel_rfl))
 f329 := Tryz.func234.trans (congrArg some (by kernel_rfl))
 f330 := Tryz.func235.trans (congrArg some (by kernel_rfl))
 f331 := Tryz.func254.trans (congrArg some (by kernel_rfl))
 f332 := Tryz.func255.trans (congrArg some (by kernel_rfl))
 f343 := Tryz.func280.trans (congrArg some (by kernel_rfl))
 t0 := Tryz.underlying0
 a0 := Tryz.isAgg0
 z0 := Tryz.sizeOf0
 v0 := Tryz.zeroValue0
 t3 := Tryz.underlying3
 a3 := Tryz.isAgg3
 z3 := Tryz.sizeOf3
 v3 := Tryz.zeroValue3
 t4 := Tryz.underlying4
 a4 := Tryz.isAgg4
 z4 := Tryz.sizeOf4
 v4 := Tryz.zeroValue4
 t5 := Tryz.underlying5
 a5 := Tryz.isAgg5
 z5 := Tryz.sizeOf5
 v5 := Tryz.zeroValue5
 t9 := Tryz.underlying9
 a9 := Tryz.isAgg9
 z9 := Tryz.sizeOf9
 v9 := Tryz.zeroValue9
 t28 := Tryz.underlying134
 a28 := Tryz.isAgg134
 z28 := Tryz.sizeOf134
 v28 := Tryz.zeroValue134
 t46 := Tryz.underlying174
 a46 := Tryz.isAgg174
 z46 := Tryz.sizeOf174
 v46 := Tryz.zeroValue174
 t51 := Tryz.underlying228
 a51 := Tryz.isAgg228
 z51 := Tryz.sizeOf228
 v51 := Tryz.zeroValue228
 t53 := Tryz.underlying230
 a53 := Tryz.isAgg230
 z53 := Tryz.sizeOf230
 v53 := Tryz.zeroValue230
 t131 := Tryz.underlying204
 a131 := Tryz.isAgg204
 z131 := Tryz.sizeOf204
 v131 := Tryz.zeroValue204
 t182 := Tryz.underlying221
 a182 := Tryz.isAgg221
 z182 := Tryz.sizeOf221
 v182 := Tryz.zeroValue221
 t183 := Tryz.underlying222
 a183 := Tryz.isAgg222
 z183 := Tryz.sizeOf222
 v183 := Tryz.zeroValue222
 t218 := Tryz.underlying256
 a218 := Tryz.isAgg256
 z218 := Tryz.sizeOf256
 v218 := Tryz.zeroValue256
 t222 := Tryz.underlying260
 a222 := Tryz.isAgg260
 z222 := Tryz.sizeOf260
 v222 := Tryz.zeroValue260
 t228 := Tryz.underlying284
 a228 := Tryz.isAgg284
 z228 := Tryz.sizeOf284
 v228 := Tryz.zeroValue284
 t229 := Tryz.underlying148
 a229 := Tryz.isAgg148
 z229 := Tryz.sizeOf148
 v229 := Tryz.zeroValue148
def compactInt_ren : Go.Shelf.Ren := ⟨fun | 20 => 97 | n => n, fun | 22 => 134 | 3 => 3 | 4 => 4 | 0 => 0 | n => n, fun n => n⟩
theorem compactInt_lays : Lays2.n20 Tryz.prog compactInt_ren where
 mixed := by kernel_rfl
 f20 := Tryz.func97.trans (congrArg some (by kernel_rfl))
 t0 := Tryz.underlying0
 a0 := Tryz.isAgg0
 z0 := Tryz.sizeOf0
 v0 := Tryz.zeroValue0
 t3 := Tryz.underlying3
 a3 := Tryz.isAgg3
 z3 := Tryz.sizeOf3
 v3 := Tryz.zeroValue3
 t4 := Tryz.underlying4
 a4 := Tryz.isAgg4
 z4 := Tryz.sizeOf4
 v4 := Tryz.zeroValue4
 t22 := Tryz.underlying134
 a22 := Tryz.isAgg134
 z22 := Tryz.sizeOf134
 v22 := Tryz.zeroValue134
 i3 := by kernel_rfl

theorem sortInts_px (l : List Int) (hl : l.length <= 1000000000) : PX Tryz.prog 96 [.hs 0 0 l.length] [(0, ⟨3, 1, dr (l.map zbu)⟩)] [(0, 0)] [(0, ⟨3, 1, dr ((l.mergeSort fun x y => decide (x <= y)).map zbu)⟩)] (.tup []) :=
 sortI_px sortInt_lays ⟨_, Tryz.func96, by kernel_rfl, by kernel_rfl⟩ 3 l (by omega)
theorem compactInts_px (l : List Int) (hl : l.length <= 1000000000) : PX Tryz.prog 97 [.hs 0 0 l.length] [(0, ⟨3, 1, dr (l.map zbu)⟩)] [(0, 0)] [(0, ⟨3, 1, dr ((Go.Lib.compact l ++ List.replicate (l.length - (Go.Lib.compact l).length) 0).map zbu)⟩)] (.hs 0 0 (Go.Lib.compact l).length) :=
 compactI_px compactInt_lays ⟨_, Tryz.func97, by kernel_rfl, by kernel_rfl⟩ 3 l (by omega)

theorem free_runs : ∀ l : List Run, D.freess (l.map Run.row) = true
 | [] => rfl
 | c :: l => by simp [D.freess, D.frees, D.free, free_runs l]
theorem cloneR_ok (l : List Run) (hl : l.length <= 100000000) : PC Tryz.prog 99 [zm l] (.f (zm l)) := by
 have h16 : l.length * 16 <= 140737488355328 := by omega
 refine pw cx Tryz.func99 Tryz.ntmps99 ?_;refine rg cx ?_;refine rg cx ?_;refine awp_ub 4 (by simp [push_cast]; exact ⟨rfl, rfl⟩) fun bu hu1 hu2 => ?_;refine awp_cd bu (fun hb => ?_) fun hb => ?_
 ·have hl0 : l = [] := by simpa using hu1 hb
  subst hl0;refine rg cx ?_;simp [push_cast]
 ·refine rx cx [] (fun K hK => by simp [push_cast, h16]; (repeat refine ob ?_); exact hK) ?_;have ht : List.take l.length (l.map Run.row) = l.map Run.row := List.take_of_length_le (by simp);simp [push_cast, ht, free_runs]
end Go.Proofs.YtdddknniooimmaaGreat

namespace Go.Proofs.YtdddknniooimmaaGreat
open Go.Abs

theorem take_flat_one' {α β : Type} {f : α -> List β} (h : ∀ x, (f x).length <= 1) (l : List α) (k : Nat) : ((l.take k).flatMap f).length <= l.length := by
 have key : ∀ m : List α, (m.flatMap f).length <= m.length := by
  intro m;induction m with
  | nil => simp
  | cons x m ih => have := h x; rw [List.flatMap_cons, List.length_append, List.length_cons]; omega
 have := key (l.take k);simp at this ⊢; omega
theorem swOut_len (now o : Bool) (out : List Run) (x : Int) : (zkf now o out x).length <= out.length + 1 := by
 unfold zkf;split
 ·simp
 ·split
  ·simp;try omega
  ·omega
theorem swF_len (f : Bool -> Bool -> Bool) (a b : List Run) : ∀ (n p q : Nat) (out : List Run) (o : Bool), (swF f a b n p q out o).length <= out.length + n
 | 0, _, _, out, _ => by simp [swF]
 | n + 1, p, q, out, o => by
  unfold swF;split
  ·omega
  ·refine Nat.le_trans (swF_len f a b n _ _ _ _) ?_;have := swOut_len (f (swP a (swX a b p q) p % 2 == 1) (swP b (swX a b p q) q % 2 == 1)) o out (swX a b p q);omega
theorem sweep_len (f : Bool -> Bool -> Bool) (a b : List Run) : (sweep f a b).length <= 2 * a.length + 2 * b.length := by
 unfold sweep;split
 ·simpa using swF_len f a b (2 * a.length + 2 * b.length) 0 0 [] false
 ·simp
theorem zsp {R : List Row} (hR : zbw R) (y : Int) : (zy R y).length <= 1000000 := by
 unfold zy;split
 ·rename_i w h; exact hR.2 w (List.mem_of_find?_eq_some h)
 ·simp
theorem opRow_len (f : Bool -> Bool -> Bool) (a b : List Row) (y : Int) : (znk f a b y).length <= 1 := by unfold znk; split <;> simp
def ysK (a b : List Row) (k : Nat) : List Int := if k = 0 then [] else if k = 1 then a.map Row.y else a.map Row.y ++ b.map Row.y

set_option maxHeartbeats 4000000 in
theorem combine_big (f : Bool -> Bool -> Bool) (hf : f false false = false) (g : FuncId) (hg : ∀ x y : List Run, x.length <= 1000000 -> y.length <= 1000000 -> zal x = true -> zal y = true -> PC Tryz.prog g [zm x, zm y] (.p (zm (sweep f x y)))) (a b : List Row) (hA : zqd a) (hB : zqd b) :
  PC Tryz.prog 126 [.agg (zp a), .agg (zp b), .fn (.func g) []] (.p (.agg (zp (opR f a b)))) := by
 have c1 := zsl a hA;have c2 := zsl b hB;have hop : opR f a b = if zo a && zo b then zmq f a b (zki (zwx a b)) else [] := rfl
 cases ha : zo a with
 | false =>
  rw [ha] at c1;have h0 : opR f a b = [] := by rw [hop, ha]; simp
  rw [h0];refine pw cx Tryz.func126 Tryz.ntmps126 ?_;refine rg cx ?_;refine rx cx [(1, .p (.bool false)), (5, .skip)] (fun K hK => by simp [push_cast, c1]; (repeat refine ob ?_); exact hK) ?_;refine awp_cd true (fun hb => ?_) fun hb => ?_
  ·refine rg cx ?_;simp [push_cast]
  ·simp at hb
 | true =>
  rw [ha] at c1;cases hb0 : zo b with
  | false =>
   rw [hb0] at c2;have h0 : opR f a b = [] := by rw [hop, ha, hb0]; simp
   rw [h0];refine pw cx Tryz.func126 Tryz.ntmps126 ?_;refine rg cx ?_;refine rx cx [(1, .p (.bool true)), (5, .p (.bool false))] (fun K hK => by simp [push_cast, c1, c2]; (repeat refine ob ?_); exact hK) ?_;refine awp_cd true (fun hb => ?_) fun hb => ?_
   ·refine rg cx ?_;simp [push_cast]
   ·simp at hb
  | true =>
   rw [hb0] at c2
   replace hA := zbg ha
   replace hB := zbg hb0
   have hal := hA.1;have hbl := hB.1;have hon := fun ys hp hys => @opR_on f hf a b ha hb0 ys hp hys;clear hop;generalize opR f a b = res at *;refine pw cx Tryz.func126 Tryz.ntmps126 ?_;refine rg cx ?_;refine rx cx [(1, .p (.bool true)), (5, .p (.bool true))] (fun K hK => by simp [push_cast, c1, c2]; (repeat refine ob ?_); exact hK) ?_;refine awp_cd false (fun hb => ?_) fun hb => ?_
   ·simp at hb
   ·refine rg cx ?_;refine rg cx ?_;refine zu (β := Nat × List Int) (fun s => ⟨76, [(2, .d (.fn (.func g) [])), (3, .ptr 0 0 0), (4, .ptr 1 0 0), (6, .ptr 2 0 0), (7, .hs 3 0 s.2.length), (27, .d (.agg [zz a, zz b])), (28, .d (.int .i64 s.1))], [(0, some ⟨24, 1, [(zp a).map .d]⟩), (1, some ⟨24, 1, [(zp b).map .d]⟩), (2, some ⟨24, 1, [[.nl]]⟩), (3, some ⟨3, 1, dr (s.2.map zbu)⟩)], 4⟩) (fun s => s.1 <= 2 /\ s.2 = ysK a b s.1) (fun s => 2 - s.1) (0, []) ?_ ⟨by simp only; omega, by simp [ysK]⟩ ?_
    ·refine wk [(0, some 0), (1, some 1), (2, some 2), (3, none)]
    ·rintro ⟨k, Y⟩ ⟨hk, hY⟩;simp only at hk hY;refine Nav.imp ?_;have hYl : Y.length <= 2000000 := by
      rw [hY]; unfold ysK; split <;> (try split) <;> simp <;> omega
     by_cases hk2 : k < 2
     ·obtain ⟨R, hR⟩ : ∃ R, R = if k = 0 then a else b := ⟨_, rfl⟩
      have hRl : R.length <= 1000000 := by rw [hR]; split <;> omega
      have hnx : ysK a b (k + 1) = Y ++ R.map Row.y := by
       rw [hY, hR];rcases (by omega : k = 0 \/ k = 1) with rfl | rfl <;> simp [ysK]
      have hYK : Y.length + R.length <= 2000000 := by
       have : (Y ++ R.map Row.y).length <= a.length + b.length := by
        rw [<- hnx]; unfold ysK; split <;> (try split) <;> simp <;> omega
       simp at this; omega
      have e0 := wI ((k : Int) + 1);have hk2' : (k : Int) < 2 := by omega
      clear hY;apply cut_
      ·intro key;rcases (by omega : k = 0 \/ k = 1) with hk0 | hk0
       ·have hR : R = a := by rw [hR, hk0]; rfl
        refine rx cx [] (fun K hK => by simp [push_cast, hk0]; (repeat refine ob ?_); exact hK) ?_;refine awp_cn true (by simp [push_cast, hk0]) (fun hb => ?_) fun hb => ?_
        ·refine rx cx [] (fun K hK => by simp [push_cast, hk0]; (repeat refine ob ?_); exact hK) ?_;refine zbf (s' := ⟨76, [(2, .d (.fn (.func g) [])), (3, .ptr 0 0 0), (4, .ptr 1 0 0), (6, .ptr 2 0 0), (7, .hs 3 0 Y.length), (9, .ptr 4 0 0), (27, .d (.agg [zz a, zz b])), (28, .d (.int .i64 k))], [(0, some ⟨24, 1, [(zp a).map .d]⟩), (1, some ⟨24, 1, [(zp b).map .d]⟩), (2, some ⟨24, 1, [[.nl]]⟩), (3, some ⟨3, 1, dr (Y.map zbu)⟩), (4, some ⟨24, 1, [(zp R).map .d]⟩)], 5⟩) ?_ key.h;refine wq [(0, some 0), (1, some 1), (2, some 2), (3, some 3), (4, some 6)] (by simp [upT, upH, upR, upL, up, push_cast, hk0, hR])
        ·simp at hb
       ·have hR : R = b := by rw [hR, hk0]; rfl
        refine rx cx [] (fun K hK => by simp [push_cast, hk0]; (repeat refine ob ?_); exact hK) ?_;refine awp_cn true (by simp [push_cast, hk0]) (fun hb => ?_) fun hb => ?_
        ·refine rx cx [] (fun K hK => by simp [push_cast, hk0]; (repeat refine ob ?_); exact hK) ?_;refine zbf (s' := ⟨76, [(2, .d (.fn (.func g) [])), (3, .ptr 0 0 0), (4, .ptr 1 0 0), (6, .ptr 2 0 0), (7, .hs 3 0 Y.length), (9, .ptr 4 0 0), (27, .d (.agg [zz a, zz b])), (28, .d (.int .i64 k))], [(0, some ⟨24, 1, [(zp a).map .d]⟩), (1, some ⟨24, 1, [(zp b).map .d]⟩), (2, some ⟨24, 1, [[.nl]]⟩), (3, some ⟨3, 1, dr (Y.map zbu)⟩), (4, some ⟨24, 1, [(zp R).map .d]⟩)], 5⟩) ?_ key.h;refine wq [(0, some 0), (1, some 1), (2, some 2), (3, some 3), (4, some 6)] (by simp [upT, upH, upR, upL, up, push_cast, hk0, hR])
        ·simp at hb
      ·refine Nav.imp ?_;refine rg cx ?_;refine zu (β := Nat × List Int) (fun s => ⟨76, [(2, .d (.fn (.func g) [])), (3, .ptr 0 0 0), (4, .ptr 1 0 0), (6, .ptr 2 0 0), (7, .hs 3 0 s.2.length), (27, .d (.agg [zz a, zz b])), (28, .d (.int .i64 k)), (32, .d (zz R)), (33, .d (.int .i64 R.length)), (34, .d (.int .i64 s.1))], [(0, some ⟨24, 1, [(zp a).map .d]⟩), (1, some ⟨24, 1, [(zp b).map .d]⟩), (2, some ⟨24, 1, [[.nl]]⟩), (3, some ⟨3, 1, dr (s.2.map zbu)⟩)], 4⟩) (fun s => s.1 <= R.length /\ s.2 = Y ++ (R.take s.1).map Row.y) (fun s => R.length - s.1) (0, Y) ?_ ⟨Nat.zero_le _, by simp⟩ ?_
       ·refine wk [(0, some 0), (1, some 1), (2, some 2), (3, some 3)]
       ·rintro ⟨j, Z⟩ ⟨hj, hZ⟩;simp only at hj hZ;refine Nav.imp ?_;refine rg cx ?_;refine awp_cd (decide ((j : Int) < R.length)) (fun hb => ?_) fun hb => ?_
        ·have hjl : j < R.length := by simpa using hb
         obtain ⟨w, hw⟩ := zap hjl;have e1 := wI ((j : Int) + 1);have hZl : Z.length <= 2000000 := by rw [hZ]; simp; omega
         have hZ8 : (Z.length + 1) * 8 <= 140737488355328 := by omega
         have hnz : Y ++ (R.take (j + 1)).map Row.y = Z ++ [w.y] := by rw [zat hw, List.map_append, hZ]; simp
         obtain ⟨wy, wr⟩ := w;simp only at hnz;refine rx cx [] (fun K hK => by simp [push_cast, hw, Row.row]; (repeat refine ob ?_); exact hK) ?_;refine rx cx [] (fun K hK => by simp [push_cast, hZ8, Row.row]; (repeat refine ob ?_); exact hK) ?_;refine rx cx [] (fun K hK => by simp [push_cast, e1]; (repeat refine ob ?_); exact hK) ?_;refine ⟨(j + 1, Z ++ [wy]), ⟨hjl, hnz.symm⟩, by simp only; omega, ?_⟩;refine wk [(0, some 0), (1, some 1), (2, some 2), (3, some 13)]
        ·have hjn : j = R.length := by simp at hb; omega
         subst hjn;rw [List.take_length, <- hnx] at hZ;refine rx cx [] (fun K hK => by simp [push_cast, e0]; (repeat refine ob ?_); exact hK) ?_;refine ⟨(k + 1, Z), ⟨by simp only; omega, hZ⟩, by simp only; omega, ?_⟩;refine wk [(0, some 0), (1, some 1), (2, some 2), (3, some 3)]
     ·have hk2 : k = 2 := by omega
      subst hk2;have hY : Y = a.map Row.y ++ b.map Row.y := by rw [hY]; simp [ysK]
      have d1 := sortInts_px Y (by omega);have hsrt : (Y.mergeSort fun x y => decide (x <= y)) = zwx a b := by rw [hY]; rfl
      rw [hsrt] at d1;have hsl : (zwx a b).length = Y.length := by rw [<- hsrt]; exact List.length_mergeSort Y
      have d2 := compactInts_px (zwx a b) (by omega);obtain ⟨q1, q2⟩ := compact_sorted (allY_le a b);have hcl := Go.Lib.compact_length_le (zwx a b);have hres := hon (Go.Lib.compact (zwx a b)) q1 (fun w hw => by
       rw [q2, (allY_perm a b).mem_iff, List.mem_append];rcases hw with h | h
       ·exact .inl (List.mem_map_of_mem h)
       ·exact .inr (List.mem_map_of_mem h))
      clear hon q1 q2 hsrt hY;generalize zwx a b = S at *;generalize hC : Go.Lib.compact S = C at *;generalize hZs : List.replicate (S.length - C.length) (0 : Int) = Zs at *;have htk : List.take C.length ((C ++ Zs).map zbu) = C.map zbu := by rw [List.map_append, List.take_left' (by simp)]
      have hCl : C.length <= 2000000 := by omega
      have hCle : C.length <= (C ++ Zs).length := by simp
      generalize hE : C ++ Zs = E at *;refine rg cx ?_;refine awp_cd false (fun hb => ?_) fun hb => ?_
      ·simp at hb
      ·refine rx cx [(1, .x ⟨[(0, 3)], [.hs 0 0 Y.length], [(0, ⟨3, 1, dr (Y.map zbu)⟩)], [(0, 0)], none, [(0, ⟨3, 1, dr (S.map zbu)⟩)], .tup []⟩)] (fun K hK => by simp [push_cast, d1]; (repeat refine ob ?_); exact hK) ?_;rw [<- hsl];refine rg cx ?_;refine rx cx [(1, .x ⟨[(0, 3)], [.hs 0 0 S.length], [(0, ⟨3, 1, dr (S.map zbu)⟩)], [(0, 0)], none, [(0, ⟨3, 1, dr (E.map zbu)⟩)], .hs 0 0 C.length⟩)] (fun K hK => by simp [push_cast, d2]; (repeat refine ob ?_); exact hK) ?_;refine zaq 3 (E.map zbu) rfl (by simp [push_cast, htk]) fun K hK => ?_;simp [push_cast, St.fz, fzT, fzH, fzO, fz, fzL, fzR, zbx, zbo, zbn, zbm, htk];refine nx hK ?_; clear hK K;refine zu (β := Nat × List Row) (fun s => ⟨76, [(2, .d (.fn (.func g) [])), (3, .ptr 0 0 0), (4, .ptr 1 0 0), (6, .ptr 2 0 0), (12, .ptr 3 0 0), (48, .d (.sl (C.map zbu))), (49, .d (.int .i64 C.length)), (50, .d (.int .i64 s.1))], [(0, some ⟨24, 1, [(zp a).map .d]⟩), (1, some ⟨24, 1, [(zp b).map .d]⟩), (2, some ⟨24, 1, [[.nl]]⟩), (3, some ⟨24, 1, [[.hs 4 0 s.2.length]]⟩), (4, some ⟨65, 2, dr (s.2.map Row.row)⟩)], 5⟩) (fun s => s.1 <= C.length /\ s.2 = zmq f a b (C.take s.1)) (fun s => C.length - s.1) (0, []) ?_ ⟨Nat.zero_le _, by simp [zmq]⟩ ?_
       ·refine wq [(0, some 0), (1, some 1), (2, some 2), (3, some 7), (4, none)] (by simp [upT, upH, upR, upL, up, push_cast, hCle])
       ·rintro ⟨k, Z⟩ ⟨hk, hZ⟩;simp only at hk hZ;refine Nav.imp ?_;refine rg cx ?_;refine awp_cd (decide ((k : Int) < C.length)) (fun hb => ?_) fun hb => ?_
        ·have hlt : k < C.length := by simpa using hb
         obtain ⟨y, hy⟩ := zap hlt;have e0 := wI ((k : Int) + 1);have hnx : zmq f a b (C.take (k + 1)) = Z ++ znk f a b y := by rw [hZ]; unfold zmq; rw [zhi _ hy]
         have hZl : Z.length <= 2000000 := by
          have : Z.length <= C.length := by rw [hZ]; exact take_flat_one' (opRow_len f a b) C k
          omega
         have hZ32 : (Z.length + 1) * 32 <= 140737488355328 := by omega
         have g1 := row_ok a y hA ha;have g2 := row_ok b y hB hb0;have g3 := hg (zy a y) (zy b y) (zsp hA y) (zsp hB y) (zdb ha y) (zdb hb0 y);have hl1 := zsp hA y;have hl2 := zsp hB y;have hsl2 := sweep_len f (zy a y) (zy b y);have g4 := cloneR_ok (sweep f (zy a y) (zy b y)) (by omega);have hor : znk f a b y = if sweep f (zy a y) (zy b y) = [] then [] else [⟨y, sweep f (zy a y) (zy b y)⟩] := rfl
         rw [hor] at hnx;clear hor hl1 hl2 hsl2;generalize sweep f (zy a y) (zy b y) = r at *;generalize zy a y = ra at *;generalize zy b y = rb at *;refine rx cx [] (fun K hK => by simp [push_cast, hy]; (repeat refine ob ?_); exact hK) ?_;refine rd cx mixed [(3, .p (zm ra)), (6, .p (zm rb)), (7, .p (zm r))] (fun K hK => by simp [push_cast, g1, g2, g3]; (repeat refine ob ?_); exact hK) ?_;refine rg cx ?_;refine awp_cd (decide (0 < (r.length : Int))) (fun hb => ?_) fun hb => ?_
         ·have hb : 0 < r.length := by simp at hb; omega
          have hne : r ≠ [] := List.length_pos_iff.1 hb;rw [if_neg hne] at hnx;refine rd cx mixed [(4, .f (zm r))] (fun K hK => by simp [push_cast, g4, hZ32]; (repeat refine ob ?_); exact hK) ?_;refine rx cx [] (fun K hK => by simp [push_cast, e0]; (repeat refine ob ?_); exact hK) ?_;refine ⟨(k + 1, Z ++ [⟨y, r⟩]), ⟨hlt, hnx.symm⟩, by simp only; omega, ?_⟩;refine wq [(0, some 0), (1, some 1), (2, some 2), (3, some 3), (4, some 28)] (by simp [upT, upH, upR, upL, up, push_cast, Row.row])
         ·have hb : r = [] := by simpa using hb
          rw [if_pos hb, List.append_nil] at hnx;refine rx cx [] (fun K hK => by simp [push_cast, e0]; (repeat refine ob ?_); exact hK) ?_;refine ⟨(k + 1, Z), ⟨hlt, hnx.symm⟩, by simp only; omega, ?_⟩;refine wq [(0, some 0), (1, some 1), (2, some 2), (3, some 3), (4, some 4)] (by simp [upT, upH, upR, upL, up, push_cast, Row.row])
        ·have hge : k = C.length := by simp at hb; omega
         subst hge;rw [List.take_length, hres] at hZ;subst hZ;refine zaq 4 (Z.map Row.row) rfl (by simp [push_cast, Row.row]) fun K hK => ?_;simp [push_cast, St.fz, fzT, fzH, fzO, fz, fzL, fzR, zbx, zbo, zbn, zbm, Row.row];refine nx hK ?_; clear hK K;refine rg cx ?_;simp [push_cast]

theorem unionR_big (a b : List Row) (hA : zqd a) (hB : zqd b) : PC Tryz.prog 65 [.agg (zp a), .agg (zp b)] (.p (.agg (zp (opR fU a b)))) := by
 have c1 := combine_big fU rfl 62 (fun x y h1 h2 h3 h4 => union_ok x y h1 h2 h3 h4) a b hA hB;generalize opR fU a b = r at *;refine pw cx Tryz.func65 Tryz.ntmps65 ?_;refine rg cx ?_;refine rx cx [(2, .p (.agg (zp r)))] (fun K hK => by simp [push_cast, c1]; (repeat refine ob ?_); exact hK) ?_;simp [push_cast]

theorem unionR_ok (a b : List Row) (hA : zbw a) (hB : zbw b) : PC Tryz.prog 65 [.agg (zp a), .agg (zp b)] (.p (.agg (zp (opR fU a b)))) := unionR_big a b (zun hA) (zun hB)

end Go.Proofs.YtdddknniooimmaaGreat

namespace Go.Abs
variable [Flag]
open Go.RowKit

def dyn (e : TypeId) (m : Nat) : Nat -> List (List (List D)) -> List (Nat × Option Ob)
 | _, [] => []
 | k, r :: S => (1000000 + k, some ⟨e, m, dr r⟩) :: dyn e m (k + 1) S
def dynP (e : TypeId) (m : Nat) : Nat -> List (List (List D)) -> List (Nat × Ob)
 | _, [] => []
 | k, r :: S => (1000000 + k, ⟨e, m, dr r⟩) :: dynP e m (k + 1) S
def zkd : Nat -> List Nat -> List (Nat × Option Nat)
 | _, [] => []
 | k, x :: r => (1000000 + k, some x) :: zkd (k + 1) r
def zdt (ids lens : List Nat) : List (List AV) := List.zipWith (fun x l => [AV.hs x 0 l]) ids lens
def zak (n : Nat) : List Nat := (List.range n).map fun k => 1000000 + k

section
variable {e : TypeId} {m : Nat}
theorem zac : ∀ (S : List (List (List D))) (k i : Nat), find (dyn e m k S) i = if 1000000 + k <= i then (S[i - (1000000 + k)]?).map (fun r => some ⟨e, m, dr r⟩) else none
 | [], k, i => by simp [dyn, find]
 | r :: S, k, i => by
  simp only [dyn, find];by_cases h : 1000000 + k = i
  ·subst h; simp
  ·rw [if_neg h, zac S (k + 1) i];by_cases h2 : 1000000 + k <= i
   ·rw [if_pos h2, if_pos (by omega), show i - (1000000 + k) = (i - (1000000 + (k + 1))) + 1 by omega, List.getElem?_cons_succ]
   ·rw [if_neg h2, if_neg (by omega)]
theorem zau (S : List (List (List D))) (j : Nat) : find (dyn e m 0 S) (1000000 + j) = (S[j]?).map (fun r => some ⟨e, m, dr r⟩) := by
 rw [zac, if_pos (by omega), show 1000000 + j - (1000000 + 0) = j by omega]
theorem find_dynP : ∀ (S : List (List (List D))) (k i : Nat), find (dynP e m k S) i = if 1000000 + k <= i then (S[i - (1000000 + k)]?).map (fun r => ⟨e, m, dr r⟩) else none
 | [], k, i => by simp [dynP, find]
 | r :: S, k, i => by
  simp only [dynP, find];by_cases h : 1000000 + k = i
  ·subst h; simp
  ·rw [if_neg h, find_dynP S (k + 1) i];by_cases h2 : 1000000 + k <= i
   ·rw [if_pos h2, if_pos (by omega), show i - (1000000 + k) = (i - (1000000 + (k + 1))) + 1 by omega, List.getElem?_cons_succ]
   ·rw [if_neg h2, if_neg (by omega)]
theorem zaa : ∀ (S : List Nat) (k i : Nat), find (zkd k S) i = if 1000000 + k <= i then (S[i - (1000000 + k)]?).map some else none
 | [], k, i => by simp [zkd, find]
 | r :: S, k, i => by
  simp only [zkd, find];by_cases h : 1000000 + k = i
  ·subst h; simp
  ·rw [if_neg h, zaa S (k + 1) i];by_cases h2 : 1000000 + k <= i
   ·rw [if_pos h2, if_pos (by omega), show i - (1000000 + k) = (i - (1000000 + (k + 1))) + 1 by omega, List.getElem?_cons_succ]
   ·rw [if_neg h2, if_neg (by omega)]
theorem zcv (S : List Nat) (j : Nat) : find (zkd 0 S) (1000000 + j) = (S[j]?).map some := by
 rw [zaa, if_pos (by omega), show 1000000 + j - (1000000 + 0) = j by omega]
end

theorem zw {α : Type} (x : Nat) : ∀ (a b : List (Nat × α)), find (a ++ b) x = (find a x).or (find b x) := zpr x
theorem zky {α : Type} {x b : Nat} : ∀ {l : List (Nat × α)}, (l.all fun y => Nat.blt y.1 b) = true -> b <= x -> find l x = none
 | [], _, _ => rfl
 | (k, v) :: r, h, hx => by
  simp only [List.all_cons, Bool.and_eq_true] at h;have h1 : k < b := Nat.le_of_ble_eq_true h.1;simp only [find];rw [if_neg (by omega)];exact zky h.2 hx

theorem zr (n : Nat) : (zak n).length = n := by simp [zak]
theorem zhq {n k : Nat} (h : k < n) : (zak n)[k]? = some (1000000 + k) := by simp [zak, h]
theorem zas {n k x : Nat} (h : (zak n)[k]? = some x) : k < n /\ x = 1000000 + k := by
 have hk : k < n := by have := (List.getElem?_eq_some_iff.1 h).1; simpa [zak] using this
 rw [zhq hk] at h;exact ⟨hk, by cases h; rfl⟩
theorem idsN_succ (n : Nat) : zak (n + 1) = zak n ++ [1000000 + n] := by simp [zak, List.range_succ]
theorem zbb {n x : Nat} : x ∈ zak n ↔ 1000000 <= x /\ x < 1000000 + n := by
 simp only [zak, List.mem_map, List.mem_range];constructor
 ·rintro ⟨k, hk, rfl⟩; omega
 ·intro h; exact ⟨x - 1000000, by omega, by omega⟩
theorem zaw (n : Nat) : (zak n).Nodup := by
 induction n with
 | zero => simp [zak]
 | succ n ih =>
  rw [idsN_succ, List.nodup_append];exact ⟨ih, by simp, fun a ha b hb => by have := zbb.1 ha; simp at hb; omega⟩
theorem zmn {ids lens : List Nat} (h : ids.length = lens.length) : (zdt ids lens).length = lens.length := by simp [zdt, h]
theorem rowsAt_get {ids lens : List Nat} {k x l : Nat} (h1 : ids[k]? = some x) (h2 : lens[k]? = some l) : (zdt ids lens)[k]? = some [.hs x 0 l] := by
 simp [zdt, List.getElem?_zipWith, h1, h2]
theorem zra {ids lens : List Nat} {k : Nat} {r : List AV} (h : (zdt ids lens)[k]? = some r) : ∃ x l, ids[k]? = some x /\ lens[k]? = some l /\ r = [.hs x 0 l] := by
 simp only [zdt, List.getElem?_zipWith] at h;cases h1 : ids[k]? <;> cases h2 : lens[k]? <;> simp [h1, h2] at h
 exact ⟨_, _, rfl, rfl, h.symm⟩
theorem rowsAt_app {ids lens : List Nat} (h : ids.length = lens.length) (x l : Nat) : zdt ids lens ++ [[.hs x 0 l]] = zdt (ids ++ [x]) (lens ++ [l]) := by
 simp only [zdt];rw [List.zipWith_append h]; rfl

theorem upR_of {σ : List (Nat × Option Nat)} : ∀ {x y : List (List AV)}, x.length = y.length -> (∀ (i : Nat) (r q : List AV), x[i]? = some r -> y[i]? = some q -> upL σ r = some q) -> upR σ x = some y
 | [], [], _, _ => rfl
 | [], _ :: _, h, _ => by simp at h
 | _ :: _, [], h, _ => by simp at h
 | a :: x, b :: y, h, hg => by
  have h1 := hg 0 a b rfl rfl;have h2 := upR_of (x := x) (y := y) (by simpa using h) fun i r q hr hq => hg (i + 1) r q (by simpa using hr) (by simpa using hq);simp [upR, h1, h2]
theorem upR_rows {σ0 : List (Nat × Option Nat)} (hlow : (σ0.all fun x => Nat.blt x.1 1000000) = true) {ns lens : List Nat} (h : ns.length = lens.length) : upR (σ0 ++ zkd 0 ns) (zdt (zak lens.length) lens) = some (zdt ns lens) := by
 refine upR_of (by rw [zmn (by rw [zr]), zmn h]) fun i r q hr hq => ?_;obtain ⟨x, l, h1, h2, rfl⟩ := zra hr;obtain ⟨y, l', h3, h4, rfl⟩ := zra hq;obtain ⟨hk, rfl⟩ := zas h1;rw [h2] at h4;cases h4;simp [upL, up, zw, zky hlow (show 1000000 <= 1000000 + i by omega), zcv, h3]
theorem rnR_of {σ : List (Nat × Nat)} : ∀ {x y : List (List AV)}, x.length = y.length -> (∀ (i : Nat) (r q : List AV), x[i]? = some r -> y[i]? = some q -> rnL σ r = some q) -> rnR σ x = some y
 | [], [], _, _ => rfl
 | [], _ :: _, h, _ => by simp at h
 | _ :: _, [], h, _ => by simp at h
 | a :: x, b :: y, h, hg => by
  have h1 := hg 0 a b rfl rfl;have h2 := rnR_of (x := x) (y := y) (by simpa using h) fun i r q hr hq => hg (i + 1) r q (by simpa using hr) (by simpa using hq);simp [rnR, h1, h2]
theorem upH_app {σ : List (Nat × Option Nat)} {s : St} : ∀ {a b : List (Nat × Option Ob)}, upH σ s a -> upH σ s b -> upH σ s (a ++ b)
 | [], b, _, h => h
 | (k, some o) :: a, b, ha, hb => by
  simp only [List.cons_append, upH] at ha ⊢;exact ⟨ha.1, upH_app ha.2 hb⟩
 | (k, none) :: a, b, ha, hb => by
  simp only [List.cons_append, upH] at ha ⊢;exact upH_app ha hb
theorem upH_dyn {σ : List (Nat × Option Nat)} {s : St} {e : TypeId} {m : Nat} : ∀ {S : List (List (List D))} {k : Nat}, (∀ (j : Nat) (r : List (List D)), S[j]? = some r -> ∃ x o0, find σ (1000000 + (k + j)) = some (some x) /\ s.obj x = some o0 /\ o0.elem = e /\ o0.m = m /\ o0.rows = dr r) -> upH σ s (dyn e m k S)
 | [], k, _ => trivial
 | r :: S, k, h => by
  simp only [dyn, upH];obtain ⟨x, o0, h1, h2, h3, h4, h5⟩ := h 0 r rfl;refine ⟨?_, upH_dyn fun j r' hr => ?_⟩
  ·rw [Nat.add_zero] at h1;rw [h1];exact ⟨o0, h2, h3, h4, by rw [h5]; exact upR_dr σ r⟩
  ·have := h (j + 1) r' (by simpa using hr)
   rwa [show k + (j + 1) = k + 1 + j by omega] at this
theorem namesOk_app {s' : St} : ∀ {a b : List (Nat × Option Nat)}, zg s' a -> zg s' b -> zg s' (a ++ b)
 | [], b, _, h => h
 | (k, v) :: a, b, ha, hb => by
  simp only [List.cons_append, zg] at ha ⊢;exact ⟨ha.1, ha.2.1, namesOk_app ha.2.2 hb⟩
theorem namesOk_dyn {s' : St} : ∀ {ns : List Nat} {k : Nat}, (∀ j, j < ns.length -> (s'.obj (1000000 + (k + j))).isSome = true /\ 1000000 + (k + j) < s'.nxt) -> zg s' (zkd k ns)
 | [], k, _ => trivial
 | x :: r, k, h => by
  simp only [zkd, zg];have h0 := h 0 (by simp);refine ⟨h0.1, h0.2, namesOk_dyn fun j hj => ?_⟩;have := h (j + 1) (by simpa using hj)
  rwa [show k + (j + 1) = k + 1 + j by omega] at this
theorem olds_app : ∀ (a b : List (Nat × Option Nat)), zq (a ++ b) = zq a ++ zq b
 | [], b => rfl
 | (k, some x) :: a, b => by simp [zq, olds_app a b]
 | (k, none) :: a, b => by simp [zq, olds_app a b]
theorem olds_dyn : ∀ (ns : List Nat) (k : Nat), zq (zkd k ns) = ns
 | [], k => rfl
 | x :: r, k => by simp [zkd, zq, olds_dyn r]

theorem zqr {s : St} {n : Nat} {tm : List (Nat × AV)} {nxt : Nat} {e : TypeId} {m : Nat} (σ0 : List (Nat × Option Nat)) (ns : List Nat) (H0 : List (Nat × Option Ob)) (S : List (List (List D)))
  (hlow : (σ0.all fun x => Nat.blt x.1 1000000) = true) (hlow2 : (H0.all fun x => Nat.blt x.1 1000000) = true) (hnx : 1000000 + S.length <= nxt) (hlen : ns.length = S.length)
  (hn : n = s.n) (htm : upT (σ0 ++ zkd 0 ns) s tm) (hh : upH (σ0 ++ zkd 0 ns) s H0) (hnm : zg ⟨n, tm, H0, nxt⟩ σ0)
  (ho : (zq σ0).Nodup) (hns : ns.Nodup) (hd : ∀ x ∈ ns, x ∉ zq σ0)
  (hS : ∀ (j : Nat) (r : List (List D)) (x : Nat), S[j]? = some r -> ns[j]? = some x -> s.obj x = some ⟨e, m, dr r⟩) : zei s ⟨n, tm, H0 ++ dyn e m 0 S, nxt⟩ := by
 have hget : ∀ x, find (σ0 ++ zkd 0 ns) x = (find σ0 x).or (find (zkd 0 ns) x) := fun x => zw x _ _;refine zh (σ0 ++ zkd 0 ns) hn htm (upH_app hh (upH_dyn fun j r hr => ?_)) (namesOk_app ?_ (namesOk_dyn fun j hj => ?_)) ?_
 ·have hj : j < ns.length := by rw [hlen]; exact (List.getElem?_eq_some_iff.1 hr).1
  have hx : ns[j]? = some ns[j] := List.getElem?_eq_getElem hj;refine ⟨ns[j], _, ?_, hS j r _ hr hx, rfl, rfl, rfl⟩;rw [hget, zky hlow (by omega), Nat.zero_add, zcv, hx]; rfl
 ·have key : ∀ (σ : List (Nat × Option Nat)), zg ⟨n, tm, H0, nxt⟩ σ -> zg ⟨n, tm, H0 ++ dyn e m 0 S, nxt⟩ σ := by
   intro σ;induction σ with
   | nil => intro _; trivial
   | cons p r ih =>
    obtain ⟨k, v⟩ := p;intro h;simp only [zg] at h ⊢;refine ⟨?_, h.2.1, ih h.2.2⟩;have h1 := h.1;simp only [St.obj] at h1 ⊢;rw [zw];cases hf : find H0 k with
    | none => rw [hf] at h1; simp at h1
    | some o => rw [hf] at h1; simpa using h1
  exact key σ0 hnm
 ·have hj' : j < S.length := by omega
  refine ⟨?_, by simp only; omega⟩;simp only [St.obj];rw [zw, zky hlow2 (by omega), Nat.zero_add, zau, List.getElem?_eq_getElem hj']; rfl
 ·rw [olds_app, olds_dyn, List.nodup_append];exact ⟨ho, hns, fun a ha b hb hab => hd b hb (hab ▸ ha)⟩

theorem weak_ext {s s' : St} (hn : s'.n = s.n) (h1 : ∀ t, s'.get t = s.get t) (h2 : ∀ x, s'.obj x = s.obj x) (h3 : s.nxt <= s'.nxt) : zei s s' := by
 intro g a w hr;refine ⟨g, ?_, zam.refl g w⟩;have := Rel.congr hr h1 h2;exact ⟨this.defers, by rw [hn]; exact this.size, this.tmp, fun id hu => Nat.lt_of_lt_of_le (this.used id hu) h3, this.heap⟩

theorem fzH_dyn {e : TypeId} {m : Nat} (id : Nat) (rs : List (List D)) : ∀ (S : List (List (List D))) (k : Nat), fzH id rs (dyn e m k S) = dyn e m k S
 | [], k => rfl
 | r :: S, k => by
  have h := fzH_dyn (e := e) (m := m) id rs S (k + 1);simp only [dyn, fzH] at h ⊢;rw [h, fzO, zbx]

def mixR (S : List (List (List D))) (k : Nat) : List (List AV) := dr ((S.take k).map fun r => [D.sl r]) ++ zdt ((zak S.length).drop k) ((S.map List.length).drop k)
theorem mixR_all (S : List (List (List D))) : mixR S S.length = dr (S.map fun r => [D.sl r]) := by
 have : (zak S.length).drop S.length = [] := by rw [List.drop_eq_nil_iff]; simp [zak]
 simp only [mixR, List.take_length, this];simp [zdt]
theorem mixR_zero (S : List (List (List D))) : mixR S 0 = zdt (zak S.length) (S.map List.length) := by simp [mixR, dr]
theorem fzR_appA (id : Nat) (rs : List (List D)) : ∀ (a b : List (List AV)), fzR id rs (a ++ b) = fzR id rs a ++ fzR id rs b
 | [], b => rfl
 | x :: a, b => by simp only [List.cons_append, fzR, fzR_appA id rs a b]
theorem fzR_keep (id : Nat) (rs : List (List D)) : ∀ {x : List (List AV)}, (∀ (i : Nat) (r : List AV), x[i]? = some r -> fzL id rs r = r) -> fzR id rs x = x
 | [], _ => rfl
 | a :: x, hg => by
  have h1 := hg 0 a rfl;have h2 := fzR_keep id rs (x := x) fun i r hr => hg (i + 1) r (by simpa using hr);simp [fzR, h1, h2]
theorem mixR_step {S : List (List (List D))} {k : Nat} {r : List (List D)} (h : S[k]? = some r) : fzR (1000000 + k) r (mixR S k) = mixR S (k + 1) := by
 have hk : k < S.length := (List.getElem?_eq_some_iff.1 h).1;have h1 : (zak S.length).drop k = (1000000 + k) :: (zak S.length).drop (k + 1) := by
  rw [List.drop_eq_getElem_cons (by rw [zr]; exact hk)]
  congr 1
  have := zhq hk;rw [List.getElem?_eq_getElem (by rw [zr]; exact hk)] at this;exact Option.some.inj this
 have h2 : (S.map List.length).drop k = r.length :: (S.map List.length).drop (k + 1) := by
  rw [List.drop_eq_getElem_cons (by simpa using hk)]
  congr 1
  rw [List.getElem_map];rw [List.getElem?_eq_getElem hk] at h;rw [Option.some.inj h]
 have h3 : S.take (k + 1) = S.take k ++ [r] := by rw [List.take_add_one, h]; rfl
 unfold mixR;rw [h1, h2, h3, fzR_appA, zbx, List.map_append, List.map_cons, List.map_nil];rw [show zdt ((1000000 + k) :: (zak S.length).drop (k + 1)) (r.length :: (S.map List.length).drop (k + 1)) = [AV.hs (1000000 + k) 0 r.length] :: zdt ((zak S.length).drop (k + 1)) ((S.map List.length).drop (k + 1)) from rfl];simp only [fzR];rw [fzR_keep]
 ·simp [fzL, fz, dr]
 ·intro i q hq;obtain ⟨x, l, q1, q2, rfl⟩ := zra hq;rw [List.getElem?_drop] at q1;obtain ⟨_, rfl⟩ := zas q1;simp only [fzL, fz];rw [if_neg (by omega)]

def zuw : List (Nat × AV) -> Bool
 | [] => true
 | (_, .d _) :: r => zuw r
 | (_, .any) :: r => zuw r
 | (_, .nl) :: r => zuw r
 | (_, .hs i _ _) :: r => Nat.blt i 1000000 && zuw r
 | (_, .ptr i _ _) :: r => Nat.blt i 1000000 && zuw r
 | _ :: _ => false
theorem zsz {id : Nat} (hid : 1000000 <= id) (rs : List (List D)) : ∀ {tm : List (Nat × AV)}, zuw tm = true -> fzT id rs tm = tm
 | [], _ => rfl
 | (t, v) :: r, h => by
  cases v <;> simp only [zuw, Bool.and_eq_true] at h <;> try (cases h; done)
  all_goals simp only [fzT, fz]
  case any => rw [zsz hid rs h]
  case nl => rw [zsz hid rs h]
  case d => rw [zsz hid rs h]
  case hs =>
   have h1 : _ < 1000000 := Nat.le_of_ble_eq_true h.1;rw [zsz hid rs h.2, if_neg (by omega)]
  case ptr =>
   have h1 : _ < 1000000 := Nat.le_of_ble_eq_true h.1;rw [zsz hid rs h.2, if_neg (by omega)]

theorem weak_fzdyn {n : Nat} {tm : List (Nat × AV)} {nxt id eo mo : Nat} {e : TypeId} {m : Nat} (hid : id < 1000000) (htm : zuw tm = true) (S : List (List (List D))) :
  zei ⟨n, tm, (id, some ⟨eo, mo, zdt (zak S.length) (S.map List.length)⟩) :: dyn e m 0 S, nxt⟩ ⟨n, tm, [(id, some ⟨eo, mo, dr (S.map fun r => [D.sl r])⟩)], nxt⟩ := by
 have step : ∀ k, k <= S.length -> zei ⟨n, tm, (id, some ⟨eo, mo, mixR S 0⟩) :: dyn e m 0 S, nxt⟩ ⟨n, tm, (id, some ⟨eo, mo, mixR S k⟩) :: dyn e m k (S.drop k), nxt⟩ := by
  intro k;induction k with
  | zero => intro _; exact zei.refl _
  | succ k ih =>
   intro hk;refine zei.trans (ih (by omega)) ?_;have hr : S[k]? = some S[k] := List.getElem?_eq_getElem (by omega);have hdk : S.drop k = S[k] :: S.drop (k + 1) := List.drop_eq_getElem_cons (by omega);rw [hdk];simp only [dyn];refine zei.trans (zqq (1000000 + k) S[k] (o := ⟨e, m, dr S[k]⟩) (by simp only [St.obj, find]; rw [if_neg (by omega)]; simp) (rowsD_dr _)) ?_;refine weak_ext rfl (fun t => ?_) (fun x => ?_) (Nat.le_refl _)
   ·simp only [St.get, St.fz]; rw [zsz (by omega) _ htm]
   ·simp only [St.obj, St.fz, fzH, fzO, find, mixR_step hr, fzH_dyn, zac];by_cases h1 : id = x
    ·subst h1; rw [if_pos rfl, if_neg (by omega), if_pos rfl]
    ·rw [if_neg h1, if_neg h1];by_cases h2 : 1000000 + k = x
     ·subst h2; rw [if_pos rfl, if_neg (by omega)]; rfl
     ·rw [if_neg h2, if_neg h2]
 have h := step S.length (Nat.le_refl _);rw [mixR_zero, mixR_all, List.drop_length] at h;exact h

inductive Tr where
 | leaf
 | stop
 | alt (i : Nat) (t u : Tr)
def Tr.heads : Tr -> List Nat
 | .alt i _ u => i :: u.heads
 | _ => []
section
variable (ty : TypeId -> Option TI) (P : Program) (orc : List (Nat × Res)) (l : List Oper)
end

theorem znl : ∀ {l : List Nat}, l.Nodup -> zdg l = true
 | [], _ => rfl
 | a :: r, h => by
  have h' := List.nodup_cons.1 h;simp only [zdg, Bool.and_eq_true, List.all_eq_true, Bool.not_eq_true'];refine ⟨fun b hb => ?_, znl h'.2⟩;cases hab : Nat.beq a b with
  | false => rfl
  | true => exact absurd (Nat.eq_of_beq_eq_true hab ▸ hb) h'.1
theorem zwn {e : TypeId} {m : Nat} : ∀ (S : List (List (List D))) (k : Nat), (dynP e m k S).map (·.1) = List.range' (1000000 + k) S.length
 | [], k => rfl
 | r :: S, k => by simp [dynP, zwn S (k + 1), List.range'_succ]; omega
section
variable {P : Program} {ty : TypeId -> Option TI} {orc : List (Nat × Res)} {l pre post : List Oper} {o : Oper} {cl : Call} {fo : Operand} {I s1 : St} {f : FuncId} {caps av : List AV} {eo e m : Nat} {S : List (List (List D))} {Q : Exit -> St -> Prop} {g g1 : G} {w w1 : World} {a1 : Act}
end

end Go.Abs

namespace Go.Proofs.YtdddknniooimmaaGreat
open Go.Abs

def spD (L : List (List zf)) : List (List (List D)) := L.map fun l => l.map zf.row
theorem zdf (L : List (List zf)) : (spD L).length = L.length := by simp [spD]
theorem spD_lens (L : List (List zf)) : (spD L).map List.length = L.map List.length := by simp [spD, Function.comp_def]
theorem spD_app (L K : List (List zf)) : spD (L ++ K) = spD L ++ spD K := by simp [spD]
def zly (L : List (List zf)) : List (List AV) := zdt (zak L.length) (L.map List.length)
theorem zfx (L : List (List zf)) : (zly L).length = L.length := by simp [zly, zmn, zr]
theorem outR_nil : zly [] = [] := rfl
theorem outR_eq (L : List (List zf)) : zly L = zdt (zak (spD L).length) ((spD L).map List.length) := by rw [zdf, spD_lens]; rfl
theorem upR_out {σ0 : List (Nat × Option Nat)} (hlow : (σ0.all fun x => Nat.blt x.1 1000000) = true) (L : List (List zf)) : upR (σ0 ++ zkd 0 (zak (spD L).length)) (zly L) = some (zly L) := by
 have := upR_rows (ns := zak L.length) (lens := L.map List.length) hlow (by simp [zr]);rw [List.length_map] at this;rw [zdf];exact this

theorem upR_out1 {σ0 : List (Nat × Option Nat)} (hlow : (σ0.all fun x => Nat.blt x.1 1000000) = true) (L : List (List zf)) (l : List zf) (z : Nat) : upR (σ0 ++ zkd 0 (zak L.length ++ [z])) (zly (L ++ [l])) = some (zly L ++ [[.hs z 0 l.length]]) := by
 have := upR_rows (ns := zak L.length ++ [z]) (lens := (L ++ [l]).map List.length) hlow (by simp [zr]);rw [List.length_map] at this;unfold zly;rw [rowsAt_app (by simp [zr]), this, List.map_append]; rfl



theorem spD_get {X : List (List zf)} {k : Nat} {l : List zf} (h : X[k]? = some l) : (spD X)[k]? = some (l.map zf.row) := by simp [spD, h]
theorem outR_get {X : List (List zf)} {k : Nat} {l : List zf} (h : X[k]? = some l) : (zly X)[k]? = some [.hs (1000000 + k) 0 l.length] := by
 have hk : k < X.length := (List.getElem?_eq_some_iff.1 h).1;exact rowsAt_get (zhq hk) (by simp [h])
theorem weak_fzout {n : Nat} {tm : List (Nat × AV)} {nxt id eo : Nat} {e : TypeId} {m : Nat} (hid : id < 1000000) (htm : zuw tm = true) (X : List (List zf)) :
  zei ⟨n, tm, (id, some ⟨eo, 1, zly X⟩) :: dyn e m 0 (spD X), nxt⟩ ⟨n, tm, [(id, some ⟨eo, 1, dr (X.map fun l => [zaj l])⟩)], nxt⟩ := by
 have h := weak_fzdyn (n := n) (nxt := nxt) (eo := eo) (mo := 1) (e := e) (m := m) hid htm (spD X);rw [<- outR_eq] at h;have e2 : (spD X).map (fun r => [D.sl r]) = X.map fun l => [zaj l] := by simp [spD, Function.comp_def]
 rw [e2] at h;exact h

def zmx (l : List zf) : zcu := l.foldl (fun M c => zcz M c 0) []
theorem zeroL_next {l : List zf} {k : Nat} {c : zf} (h : l[k]? = some c) : zmx (l.take (k + 1)) = zcz (zmx (l.take k)) c 0 := by
 unfold zmx;rw [zat h, List.foldl_append]; rfl
theorem putL_len {M : zcu} {c : zf} {v : Int} : (zcz M c v).length <= M.length + 1 := by
 unfold zcz;split <;> simp
theorem zero_fold : ∀ (l : List zf) (M : zcu), (∀ x, zan M x = none \/ zan M x = some 0) -> (∀ x, (zan (l.foldl (fun M c => zcz M c 0) M) x = some 0 ↔ x ∈ l \/ zan M x = some 0) /\ (zan (l.foldl (fun M c => zcz M c 0) M) x = none \/ zan (l.foldl (fun M c => zcz M c 0) M) x = some 0)) /\ (l.foldl (fun M c => zcz M c 0) M).length <= M.length + l.length
 | [], M, h => ⟨fun x => ⟨by simp, h x⟩, by simp⟩
 | c :: l, M, h => by
  have h1 : ∀ x, zan (zcz M c 0) x = none \/ zan (zcz M c 0) x = some 0 := fun x => by
   rw [zdc];split
   ·exact .inr rfl
   ·exact h x
  obtain ⟨h2, h3⟩ := zero_fold l (zcz M c 0) h1;have h4 := @putL_len M c 0;refine ⟨fun x => ⟨?_, (h2 x).2⟩, by simp only [List.foldl_cons, List.length_cons]; omega⟩;simp only [List.foldl_cons];rw [(h2 x).1, zdc, List.mem_cons];by_cases e : x = c
  ·simp [e]
  ·simp [e]
theorem zero_get (l : List zf) (x : zf) : zan (zmx l) x = if x ∈ l then some 0 else none := by
 obtain ⟨h1, _⟩ := zero_fold l [] (fun x => .inl rfl);obtain ⟨h2, h3⟩ := h1 x;have h2' : zan (zmx l) x = some 0 ↔ x ∈ l := by
  have := h2;simp only [zan, reduceCtorEq, or_false] at this;exact this
 split
 ·rename_i h; exact h2'.2 h
 ·rename_i h;rcases h3 with h3 | h3
  ·exact h3
  ·exact absurd (h2'.1 h3) h
theorem zero_len (l : List zf) : (zmx l).length <= l.length := by
 have := (zero_fold l [] (fun x => .inl rfl)).2;simp only [List.length_nil, Nat.zero_add] at this;exact this

def zrm (l : List zf) (adj : zf -> zf -> Bool) (k : Nat) (M : zcu) : Prop := ∀ x, zan M x = if x ∈ l then some ((zqn l adj (hdS l adj k) x : Nat) : Int) else none
section
variable {l : List zf} {adj : zf -> zf -> Bool} {k : Nat} {c : zf} {M : zcu}
theorem labs_zero (l : List zf) (adj : zf -> zf -> Bool) : zrm l adj 0 (zmx l) := fun x => by
 rw [zero_get];split
 ·have : zqn l adj (hdS l adj 0) x = 0 := labN_zero.2 (by simp [hdS]);rw [this]; rfl
 ·rfl
theorem labs_old (hsym : ∀ x y, adj x y = true -> adj y x = true) (hM : zrm l adj k M) (hk : l[k]? = some c) {i : Nat} (hl : zqn l adj (hdS l adj k) c = i + 1) :
  zrm l adj (k + 1) M /\ ∃ g, (zez l adj k)[i]? = some g /\ zez l adj (k + 1) = (zez l adj k).set i (g ++ [c]) := by
 obtain ⟨h, h1, h2⟩ := (zim (fun i j a b x => zvw hsym)).1 hl;obtain ⟨e1, e2, e3⟩ := grpTo_old hsym hk h1 h2;refine ⟨fun x => by rw [e1]; exact hM x, _, e3, e2⟩
theorem labs_new {t : Bool} {moves : List zf} (hadj : ∀ b x, b ≠ x -> (adj b x = true ↔ ∃ d ∈ moves, zhf b d = x)) (hsym : ∀ x y, adj x y = true -> adj y x = true) (hM : zrm l adj k M) (hk : l[k]? = some c) (hl : zqn l adj (hdS l adj k) c = 0) :
  zrm l adj (k + 1) (zlc M c (((zez l adj k).length + 1 : Nat) : Int) moves) /\ zez l adj (k + 1) = zez l adj k ++ [[c]] /\ zqn l adj (hdS l adj (k + 1)) c = (zez l adj k).length + 1 := by
 have hno := labN_zero.1 hl;obtain ⟨e1, e2⟩ := grpTo_new hsym hk hno;have hcl := List.mem_of_getElem? hk;have hlen : (zez l adj k).length = (hdS l adj k).length := grpTo_len k;have hone := fun (k : Nat) (i j : Nat) (a b x : zf) => zvw (l := l) (adj := adj) hsym (k := k) (i := i) (j := j) (a := a) (b := b) (x := x);have hle : ∀ x, zqn l adj (hdS l adj k) x <= (hdS l adj k).length := fun x => by
  cases hq : zqn l adj (hdS l adj k) x with
  | zero => omega
  | succ i =>
   obtain ⟨h, h1, _⟩ := (zim (hone k)).1 hq;have := (List.getElem?_eq_some_iff.1 h1).1;omega
 have hnew : ∀ x, zbi l adj c x -> zqn l adj (hdS l adj (k + 1)) x = (hdS l adj k).length + 1 := fun x hx => by
  rw [zim (hone (k + 1)), e1];exact ⟨c, by simp, hx⟩
 have hold : ∀ x, ¬ zbi l adj c x -> zqn l adj (hdS l adj (k + 1)) x = zqn l adj (hdS l adj k) x := fun x hx => by
  cases hq : zqn l adj (hdS l adj k) x with
  | zero =>
   rw [labN_zero] at hq ⊢;intro h hh;rw [e1] at hh;rcases List.mem_append.1 hh with hh | hh
   ·exact hq h hh
   ·simp at hh; rw [hh]; exact hx
  | succ i =>
   rw [zim (hone k)] at hq;rw [zim (hone (k + 1))];obtain ⟨h, h1, h2⟩ := hq;refine ⟨h, ?_, h2⟩;rw [e1, List.getElem?_append_left (List.getElem?_eq_some_iff.1 h1).1];exact h1
 have hsp := fun x => spread_get (l := l) (adj := adj) (moves := moves) (M0 := M) (first := c) (lab := (((zez l adj k).length + 1 : Nat) : Int)) (by omega) (fun x => by
   rw [hM x];split
   ·rename_i h; simp [h]
   ·rename_i h; simp [h]) hadj hsym (fun x => by
   rw [hM x];split
   ·intro e;have := hle x;have := Option.some.inj e;omega
   ·simp) (by rw [hM c, if_pos hcl, hl]; rfl) (fun x y v hx hv hy ha => by
   rw [hM x] at hx;split at hx
   ·rename_i hxl;have hx := Option.some.inj hx;rw [hM y, if_pos hy]
    congr 1
    cases hq : zqn l adj (hdS l adj k) x with
    | zero => rw [hq] at hx; exact absurd hx.symm hv
    | succ i =>
     have hq2 := hq;rw [zim (hone k)] at hq;obtain ⟨h, h1, h2⟩ := hq;have : zqn l adj (hdS l adj k) y = i + 1 := (zim (hone k)).2 ⟨h, h1, .step h2 hy ha⟩;rw [this, <- hx, hq2]
   ·cases hx) x
 refine ⟨fun x => ?_, e2, by rw [hlen]; exact hnew c (.refl hcl)⟩;by_cases hx : zbi l adj c x
 ·rw [(hsp x).1 hx, if_pos hx.right, hnew x hx, hlen]
 ·rw [(hsp x).2 hx, hM x, hold x hx]
end
theorem spread_len {M : zcu} {c : zf} {lab : Int} (hl : lab ≠ 0) (h : zan M c = some 0) (moves : List zf) : (zlc M c lab moves).length = M.length := by
 have step : ∀ (m : List zf) (c : zf) (s : zcu × List zf), (m.foldl (zcd lab c) s).1.length = s.1.length := by
  intro m;induction m with
  | nil => intro c s; rfl
  | cons d m ih =>
   intro c s;rw [List.foldl_cons, ih];unfold zcd;split
   ·rename_i hz; exact put_len hz
   ·rfl
 have key : ∀ (n : Nat) (s : zcu × List zf), zct s <= n -> (zld lab moves s).length = s.1.length := by
  intro n;induction n with
  | zero =>
   rintro ⟨M, q⟩ hn;have hq : q = [] := by
    simp only [zct] at hn;exact List.eq_nil_of_length_eq_zero (by omega)
   subst hq;rw [zkw]
  | succ n ih =>
   rintro ⟨M, q⟩ hn;cases q with
   | nil => rw [zkw]
   | cons c q =>
    rw [zor hl];have h2 : zct (zmb lab moves c (M, q)) <= zct (M, q) := zid hl c moves (M, q);have h3 : zct (M, c :: q) = zct (M, q) + 1 := by simp only [zct, List.length_cons]; omega
    rw [ih _ (by omega)];exact step moves c (M, q)
 have := key _ (zcz M c lab, [c]) (Nat.le_refl _);rw [show zld lab moves (zcz M c lab, [c]) = zlc M c lab moves from rfl] at this;rw [this];exact put_len h

theorem rowsAt_set {ids lens : List Nat} (h : ids.length = lens.length) (i z l : Nat) : zdt (ids.set i z) (lens.set i l) = (zdt ids lens).set i [.hs z 0 l] := by
 refine List.ext_getElem? fun j => ?_;simp only [zdt, List.getElem?_zipWith, List.getElem?_set, List.length_zipWith];by_cases e : i = j
 ·subst e;by_cases hi : i < ids.length
  ·rw [if_pos rfl, if_pos hi, if_pos rfl, if_pos (by omega), if_pos rfl, if_pos (by omega)]
  ·rw [if_pos rfl, if_neg hi, if_pos rfl, if_neg (by omega), if_pos rfl, if_neg (by omega)]
 ·simp [e]
theorem upR_outS {σ0 : List (Nat × Option Nat)} (hlow : (σ0.all fun x => Nat.blt x.1 1000000) = true) (L : List (List zf)) (i z : Nat) (g : List zf) : upR (σ0 ++ zkd 0 ((zak L.length).set i z)) (zly (L.set i g)) = some ((zly L).set i [.hs z 0 g.length]) := by
 have := upR_rows (ns := (zak L.length).set i z) (lens := (L.set i g).map List.length) hlow (by simp [zr]);rw [List.length_map, List.length_set] at this;unfold zly;rw [List.length_set, this, List.map_set, rowsAt_set (by simp [zr])]
theorem idsN_set_nodup {n i z : Nat} (hz : z < 1000000 \/ 1000000 + n <= z) : ((zak n).set i z).Nodup := by
 rw [List.Nodup, List.pairwise_iff_getElem];intro a b ha hb hab;simp only [List.length_set, zr] at ha hb;have g : ∀ k (hk : k < n), (zak n)[k]'(by rw [zr]; exact hk) = 1000000 + k := fun k hk => by
  have := zhq hk;rw [List.getElem?_eq_getElem (by rw [zr]; exact hk)] at this;exact Option.some.inj this
 rw [List.getElem_set, List.getElem_set, g a ha, g b hb];split <;> split <;> omega
theorem spD_setL (L : List (List zf)) (i : Nat) (g : List zf) : spD (L.set i g) = (spD L).set i (g.map zf.row) := by simp [spD, List.map_set]

theorem hdS_step {l : List zf} {adj : zf -> zf -> Bool} (k : Nat) : (hdS l adj k).length <= (hdS l adj (k + 1)).length := by
 cases hk : l[k]? with
 | none =>
  have e : hdS l adj (k + 1) = hdS l adj k := by simp only [hdS, hk]
  rw [e]; omega
 | some c =>
  rcases zgp (adj := adj) hk with ⟨_, e⟩ | ⟨q, e⟩
  ·rw [e]; omega
  ·rw [e]; simp
theorem hdS_mono {l : List zf} {adj : zf -> zf -> Bool} (k : Nat) : ∀ n, (hdS l adj k).length <= (hdS l adj (k + n)).length
 | 0 => Nat.le_refl _
 | n + 1 => Nat.le_trans (hdS_mono k n) (hdS_step (k + n))
set_option maxHeartbeats 32000000 in
theorem split_ok21 (l : List zf) (t : Bool) (moves : List zf) (hl : l.length <= 100000000) (hgr : (zeb l (zao t)).length <= 900000) (hs : ∀ c ∈ l, smC c) (hml : moves.length <= 100) (hmv : ∀ d ∈ moves, -1 <= d.x /\ d.x <= 1 /\ -1 <= d.y /\ d.y <= 1) (hadj : ∀ b x, b ≠ x -> (zao t b x = true ↔ ∃ d ∈ moves, zhf b d = x)) :
  PC Tryz.prog 49 [zaj l, zaj moves] (.p (encGs (zeb l (zao t)))) := by
 have hsym : ∀ x y, zao t x y = true -> zao t y x = true := fun x y => adjR_symm;have hzn := fun k c (h : l[k]? = some c) => zeroL_next h;have hzl := fun k => zero_len (l.take k);have hzall : zmx (l.take l.length) = zmx l := by rw [List.take_length]
 have hlab0 := labs_zero l (zao t);have hzl0 := zero_len l;have hput := fun c v M => putR_lm c v M;have hlook := fun c M => look_lm1 c M;have hold := fun k c M (hM : zrm l (zao t) k M) (hk : l[k]? = some c) i => labs_old hsym hM hk (i := i);have hnew := fun k c M (hM : zrm l (zao t) k M) (hk : l[k]? = some c) => labs_new (t := t) (moves := moves) hadj hsym hM hk;have hGl : ∀ k, k <= l.length -> (zez l (zao t) k).length <= 900000 := fun k hk => by
  rw [grpTo_len];have h1 := hdS_mono (l := l) (adj := zao t) k (l.length - k);rw [show k + (l.length - k) = l.length by omega] at h1;have h2 : (zeb l (zao t)).length = (hdS l (zao t) l.length).length := by simp [zeb]
  omega
 have hgl : ∀ (k i : Nat) (g : List zf), (zez l (zao t) k)[i]? = some g -> g.length <= l.length := fun k i g h => by
  simp only [zez, List.getElem?_map, Option.map_eq_some_iff] at h;obtain ⟨a, _, rfl⟩ := h;have h1 : (cls l (zao t) a (l.take k)).length <= (l.take k).length := List.length_filter_le _ _;rw [List.length_take] at h1;omega
 have hres : zez l (zao t) l.length = zeb l (zao t) := grpTo_all;rw [<- hres];clear hres;refine pw cx Tryz.func49 Tryz.ntmps49 ?_;refine rg cx ?_;refine rx cx [] (fun K hK => by simp [push_cast, lm_nil]; (repeat refine ob ?_); exact hK) ?_;refine rg cx ?_;have hz0 : zmx [] = [] := rfl;refine zu (β := Nat) (fun k => ⟨57, [(0, .d (zaj l)), (1, .d (zaj moves)), (5, .hm 0), (13, .d (zaj l)), (14, .d (.int .i64 l.length)), (15, .d (.int .i64 k))], [(0, some ⟨151, mapM, dr (zfz (zmx (l.take k)))⟩)], 1⟩) (fun k => k <= l.length) (fun k => l.length - k) 0 ?_ (Nat.zero_le _) ?_
 ·refine wq [(0, some 1)] (by simp [upT, upH, upR, upL, up, push_cast, lm_nil, hz0])
 ·rintro k hk;refine Nav.imp ?_;refine rg cx ?_;refine awp_cd (decide ((k : Int) < l.length)) (fun hb => ?_) fun hb => ?_
  ·have hlt : k < l.length := by simpa using hb
   obtain ⟨c, hc⟩ := zap hlt;have e0 := wI ((k : Int) + 1);have hp := hput c 0 (zmx (l.take k));rw [<- hzn k c hc] at hp;refine rx cx [] (fun K hK => by simp [push_cast, hc, zf.row]; (repeat refine ob ?_); exact hK) ?_;refine rx cx [] (fun K hK => by simp [push_cast, hp, zf.row]; (repeat refine ob ?_); exact hK) ?_;refine rx cx [] (fun K hK => by simp [push_cast, e0]; (repeat refine ob ?_); exact hK) ?_;refine ⟨k + 1, hlt, by omega, ?_⟩;refine wk [(0, some 0)]
  ·have hke : k = l.length := by simp at hb; omega
   subst hke;rw [hzall];refine rg cx ?_;refine rg cx ?_;refine zu (β := Nat × zcu × List (List zf)) (fun s => ⟨57, [(0, .d (zaj l)), (1, .d (zaj moves)), (5, .hm 1), (8, .hs 0 0 s.2.2.length), (22, .d (zaj l)), (23, .d (.int .i64 l.length)), (24, .d (.int .i64 s.1))], [(0, some ⟨75, 1, zly s.2.2⟩), (1, some ⟨151, mapM, dr (zfz s.2.1)⟩)] ++ dyn 67 2 0 (spD s.2.2), 1000000000000⟩) (fun s => s.1 <= l.length /\ zrm l (zao t) s.1 s.2.1 /\ s.2.1.length <= l.length /\ s.2.2 = zez l (zao t) s.1) (fun s => l.length - s.1) (0, zmx l, []) ?_ ⟨Nat.zero_le _, hlab0, hzl0, rfl⟩ ?_
   ·have hl0 : (spD []).length <= 1000000 := by simp [spD]
    refine zqr [(0, none), (1, some 0)] (zak (spD []).length) _ (spD []) rfl rfl ?_ (zr _) rfl (by simp [upT, up, upL, upH, upR, zg, zq, zw, zcv, List.cons_append, List.nil_append, push_cast, outR_nil]) (by simp [upT, up, upL, upH, upR, zg, zq, zw, zcv, List.cons_append, List.nil_append, push_cast, outR_nil]) (by simp [upT, up, upL, upH, upR, zg, zq, zw, zcv, List.cons_append, List.nil_append, push_cast]) (by simp [zq]) (zaw _) (fun x hx => by have h1 := zbb.1 hx; simp [zq]; omega) (fun j r_ x hr_ hx => by
     obtain ⟨hj, rfl⟩ := zas hx;have hjN : ∀ m, (m < 1000000 \/ 1000000000 < m) -> (m = 1000000 + j) = False := fun m hm => by simp; omega
     first | (simp [spD] at hr_; done) | simp [push_cast, zau, hr_, hjN, outR_nil])
    omega
   ·rintro ⟨k, M, G⟩ ⟨hk, hM, hMl, hG⟩;simp only at hk hM hMl hG;have hGk := hGl k hk;rw [<- hG] at hGk;have hGs : (spD G).length <= 1000000 := by rw [zdf]; omega
    refine Nav.imp ?_;refine rg cx ?_;refine awp_cd (decide ((k : Int) < l.length)) (fun hb => ?_) fun hb => ?_
    ·have hlt : k < l.length := by simpa using hb
     obtain ⟨c, hc⟩ := zap hlt;have e0 := wI ((k : Int) + 1);have hcl := List.mem_of_getElem? hc;have hMc := hM c;rw [if_pos hcl] at hMc;have lk := hlook c M;rw [hMc] at lk;simp only [Option.getD_some] at lk;have ho := hold k c M hM hc;have hn := hnew k c M hM hc;rw [<- hG] at ho hn;have hGi := fun i g (h : G[i]? = some g) => hgl k i g (hG ▸ h);refine rx cx [] (fun K hK => by simp [push_cast, hc, zf.row]; (repeat refine ob ?_); exact hK) ?_;generalize zqn l (zao t) (hdS l (zao t) k) c = n at *;refine rx cx [(2, .p (.int .i64 n))] (fun K hK => by simp [push_cast, lk, zf.row]; (repeat refine ob ?_); exact hK) ?_;cases n with
     | succ i =>
      obtain ⟨hM1, g, hgi, hg1⟩ := ho i rfl;have hgl1 := hGi i g hgi;have hiG : i < G.length := (List.getElem?_eq_some_iff.1 hgi).1;have e1 := wI ((i : Int));have hi1 : ¬ ((i : Int) + 1 = 0) := by omega
      refine awp_cn false (by simp [push_cast, hi1]) (fun hb => ?_) fun hb => ?_
      ·simp at hb
      ·refine rx cx [(2, .p (.int .i64 ((i + 1 : Nat) : Int)))] (fun K hK => by simp [push_cast, lk, e1, zf.row]; (repeat refine ob ?_); exact hK) ?_;have hrow := outR_get hgi;have hSg := spD_get hgi;have hkN : ∀ m, (m < 1000000 \/ 1000000000 < m) -> (m = 1000000 + i) = False := fun m hm => by simp; omega
       have hg16 : (g.length + 1) * 16 <= 140737488355328 := by omega
       have hrl : i < (zly G).length := by rw [zfx]; exact hiG
       have htg : List.take g.length (g.map zf.row) = g.map zf.row := List.take_of_length_le (by simp);have hkM : ∀ m, (m < 1000000 \/ 1000000000 < m) -> (1000000 + i = m) = False := fun m hm => by simp; omega
       refine zj cx mixed [] fun K hK => ?_;simp [push_cast, hrow, hSg, hkN, zau, hg16, htg, zf.row]
       repeat refine ob ?_
       have z1 : ∀ m, (m < 2000000 \/ 2000000002 < m) -> (2 * (1000000 + i) = m) = False := fun m hm => by simp; omega
       have z2 : ∀ m, (m < 2000000 \/ 2000000002 < m) -> (m = 2 * (1000000 + i)) = False := fun m hm => by simp; omega
       have z3 : ∀ m, (m < 2000000 \/ 2000000002 < m) -> (2 * (1000000 + i) + 1 = m) = False := fun m hm => by simp; omega
       have z4 : ∀ m, (m < 2000000 \/ 2000000002 < m) -> (m = 2 * (1000000 + i) + 1) = False := fun m hm => by simp; omega
       refine hK _ _ (by simp [cfOf, confs, zlr, z1, z2, z3, z4]; kernel_rfl) ?_; clear hK K;refine Nav.imp ?_;refine rx cx [] (fun K hK => by simp [push_cast, e0]; (repeat refine ob ?_); exact hK) ?_;refine ⟨(k + 1, M, G.set i (g ++ [c])), ⟨hlt, hM1, hMl, hg1.symm⟩, by simp only; omega, ?_⟩;have hup := upR_outS (σ0 := [(0, some 0), (1, some 1)]) rfl G i 1000000000022 (g ++ [c]);simp only [List.cons_append, List.nil_append, List.length_append, List.length_cons, List.length_nil, Nat.zero_add] at hup;refine zqr [(0, some 0), (1, some 1)] ((zak G.length).set i 1000000000022) _ (spD (G.set i (g ++ [c]))) rfl rfl (by rw [zdf, List.length_set]; omega) (by simp [zdf, zr]) rfl (by simp [upT, up, upL, upH, upR, zg, zq, zw, zcv, List.cons_append, List.nil_append, hkM, hkN, push_cast]) (by simp [upT, up, upL, upH, upR, zg, zq, zw, zcv, List.cons_append, List.nil_append, push_cast, zf.row, hup, hkM, hkN]) (by simp [zg, push_cast]) (by simp [zq]) (idsN_set_nodup (by omega)) (fun x hx => by
        rcases List.mem_or_eq_of_mem_set hx with hx | hx
        ·have := zbb.1 hx; simp [zq]; omega
        ·subst hx; simp [zq]) (fun j r_ x hr_ hx => ?_)
       rw [spD_setL, List.getElem?_set, zdf, if_pos hiG] at hr_;rw [List.getElem?_set, zr, if_pos hiG] at hx;by_cases hij : i = j
       ·subst hij;rw [if_pos rfl] at hr_ hx;cases hr_;cases hx;simp [push_cast, hkM, hkN]
       ·rw [if_neg hij] at hr_ hx;obtain ⟨hj, rfl⟩ := zas hx;have hjN : ∀ m, (m < 1000000 \/ 1000000000 < m) -> (m = 1000000 + j) = False := fun m hm => by simp; omega
        simp [push_cast, zau, hr_, hjN, hkM, hkN, hij]
     | zero =>
      obtain ⟨hM1, hg1, hn1⟩ := hn rfl;have c1 := spread_px M c ((G.length + 1 : Nat) : Int) moves (by omega) hml hmv (fun x v hx => by
       rw [hM x] at hx;split at hx
       ·rename_i h; exact hs x h
       ·cases hx) (by omega) (by rw [hMc]; rfl)
      have hWl := spread_len (M := M) (c := c) (lab := ((G.length + 1 : Nat) : Int)) (by omega) (by rw [hMc]; rfl) moves;have hWc := hM1 c;rw [if_pos hcl, hn1] at hWc;have lk2 := hlook c (zlc M c ((G.length + 1 : Nat) : Int) moves);rw [hWc] at lk2;simp only [Option.getD_some] at lk2;generalize zlc M c ((G.length + 1 : Nat) : Int) moves = W at *;have hG24 : (G.length + 1) * 24 <= 140737488355328 := by omega
      have hto : List.take G.length (zly G) = zly G := List.take_of_length_le (by rw [zfx]; omega);refine awp_cd true (fun hb => ?_) fun hb => ?_
      ·refine rx cx [] (fun K hK => by simp [push_cast, hG24, hto, zfx]; (repeat refine ob ?_); exact hK) ?_;refine rx cx [(5, .x ⟨[(0, 1)], [.hm 0, .d (.agg c.row), .d (.int .i64 ((G.length + 1 : Nat) : Int)), .d (zaj moves)], [(0, ⟨151, mapM, dr (zfz M)⟩)], [(0, 0)], none, [(0, ⟨151, mapM, dr (zfz W)⟩)], .tup []⟩)] (fun K hK => by simp [push_cast, c1, zf.row]; (repeat refine ob ?_); exact hK) ?_;have e5 := wI ((G.length : Int));have hrn : (zly G ++ [[AV.nl]])[G.length]? = some [.nl] := by
        rw [List.getElem?_append_right (by rw [zfx]; omega), zfx]; simp
       have hrs : ∀ v, (zly G ++ [[AV.nl]]).set G.length v = zly G ++ [v] := fun v => by
        rw [List.set_append_right _ _ (by rw [zfx]; omega), zfx]; simp
       refine rx cx [(2, .p (.int .i64 ((G.length + 1 : Nat) : Int)))] (fun K hK => by simp [push_cast, lk2, e5, zf.row]; (repeat refine ob ?_); exact hK) ?_;refine rd cx mixed [] (fun K hK => by simp [push_cast, hrn, hrs, zf.row]; (repeat refine ob ?_); exact hK) ?_;refine rx cx [] (fun K hK => by simp [push_cast, e0]; (repeat refine ob ?_); exact hK) ?_;refine ⟨(k + 1, W, G ++ [[c]]), ⟨hlt, hM1, by simp only; omega, hg1.symm⟩, by simp only; omega, ?_⟩;have hup := upR_out1 (σ0 := [(0, some 1000000000011), (1, some 1)]) rfl G [c] 1000000000032;simp only [List.cons_append, List.nil_append, List.length_cons, List.length_nil, Nat.zero_add] at hup;refine zqr [(0, some 1000000000011), (1, some 1)] (zak G.length ++ [1000000000032]) _ (spD (G ++ [[c]])) rfl rfl (by rw [zdf]; simp; omega) (by simp [zdf, zr]) rfl (by simp [upT, up, upL, upH, upR, zg, zq, zw, zcv, List.cons_append, List.nil_append, push_cast]) (by simp [upT, up, upL, upH, upR, zg, zq, zw, zcv, List.cons_append, List.nil_append, push_cast, zf.row, hup]) (by simp [zg, push_cast]) (by simp [zq]) (List.nodup_append.2 ⟨zaw _, by simp, fun a ha c hc => by have := zbb.1 ha; simp at hc; omega⟩) (fun x hx => by
        rcases List.mem_append.1 hx with hx | hx
        ·have := zbb.1 hx; simp [zq]; omega
        ·simp at hx; subst hx; simp [zq]) (fun j r_ x hr_ hx => ?_)
       have hjb : j < (spD (G ++ [[c]])).length := (List.getElem?_eq_some_iff.1 hr_).1;rw [zdf, List.length_append] at hjb;simp only [List.length_cons, List.length_nil] at hjb;rw [spD_app] at hr_;by_cases hjY : j < G.length
       ·rw [List.getElem?_append_left (by rw [zdf]; exact hjY)] at hr_;rw [List.getElem?_append_left (by rw [zr]; exact hjY), zhq hjY] at hx;cases hx;have hjN : ∀ m, (m < 1000000 \/ 1000000000 < m) -> (m = 1000000 + j) = False := fun m hm => by simp; omega
        simp [push_cast, zau, hr_, hjN]
       ·have hje2 : j = G.length := by omega
        subst hje2;rw [List.getElem?_append_right (by rw [zdf]; omega)] at hr_;rw [List.getElem?_append_right (by rw [zr]; omega)] at hx;simp [zdf, zr, spD] at hr_ hx;subst hr_ hx;simp [push_cast]
      ·simp at hb
    ·have hke : k = l.length := by simp at hb; omega
     subst hke;rw [<- hG];refine zbf (s' := ⟨57, [(8, .hs 0 0 G.length)], [(0, some ⟨75, 1, zly G⟩)] ++ dyn 67 2 0 (spD G), 1000000000000⟩) ?_ ?_
     ·have hup := upR_out (σ0 := [(0, some 0)]) rfl G;simp only [List.cons_append, List.nil_append] at hup;refine zqr [(0, some 0)] (zak (spD G).length) _ (spD G) rfl rfl ?_ (zr _) rfl (by simp [upT, up, upL, upH, upR, zg, zq, zw, zcv, List.cons_append, List.nil_append, push_cast, hup]) (by simp [upT, up, upL, upH, upR, zg, zq, zw, zcv, List.cons_append, List.nil_append, push_cast, hup]) (by simp [upT, up, upL, upH, upR, zg, zq, zw, zcv, List.cons_append, List.nil_append, push_cast]) (by simp [zq]) (zaw _) (fun x hx => by have h1 := zbb.1 hx; simp [zq]; omega) (fun j r_ x hr_ hx => by
       obtain ⟨hj, rfl⟩ := zas hx;have hjN : ∀ m, (m < 1000000 \/ 1000000000 < m) -> (m = 1000000 + j) = False := fun m hm => by simp; omega
       first | (simp [spD] at hr_; done) | simp [push_cast, zau, hr_, hjN, hup])
      omega
     ·refine zbf (weak_fzout (by decide) rfl G) ?_;have ht : List.take G.length (G.map gRow) = G.map gRow := List.take_of_length_le (by simp);refine rg cx ?_;simp [push_cast, ht]
end Go.Proofs.YtdddknniooimmaaGreat

namespace Go.Proofs.YtdddknniooimmaaGreat
open Go.Abs

def zms (l : List Run) : Nat := (l.flatMap (zco 0)).length
theorem lenN_take {l : List Run} {k : Nat} {r : Run} (h : l[k]? = some r) : zms (l.take (k + 1)) = zms (l.take k) + (r.b - r.a).toNat := by
 unfold zms;rw [zhi _ h, List.length_append, zgd]
theorem zvh (w : Row) : (zcg w).length = zms w.runs := by
 unfold zcg zms;rw [List.length_flatMap, List.length_flatMap];simp only [zgd]
theorem zpg {l : List Run} (h : zal l = true) : ∀ k, k <= l.length -> zms (l.take k) <= k * 2097152
 | 0, _ => by simp [zms]
 | k + 1, hk => by
  obtain ⟨r, hr⟩ := zap (show k < l.length by omega);have h1 := zpg h k (by omega);have h2 := zln (zem h hr).2;rw [lenN_take hr, Nat.succ_mul];omega

theorem length_ok (l : List Run) (hl : l.length <= 1000000) (hv : zal l = true) : PC Tryz.prog 55 [zm l] (.p (.int .i64 (zms l))) := by
 have c1 := zne l hl;rw [hv] at c1;refine pw cx Tryz.func55 Tryz.ntmps55 ?_;refine rg cx ?_;refine rx cx [(1, .p (.bool true))] (fun K hK => by simp [push_cast, c1]; (repeat refine ob ?_); exact hK) ?_;refine awp_cd false (fun hb => ?_) fun hb => ?_
 ·simp at hb
 ·refine rg cx ?_;refine rg cx ?_;refine zu (β := Nat × Nat) (fun b => ⟨24, [(3, .d (.int .i64 b.2)), (9, .d (zm l)), (10, .d (.int .i64 l.length)), (11, .d (.int .i64 b.1))], [], 0⟩) (fun b => b.1 <= l.length /\ b.2 = zms (l.take b.1)) (fun b => l.length - b.1) (0, 0) ?_ ⟨Nat.zero_le _, by simp [zms]⟩ ?_
  ·refine wk []
  ·rintro ⟨k, n0⟩ ⟨hk, hn⟩;simp only at hk hn;refine Nav.imp ?_;refine rg cx ?_;refine awp_cd (decide ((k : Int) < l.length)) (fun hb => ?_) fun hb => ?_
   ·have hlt : k < l.length := by simpa using hb
    obtain ⟨r, hr⟩ := zap hlt;have hs := lenN_take hr;have hbd := zpg hv k (by omega);rw [<- hn] at hs hbd;have hrf := zem hv hr;have hf := zln hrf.2;obtain ⟨ra, rb⟩ := r;simp only at hs hrf hf;have e0 := wI ((k : Int) + 1);have e1 := wI (rb - ra);have e2 := wI ((n0 : Int) + (rb - ra));have e3 : (n0 : Int) + (rb - ra) = (zms (l.take (k + 1)) : Nat) := by rw [hs]; omega
    rw [e3] at e2;generalize hn1 : zms (l.take (k + 1)) = n1 at *;refine rx cx [] (fun K hK => by simp [push_cast, hr, Run.row]; (repeat refine ob ?_); exact hK) ?_;refine rx cx [] (fun K hK => by simp [push_cast, e1, e2, e3, Run.row]; (repeat refine ob ?_); exact hK) ?_;refine rx cx [] (fun K hK => by simp [push_cast, e0]; (repeat refine ob ?_); exact hK) ?_;refine ⟨(k + 1, n1), ⟨hlt, hn1.symm⟩, by simp only; omega, ?_⟩;refine wk []
   ·have hge : k = l.length := by simp at hb; omega
    subst hge;rw [List.take_length] at hn;subst hn;refine rg cx ?_;simp [push_cast]

def zke (R : List Row) : Nat := if zo R then (zl R).length else 0
theorem rows_bound {R : List Row} (h : zo R = true) (hR : zbw R) : ∀ i, i <= R.length -> (zfu R i).length <= i * 2097152000000
 | 0, _ => by simp [zfu]
 | i + 1, hi => by
  obtain ⟨w, hw⟩ := zap (show i < R.length by omega);have h1 := rows_bound h hR i (by omega);have h2 := zpg (zfc (zdv h hw).2) w.runs.length (Nat.le_refl _);have h3 := hR.2 w (List.mem_of_getElem? hw);rw [zqz hw, List.length_append, zvh, Nat.succ_mul];rw [List.take_length] at h2;have := Nat.mul_le_mul_right 2097152 h3;omega
theorem rows_big {R : List Row} (h : zo R = true) (hR : zbw R) {i : Nat} (hi : i <= R.length) : (zfu R i).length <= 2097152000000000000 := by
 have h1 := rows_bound h hR i hi;have h2 := hR.1;have := Nat.mul_le_mul_right 2097152000000 (show i <= 1000000 by omega);omega

theorem rcount_big (R : List Row) (hR0 : zqd R) (hR1 : zo R = true -> zbw R) : PC Tryz.prog 16 [.agg (zp R)] (.p (.int .i64 (zke R))) := by
 have c1 := zib R hR0;have hC : zke R = if zo R then (zl R).length else 0 := rfl
 generalize hv : zo R = v at *;refine pw cx Tryz.func16 Tryz.ntmps16 ?_;refine rg cx ?_;refine rg cx ?_;refine rx cx [(1, .p (.bool v))] (fun K hK => by simp [push_cast, c1]; (repeat refine ob ?_); exact hK) ?_;refine awp_cd (!v) (fun hb => ?_) fun hb => ?_
 ·simp at hb;rw [hC, hb];refine rg cx ?_;simp [push_cast]
 ·simp at hb;rw [hb] at hv hC;rw [hC, if_pos rfl];clear hC;have hR := hR1 hb;have hl := hR.1;refine rg cx ?_;refine zu (β := Nat × Nat) (fun b => ⟨52, [(1, .ptr 0 0 0), (3, .d (.int .i64 b.2)), (4, .d (.int .i64 b.1))], [(0, some ⟨24, 1, [(zp R).map .d]⟩)], 1⟩) (fun b => b.1 <= R.length /\ b.2 = (zfu R b.1).length) (fun b => R.length - b.1) (0, 0) ?_ ⟨Nat.zero_le _, by simp [zfu]⟩ ?_
  ·refine wk [(0, some 0)]
  ·rintro ⟨k, n0⟩ ⟨hk, hn⟩;simp only at hk hn;refine Nav.imp ?_;refine rg cx ?_;refine awp_cd (decide ((k : Int) < R.length)) (fun hb => ?_) fun hb => ?_
   ·have hlt : k < R.length := by simpa using hb
    obtain ⟨w, hw⟩ := zap hlt;have hs : (zfu R (k + 1)).length = n0 + zms w.runs := by rw [zqz hw, List.length_append, zvh, hn]
    have hbd := rows_big hv hR (i := k + 1) hlt;have hwl := hR.2 w (List.mem_of_getElem? hw);have hfi := (zdv hv hw).2;have e0 := wI ((k : Int) + 1);refine rg cx ?_;refine zu (β := Nat × Nat) (fun b => ⟨52, [(1, .ptr 0 0 0), (3, .d (.int .i64 b.2)), (4, .d (.int .i64 k)), (5, .d (.int .i64 b.1))], [(0, some ⟨24, 1, [(zp R).map .d]⟩)], 1⟩) (fun b => b.1 <= w.runs.length /\ b.2 = n0 + zms (w.runs.take b.1)) (fun b => w.runs.length - b.1) (0, n0) ?_ ⟨Nat.zero_le _, by simp [zms]⟩ ?_
    ·refine wk [(0, some 0)]
    ·rintro ⟨j, n1⟩ ⟨hj, hn1⟩;simp only at hj hn1;refine Nav.imp ?_;refine rx cx [] (fun K hK => by simp [push_cast, hw, Row.row]; (repeat refine ob ?_); exact hK) ?_;refine awp_cd (decide ((j : Int) < w.runs.length)) (fun hb => ?_) fun hb => ?_
     ·have hjl : j < w.runs.length := by simpa using hb
      obtain ⟨r, hr⟩ := zap hjl;have hs2 := lenN_take hr;have hbj := zpg (zfc hfi) j (by omega);have hbig := rows_big hv hR hk;have hrf := ziy hfi hr;obtain ⟨ra, rb⟩ := r;simp only at hs2 hrf;have e1 := wI ((j : Int) + 1);have e4 := wI (rb - ra);have e2 := wI ((n1 : Int) + (rb - ra));have e3 : (n1 : Int) + (rb - ra) = ((n0 + zms (w.runs.take (j + 1)) : Nat) : Int) := by rw [hs2]; omega
      generalize hn2 : n0 + zms (w.runs.take (j + 1)) = n2 at *;rw [e3] at e2;refine rd cx mixed [] (fun K hK => by simp [push_cast, hw, hr, e4, e2, e3, Row.row, Run.row]; (repeat refine ob ?_); exact hK) ?_;refine rx cx [] (fun K hK => by simp [push_cast, e1]; (repeat refine ob ?_); exact hK) ?_;refine ⟨(j + 1, n2), ⟨hjl, hn2.symm⟩, by simp only; omega, ?_⟩;refine wk [(0, some 0)]
     ·have hjn : j = w.runs.length := by simp at hb; omega
      subst hjn;rw [List.take_length] at hn1;rw [<- hn1] at hs;refine rx cx [] (fun K hK => by simp [push_cast, e0]; (repeat refine ob ?_); exact hK) ?_;refine ⟨(k + 1, n1), ⟨hlt, hs.symm⟩, by simp only; omega, ?_⟩;refine wk [(0, some 0)]
   ·have hge : k = R.length := by simp at hb; omega
    subst hge;rw [rowsTo_all] at hn;subst hn;refine rg cx ?_;simp [push_cast]

theorem rcount_ok (R : List Row) (hR : zbw R) : PC Tryz.prog 16 [.agg (zp R)] (.p (.int .i64 (zke R))) := rcount_big R (zun hR) fun _ => hR


def zlm (w : Row) : Int := match w.runs[0]? with | some r => r.a | none => 0
def zkk (w : Row) : Int := match w.runs[w.runs.length - 1]? with | some r => r.b | none => 0
def zbd (R : List Row) : Int := R.foldl (fun m w => min m (zlm w)) 4096
def zbe (R : List Row) : Int := R.foldl (fun m w => max m (zkk w - 1)) (-4096)
def zbv (R : List Row) : Int := match R[0]? with | some w => w.y | none => 0
def zdl (R : List Row) : Int := match R[R.length - 1]? with | some w => w.y | none => 0
def some? (R : List Row) : Bool := zo R && decide (0 < R.length)
def zgm (R : List Row) : zf := if some? R then ⟨zbd R, zbv R⟩ else ⟨0, 0⟩
def zgn (R : List Row) : zf := if some? R then ⟨zbe R, zdl R⟩ else ⟨0, 0⟩
abbrev boxD (R : List Row) : D := .tup [.agg (zgm R).row, .agg (zgn R).row, .bool (some? R)]

theorem lowX_take {R : List Row} {k : Nat} {w : Row} (h : R[k]? = some w) : zbd (R.take (k + 1)) = min (zbd (R.take k)) (zlm w) := by simp [zbd, zat h]
theorem highX_take {R : List Row} {k : Nat} {w : Row} (h : R[k]? = some w) : zbe (R.take (k + 1)) = max (zbe (R.take k)) (zkk w - 1) := by simp [zbe, zat h]
theorem zpo {α : Type} (f : α -> Int) : ∀ (l : List α) (m : Int), l.foldl (fun m w => min m (f w)) m <= m /\ (∀ w ∈ l, l.foldl (fun m w => min m (f w)) m <= f w) /\ ∀ b, b <= m -> (∀ w ∈ l, b <= f w) -> b <= l.foldl (fun m w => min m (f w)) m
 | [], m => by simp
 | x :: l, m => by
  obtain ⟨h1, h2, h3⟩ := zpo f l (min m (f x));simp only [List.foldl_cons];refine ⟨by omega, fun w hw => ?_, fun b hb hl => ?_⟩
  ·rcases List.mem_cons.1 hw with rfl | hw
   ·omega
   ·exact h2 w hw
  ·have := hl x (by simp);exact h3 b (by omega) fun w hw => hl w (by simp [hw])
theorem zpp {α : Type} (f : α -> Int) : ∀ (l : List α) (m : Int), m <= l.foldl (fun m w => max m (f w)) m /\ (∀ w ∈ l, f w <= l.foldl (fun m w => max m (f w)) m) /\ ∀ b, m <= b -> (∀ w ∈ l, f w <= b) -> l.foldl (fun m w => max m (f w)) m <= b
 | [], m => by simp
 | x :: l, m => by
  obtain ⟨h1, h2, h3⟩ := zpp f l (max m (f x));simp only [List.foldl_cons];refine ⟨by omega, fun w hw => ?_, fun b hb hl => ?_⟩
  ·rcases List.mem_cons.1 hw with rfl | hw
   ·omega
   ·exact h2 w hw
  ·have := hl x (by simp);exact h3 b (by omega) fun w hw => hl w (by simp [hw])
theorem zig {w : Row} (h : zfm w.runs = true) : (∀ r ∈ w.runs, zlm w <= r.a /\ r.b <= zkk w) /\ -4096 <= zlm w /\ zlm w < zkk w /\ zkk w <= 4096 := by
 obtain ⟨f, z, hf, hz, hf1, hz1, hl⟩ := znu h;have e1 : zlm w = f.a := by simp [zlm, hf]
 have e2 : zkk w = z.b := by simp [zkk, hz]
 rw [e1, e2];have key : ∀ r ∈ w.runs, f.a <= r.a /\ r.b <= z.b := fun r hr => by
  obtain ⟨k, hk, rfl⟩ := List.mem_iff_getElem.1 hr;have hk' := List.getElem?_eq_getElem hk;exact ⟨(zle (zfc h) k 0 _ f (Nat.zero_le _) hf hk').1, (zle (zfc h) (w.runs.length - 1) k z _ (by omega) hk' hz).2⟩
 have := key f (List.mem_of_getElem? hf);exact ⟨key, by omega, by omega, by omega⟩
theorem zso {R : List Row} (hv : zo R = true) {w : Row} (hw : w ∈ R) : zbv R <= w.y /\ w.y <= zdl R := by
 obtain ⟨k, hk, rfl⟩ := List.mem_iff_getElem.1 hw;have hp := List.pairwise_iff_getElem.1 (ziw hv);have e1 : zbv R = R[0].y := by simp [zbv, List.getElem?_eq_getElem (show 0 < R.length by omega)]
 have e2 : zdl R = R[R.length - 1].y := by simp [zdl, List.getElem?_eq_getElem (show R.length - 1 < R.length by omega)]
 rw [e1, e2];constructor
 ·rcases Nat.eq_zero_or_pos k with h | h
  ·subst h; exact Int.le_refl _
  ·exact Int.le_of_lt (hp 0 k (by omega) hk h)
 ·rcases Nat.lt_or_eq_of_le (show k <= R.length - 1 by omega) with h | h
  ·exact Int.le_of_lt (hp k (R.length - 1) hk (by omega) h)
  ·subst h; exact Int.le_refl _

set_option maxHeartbeats 1000000 in
theorem box_ok (R : List Row) (hR : zbw R) : PC Tryz.prog 57 [.agg (zp R)] (.p (boxD R)) := by
 have c1 := zmy R hR;have hl := hR.1;have hB : boxD R = .tup [.agg (zgm R).row, .agg (zgn R).row, .bool (some? R)] := rfl;rw [hB];by_cases hsm : some? R = true
 ·have hlo : zgm R = ⟨zbd R, zbv R⟩ := by simp [zgm, hsm]
  have hhi : zgn R = ⟨zbe R, zdl R⟩ := by simp [zgn, hsm]
  rw [hlo, hhi, hsm];clear hlo hhi hB;simp only [some?, Bool.and_eq_true, decide_eq_true_eq] at hsm;obtain ⟨hv, hpos⟩ := hsm;rw [hv] at c1;obtain ⟨w0, hw0⟩ : ∃ w, R[0]? = some w := zap hpos;obtain ⟨w1, hw1⟩ : ∃ w, R[R.length - 1]? = some w := zap (by omega);have hy0 : zbv R = w0.y := by simp [zbv, hw0]
  have hy1 : zdl R = w1.y := by simp [zdl, hw1]
  rw [hy0, hy1];clear hy0 hy1;have e1 := wI ((R.length : Int) - 1);have e2 : ((R.length : Int) - 1).toNat = R.length - 1 := by omega
  have e3 : (0 : Int) <= (R.length : Int) - 1 := by omega
  have e4 : ((R.length : Int) == 0) = false := by simp; rintro rfl; simp at hpos
  obtain ⟨y0, r0⟩ := w0;obtain ⟨y1, r1⟩ := w1;refine pw cx Tryz.func57 Tryz.ntmps57 ?_;refine rg cx ?_;refine rx cx [(1, .p (.bool true))] (fun K hK => by simp [push_cast, c1]; (repeat refine ob ?_); exact hK) ?_;refine awp_cn false (by simp [push_cast, e4]) (fun hb => ?_) fun hb => ?_
  ·simp at hb
  ·refine rx cx [] (fun K hK => by simp [push_cast, hw0, Row.row]; (repeat refine ob ?_); exact hK) ?_;refine rx cx [] (fun K hK => by simp [push_cast, hw1, e1, e2, e3, Row.row]; (repeat refine ob ?_); exact hK) ?_;refine rg cx ?_;refine zu (β := Nat × Int × Int) (fun b => ⟨69, [(2, .ptr 0 0 0), (3, .ptr 1 0 0), (4, .d (.bool false)), (5, .ptr 2 0 0), (6, .ptr 3 0 0), (37, .d (zz R)), (38, .d (.int .i64 R.length)), (39, .d (.int .i64 b.1))], [(0, some ⟨67, 2, [[.d (.int .i64 0), .d (.int .i64 0)]]⟩), (1, some ⟨67, 2, [[.d (.int .i64 0), .d (.int .i64 0)]]⟩), (2, some ⟨67, 2, [[.d (.int .i64 b.2.1), .d (.int .i64 y0)]]⟩), (3, some ⟨67, 2, [[.d (.int .i64 b.2.2), .d (.int .i64 y1)]]⟩)], 4⟩) (fun b => b.1 <= R.length /\ b.2.1 = zbd (R.take b.1) /\ b.2.2 = zbe (R.take b.1)) (fun b => R.length - b.1) (0, 4096, -4096) ?_ ⟨Nat.zero_le _, by simp [zbd], by simp [zbe]⟩ ?_
   ·refine wk [(0, some 1), (1, some 2), (2, some 19), (3, some 31)]
   ·rintro ⟨k, a, b⟩ ⟨hk, ha, hb'⟩;simp only at hk ha hb';refine Nav.imp ?_;refine rg cx ?_;refine awp_cd (decide ((k : Int) < R.length)) (fun hb => ?_) fun hb => ?_
    ·have hlt : k < R.length := by simpa using hb
     obtain ⟨w, hw⟩ := zap hlt;have f1 := lowX_take hw;have f2 := highX_take hw;rw [<- ha] at f1;rw [<- hb'] at f2;have e0 := wI ((k : Int) + 1);obtain ⟨f, z, hf, hz, q1, q2, q3⟩ := znu (zdv hv hw).2;have g1 : zlm w = f.a := by simp [zlm, hf]
     have g2 : zkk w = z.b := by simp [zkk, hz]
     have hwl := hR.2 w (List.mem_of_getElem? hw);rw [g1] at f1;rw [g2] at f2;obtain ⟨wy, wr⟩ := w;obtain ⟨fa, fb⟩ := f;obtain ⟨za, zb⟩ := z;simp only at hf hz q1 q2 q3 f1 f2 hwl;have d1 := wI ((wr.length : Int) - 1);have d2 : ((wr.length : Int) - 1).toNat = wr.length - 1 := by omega
     have d3 : (0 : Int) <= (wr.length : Int) - 1 := by omega
     have d4 := wI (zb - 1);refine rx cx [] (fun K hK => by simp [push_cast, hw, Row.row]; (repeat refine ob ?_); exact hK) ?_;refine rd cx mixed [] (fun K hK => by simp [push_cast, hf, Row.row, Run.row]; (repeat refine ob ?_); exact hK) ?_;refine rd cx mixed [] (fun K hK => by simp [push_cast, hz, d1, d2, d3, d4, Row.row, Run.row]; (repeat refine ob ?_); exact hK) ?_;refine rx cx [] (fun K hK => by simp [push_cast, e0]; (repeat refine ob ?_); exact hK) ?_;refine ⟨(k + 1, min a fa, max b (zb - 1)), ⟨hlt, f1.symm, f2.symm⟩, by simp only; omega, ?_⟩;refine wk [(0, some 0), (1, some 1), (2, some 2), (3, some 3)]
    ·have hge : k = R.length := by simp at hb; omega
     subst hge;rw [List.take_length] at ha hb';subst ha hb';refine rd cx mixed [] (fun K hK => by simp [push_cast]; (repeat refine ob ?_); exact hK) ?_;simp [push_cast]
 ·have hlo : zgm R = ⟨0, 0⟩ := by simp [zgm, hsm]
  have hhi : zgn R = ⟨0, 0⟩ := by simp [zgn, hsm]
  rw [hlo, hhi, Bool.eq_false_iff.2 hsm];generalize hv : zo R = v at *;have hnil : v = true -> R = [] := fun h => by
   rw [h] at hv;cases R with
   | nil => rfl
   | cons a l => exact absurd (by simp [some?, hv]) hsm
  refine pw cx Tryz.func57 Tryz.ntmps57 ?_;refine rg cx ?_;cases v with
  | false =>
   refine rx cx [(1, .p (.bool false))] (fun K hK => by simp [push_cast, c1]; (repeat refine ob ?_); exact hK) ?_;refine awp_cd true (fun hb => ?_) fun hb => ?_
   ·refine rg cx ?_;simp [push_cast]
   ·simp at hb
  | true =>
   have := hnil rfl;subst this;refine rx cx [(1, .p (.bool true))] (fun K hK => by simp [push_cast, c1]; (repeat refine ob ?_); exact hK) ?_;refine awp_cd true (fun hb => ?_) fun hb => ?_
   ·refine rg cx ?_;simp [push_cast]
   ·simp at hb

set_option maxHeartbeats 1000000 in
theorem rbox_ok (R : List Row) (hR : zbw R) : PC Tryz.prog 45 [.agg (zp R)] (.p (boxD R)) := by
 have c1 := validR_ok R hR;have hl := hR.1;have hB : boxD R = .tup [.agg (zgm R).row, .agg (zgn R).row, .bool (some? R)] := rfl;rw [hB];by_cases hsm : some? R = true
 ·have hlo : zgm R = ⟨zbd R, zbv R⟩ := by simp [zgm, hsm]
  have hhi : zgn R = ⟨zbe R, zdl R⟩ := by simp [zgn, hsm]
  rw [hlo, hhi, hsm];clear hlo hhi hB;simp only [some?, Bool.and_eq_true, decide_eq_true_eq] at hsm;obtain ⟨hv, hpos⟩ := hsm;rw [hv] at c1;obtain ⟨w0, hw0⟩ : ∃ w, R[0]? = some w := zap hpos;obtain ⟨w1, hw1⟩ : ∃ w, R[R.length - 1]? = some w := zap (by omega);have hy0 : zbv R = w0.y := by simp [zbv, hw0]
  have hy1 : zdl R = w1.y := by simp [zdl, hw1]
  rw [hy0, hy1];clear hy0 hy1;have e1 := wI ((R.length : Int) - 1);have e2 : ((R.length : Int) - 1).toNat = R.length - 1 := by omega
  have e3 : (0 : Int) <= (R.length : Int) - 1 := by omega
  have e4 : ((R.length : Int) == 0) = false := by simp; rintro rfl; simp at hpos
  obtain ⟨y0, r0⟩ := w0;obtain ⟨y1, r1⟩ := w1;refine pw cx Tryz.func45 Tryz.ntmps45 ?_;refine rg cx ?_;refine rx cx [(1, .p (.bool true))] (fun K hK => by simp [push_cast, c1]; (repeat refine ob ?_); exact hK) ?_;refine awp_cn false (by simp [push_cast, e4]) (fun hb => ?_) fun hb => ?_
  ·simp at hb
  ·refine rx cx [] (fun K hK => by simp [push_cast, hw0, Row.row]; (repeat refine ob ?_); exact hK) ?_;refine rx cx [] (fun K hK => by simp [push_cast, hw1, e1, e2, e3, Row.row]; (repeat refine ob ?_); exact hK) ?_;refine rg cx ?_;refine zu (β := Nat × Int × Int) (fun b => ⟨71, [(1, .ptr 4 0 0), (2, .ptr 0 0 0), (3, .ptr 1 0 0), (4, .d (.bool false)), (5, .ptr 2 0 0), (6, .ptr 3 0 0), (7, .d (.int .i64 b.1))], [(0, some ⟨67, 2, [[.d (.int .i64 0), .d (.int .i64 0)]]⟩), (1, some ⟨67, 2, [[.d (.int .i64 0), .d (.int .i64 0)]]⟩), (2, some ⟨67, 2, [[.d (.int .i64 b.2.1), .d (.int .i64 y0)]]⟩), (3, some ⟨67, 2, [[.d (.int .i64 b.2.2), .d (.int .i64 y1)]]⟩), (4, some ⟨24, 1, [(zp R).map .d]⟩)], 5⟩) (fun b => b.1 <= R.length /\ b.2.1 = zbd (R.take b.1) /\ b.2.2 = zbe (R.take b.1)) (fun b => R.length - b.1) (0, 4096, -4096) ?_ ⟨Nat.zero_le _, by simp [zbd], by simp [zbe]⟩ ?_
   ·refine wk [(0, some 1), (1, some 2), (2, some 19), (3, some 31), (4, some 0)]
   ·rintro ⟨k, a, b⟩ ⟨hk, ha, hb'⟩;simp only at hk ha hb';refine Nav.imp ?_;refine rg cx ?_;refine awp_cd (decide ((k : Int) < R.length)) (fun hb => ?_) fun hb => ?_
    ·have hlt : k < R.length := by simpa using hb
     obtain ⟨w, hw⟩ := zap hlt;have f1 := lowX_take hw;have f2 := highX_take hw;rw [<- ha] at f1;rw [<- hb'] at f2;have e0 := wI ((k : Int) + 1);obtain ⟨f, z, hf, hz, q1, q2, q3⟩ := znu (zdv hv hw).2;have g1 : zlm w = f.a := by simp [zlm, hf]
     have g2 : zkk w = z.b := by simp [zkk, hz]
     have hwl := hR.2 w (List.mem_of_getElem? hw);rw [g1] at f1;rw [g2] at f2;obtain ⟨wy, wr⟩ := w;obtain ⟨fa, fb⟩ := f;obtain ⟨za, zb⟩ := z;simp only at hf hz q1 q2 q3 f1 f2 hwl;have d1 := wI ((wr.length : Int) - 1);have d2 : ((wr.length : Int) - 1).toNat = wr.length - 1 := by omega
     have d3 : (0 : Int) <= (wr.length : Int) - 1 := by omega
     have d4 := wI (zb - 1);refine rx cx [] (fun K hK => by simp [push_cast, hw, Row.row]; (repeat refine ob ?_); exact hK) ?_;refine rd cx mixed [] (fun K hK => by simp [push_cast, hf, Row.row, Run.row]; (repeat refine ob ?_); exact hK) ?_;refine rd cx mixed [] (fun K hK => by simp [push_cast, hz, d1, d2, d3, d4, Row.row, Run.row]; (repeat refine ob ?_); exact hK) ?_;refine rx cx [] (fun K hK => by simp [push_cast, e0]; (repeat refine ob ?_); exact hK) ?_;refine ⟨(k + 1, min a fa, max b (zb - 1)), ⟨hlt, f1.symm, f2.symm⟩, by simp only; omega, ?_⟩;refine wk [(0, some 0), (1, some 1), (2, some 2), (3, some 3), (4, some 4)]
    ·have hge : k = R.length := by simp at hb; omega
     subst hge;rw [List.take_length] at ha hb';subst ha hb';refine rd cx mixed [] (fun K hK => by simp [push_cast]; (repeat refine ob ?_); exact hK) ?_;simp [push_cast]
 ·have hlo : zgm R = ⟨0, 0⟩ := by simp [zgm, hsm]
  have hhi : zgn R = ⟨0, 0⟩ := by simp [zgn, hsm]
  rw [hlo, hhi, Bool.eq_false_iff.2 hsm];generalize hv : zo R = v at *;have hnil : v = true -> R = [] := fun h => by
   rw [h] at hv;cases R with
   | nil => rfl
   | cons a l => exact absurd (by simp [some?, hv]) hsm
  refine pw cx Tryz.func45 Tryz.ntmps45 ?_;refine rg cx ?_;cases v with
  | false =>
   refine rx cx [(1, .p (.bool false))] (fun K hK => by simp [push_cast, c1]; (repeat refine ob ?_); exact hK) ?_;refine awp_cd true (fun hb => ?_) fun hb => ?_
   ·refine rg cx ?_;simp [push_cast]
   ·simp at hb
  | true =>
   have := hnil rfl;subst this;refine rx cx [(1, .p (.bool true))] (fun K hK => by simp [push_cast, c1]; (repeat refine ob ?_); exact hK) ?_;refine awp_cd true (fun hb => ?_) fun hb => ?_
   ·refine rg cx ?_;simp [push_cast]
   ·simp at hb
end Go.Proofs.YtdddknniooimmaaGreat
