/-
  Texts of this seat put together: BW8, TR5, TR6, TR7, TP0.
-/
import Derived.Test.YtdddknniooimmaaGreatJT17
import Derived.Test.YtdddknniooimmaaGreatJT15
import Derived.Test.YtdddknniooimmaaGreatJT8
import Derived.Test.YtdddknniooimmaaGreatJT5
import Derived.Test.YtdddknniooimmaaGreatJT12
set_option linter.unusedVariables false
set_option linter.unusedSimpArgs false
set_option maxRecDepth 100000
namespace Go.Proofs.YtdddknniooimmaaGreat
open Go.Abs Go.Shelf

local instance (priority := 5000) nav_stop5 {P : Program} {l : Array Oper} {b : Bool} {c : Code} {Q : Exit -> St -> Prop} {s : St} : Nav (AWp P (.seq (.region 5 l b) c) Q s) (AWp P (.seq (.region 5 l b) c) Q s) := ⟨id⟩
theorem offIds_ds {id : Nat} : ∀ l : List D, zgv id (l.map AV.d) = true
 | [] => rfl
 | d :: l => by
  show zgv id (.d d :: l.map AV.d) = true
  simp only [zgv, zji, offIds_ds l, Bool.and_self]
theorem offIds_dr {id : Nat} (R : List (List D)) {r : List AV} (h : r ∈ dr R) : zgv id r = true := by
 unfold dr at h;obtain ⟨l, _, rfl⟩ := List.mem_map.1 h;exact offIds_ds l
theorem zip_rows : ∀ A : List (zf × List Hd), List.zipWith (fun (k : zf) (v : D) => [D.agg k.row, v]) (A.map (·.1)) (A.map fun p => zdq p.2) = zfa A
 | [] => rfl
 | p :: A => by
  simp only [List.map_cons, List.zipWith_cons_cons, zip_rows A];rfl
set_option maxHeartbeats 8000000 in
theorem trace_ok (R : List Row) (hR : zbw R) (hbig : zo R = true -> (zae R).length <= 1000000) (Ls : List (List Crk)) (hL : zo R = true -> Lps (Sof R) Ls) : PC Tryz.prog 32 [.agg (zp R)] (.p (.sl (if zo R then Ls.map fun L => [zaj (zdp L)] else []))) := by
 have c1 := zmy R hR;have hv0 : zo R = zo R := rfl;generalize hv : zo R = v at c1 hL hbig;refine pw cx Tryz.func32 Tryz.ntmps32 ?_;refine rg cx ?_;refine rx cx [(1, .p (.bool v))] (fun K hK => by simp [push_cast, c1]; (repeat refine ob ?_); exact hK) ?_;refine awp_cd (!v) (fun hb => ?_) fun hb => ?_
 ·simp at hb;subst hb;refine rg cx ?_;simp [push_cast]
 ·simp at hb;subst hb;have hbig := hbig rfl;have hL := hL rfl;have c2 := collect_px R hv hR (by omega);refine rx cx [(1, .x ⟨[], [.d (.agg (zp R))], [], [], some 0, [(0, ⟨118, mapM, dr (zfa (addAll [] (zae R)))⟩)], .hm 0⟩)] (fun K hK => by simp [push_cast, c2]; (repeat refine ob ?_); exact hK) ?_;refine rg cx ?_;generalize hA : addAll [] (zae R) = A at *;have hnk := (collect_map hv).keys;rw [hA] at hnk;have h16 : ∀ xs : List zf, xs.length < (A.map (·.1)).length -> (xs.length + 1) * 16 <= 140737488355328 := fun xs h => by
   have := (zsh (zae R)).1;rw [hA] at this;simp at h; omega
  refine awp_maprange cx [] _ _ _ _ _ _ _ rfl rfl rfl rfl rfl rfl rfl rfl rfl rfl rfl rfl rfl rfl rfl rfl rfl rfl rfl (by decide) rfl rfl (A.map (·.1)) (fun c => .agg c.row) (A.map fun p => zdq p.2) (id := 6) (o := ⟨118, mapM, dr (zfa A)⟩) rfl rfl (lB rfl) (by rw [zip_rows]) (by simp) (by simp [push_cast]) (fun u v xs => ⟨45, [(15, .lit u), (3, .lit v), (4, .hs 7 0 xs.length)], [(7, some ⟨58, 2, dr (xs.map zf.row)⟩)], 8⟩) ?_ ?_ ?_ ?_
  ·intro u v xs;refine ⟨⟨fun t => ?_, ?_, ?_⟩, rfl, rfl, by simp [push_cast], rfl⟩
   ·simp [push_cast, zji]
    (repeat' split) <;> simp [zji]
   ·simp [push_cast, zji]
   ·intro x o ho i r hr;simp [push_cast] at ho;split at ho
    ·simp at ho;subst ho;exact offIds_dr _ (List.mem_of_getElem? hr)
    ·simp at ho
  ·intro u v;refine wk [(7, none)]
  ·intro u v xs k hk hx K hK;have h16 := h16 xs hx;simp [push_cast, entSt];refine hK _ ?_;refine rx cx [] (fun K hK => by simp [push_cast, h16]; (repeat refine ob ?_); exact hK) ?_;refine wk [(7, some 13)]
  ·intro u v xs hxs;obtain ⟨P, hP1, hP2⟩ := pw_of_lowC (l := xs) (hxs.nodup_iff.2 hnk);have hmap := collect_map hv;rw [hA] at hmap;have hC := zsc hv;have hbd : ∀ d ∈ zae R, -100000 <= d.p.x /\ d.p.x <= 100000 /\ -100000 <= d.p.y /\ d.p.y <= 100000 := fun d hd => by
    have := zws hv hd; omega
   have hnear : ∀ c ∈ xs, nearC c := fun c hc => by
    obtain ⟨d, hd, rfl⟩ := heads_near hC hmap (hxs.mem_iff.1 hc);have := zws hv hd;simp only [nearC]; omega
   have hAl := (zsh (zae R)).1;rw [hA] at hAl;have hxl := hxs.length_eq;rw [List.length_map] at hxl;have c3 := sortPt_px xs P hP1 hP2 hnear (by omega);have hPl := hP1.length_eq;refine Nav.imp ?_;refine rx cx [(1, .x ⟨[(0, 7)], [.hs 0 0 xs.length, .d (.fn (.func 88) [])], [(0, ⟨58, 2, dr (xs.map zf.row)⟩)], [(0, 0)], none, [(0, ⟨58, 2, dr (P.map zf.row)⟩)], .tup []⟩)] (fun K hK => by simp [push_cast, c3]; (repeat refine ob ?_); exact hK) ?_;rw [<- hPl];refine zaq 7 (P.map zf.row) rfl (by simp [push_cast]) fun K hK => ?_;simp [push_cast, St.fz, fzT, fzH, fzO, fz, fzL, fzR, zbx, zbo, zbn, zbm];refine nx hK ?_; clear hK K;refine rg cx ?_;refine rg cx ?_;have hP63 : P.length <= 1000000 := by omega
   refine zu (β := Nat × List (List Crk) × List (zf × List Hd)) (fun s => ⟨45, [(3, .hm 6), (26, .d (zaj P)), (27, .d (.int .i64 P.length)), (28, .d (.int .i64 s.1)), (6, .hs 7 0 s.2.1.length)], [(6, some ⟨118, mapM, dr (zfa s.2.2)⟩), (7, some ⟨55, 1, dr (s.2.1.map fun L => [zaj (zdp L)])⟩)], 8⟩)
    (fun s => s.1 <= P.length /\ TInv (Sof R) P s.1 s.2.1 s.2.2) (fun s => P.length - s.1) (0, [], A) ?_ ⟨Nat.zero_le _, TInv.init hmap (hP1.trans hxs)⟩ ?_
   ·refine wk [(6, some 6), (7, none)]
   ·rintro ⟨j, Fs, A⟩ ⟨hj, hI⟩;simp only at hj hI;have hFl := hI.len;refine Nav.imp ?_;refine rg cx ?_;refine awp_cd (decide ((j : Int) < P.length)) (fun hb => ?_) fun hb => ?_
    ·have hlt : j < P.length := by simpa using hb
     obtain ⟨p, hp⟩ := zap hlt;have e0 := wI ((j : Int) + 1);have l0 := look_c p A;refine rx cx [] (fun K hK => by simp [push_cast, hp]; (repeat refine ob ?_); exact hK) ?_;cases hh : zab A p with
     | nil =>
      rw [hh] at l0;have l1 : zgx .nl false (zhg (.agg [.int .i64 p.x, .int .i64 p.y]) (dr (zfa A))) (zdq []) = True := l0;refine rx cx [(2, .p (zdq []))] (fun K hK => by simp [push_cast, l1]; (repeat refine ob ?_); exact hK) ?_;refine awp_cd false (fun hb => ?_) fun hb => ?_
      ·simp at hb
      ·refine rx cx [] (fun K hK => by simp [push_cast, e0]; (repeat refine ob ?_); exact hK) ?_;refine ⟨(j + 1, Fs, A), ⟨hlt, hI.skip hp hh⟩, by simp only; omega, ?_⟩;refine wk [(6, some 6), (7, some 7)]
     | cons k hs0 =>
      rw [hh] at l0;obtain ⟨n, pn, hnl, hr, lc, hI2⟩ := hI.go hC hP2 hp hh;have c4 := walk_px hC hbd hI.map (fun d hd => hd.1) pn (by omega) hr lc hh;have l1 : zgx .nl false (zhg (.agg [.int .i64 p.x, .int .i64 p.y]) (dr (zfa A))) (zdq (k :: hs0)) = True := l0;generalize orb (suc (Sof R)) n ⟨p, k⟩ = L at *;unfold walkO at c4;have h8 : (Fs.length + 1) * 8 <= 140737488355328 := by omega
      have h24 : (Fs.length + 1) * 24 <= 140737488355328 := by omega
      refine rx cx [(2, .p (zdq (k :: hs0)))] (fun K hK => by simp [push_cast, l1]; (repeat refine ob ?_); exact hK) ?_;refine awp_cd true (fun hb => ?_) fun hb => ?_
      ·refine rx cx [(3, .x ⟨[(0, 6)], [.hm 0, .d (.agg [.int .i64 p.x, .int .i64 p.y])], [(0, ⟨118, mapM, dr (zfa A)⟩)], [(0, 0)], none, [(0, ⟨118, mapM, dr (zfa (zdj A L))⟩)], .d (.agg [zaj (zdp L)])⟩)] (fun K hK => by simp [push_cast, c4, h8, h24]; (repeat refine ob ?_); exact hK) ?_;refine rx cx [] (fun K hK => by simp [push_cast, e0]; (repeat refine ob ?_); exact hK) ?_;refine ⟨(j + 1, Fs ++ [L], zdj A L), ⟨hlt, hI2⟩, by simp only; omega, ?_⟩;refine wk [(6, some 6), (7, some 23)]
      ·simp at hb
    ·have hje : P.length <= j := by simp at hb; omega
     have := lps_uniq hC (hI.done hje) hL;rw [<- this];refine zaq 7 (Fs.map fun L => [zaj (zdp L)]) rfl (by simp [push_cast]) fun K hK => ?_;simp [push_cast, St.fz, fzT, fzH, fzO, fz, fzL, fzR, zbx, zbo, zbn, zbm];refine nx hK ?_; clear hK K;refine rg cx ?_;simp [push_cast]
end Go.Proofs.YtdddknniooimmaaGreat

namespace Go.Proofs.YtdddknniooimmaaGreat
open Go.Abs

def R3 : List Row := [⟨2, [⟨1, 4⟩]⟩, ⟨3, [⟨1, 4⟩]⟩, ⟨4, [⟨1, 4⟩]⟩]
def L3 : List Crk := orb (suc (Sof R3)) 12 ⟨⟨1, 2⟩, .e⟩
theorem r3_valid : zo R3 = true := by decide
theorem r3_len : (zae R3).length = 12 := by decide
theorem l3_poly : zdp L3 = [⟨1, 2⟩, ⟨4, 2⟩, ⟨4, 5⟩, ⟨1, 5⟩] := by decide
theorem l3_all : ∀ c ∈ zae R3, c ∈ L3 := by decide
theorem l3_least : ∀ i, i < 12 -> 0 < i -> itn (suc (Sof R3)) i ⟨⟨1, 2⟩, .e⟩ ≠ ⟨⟨1, 2⟩, .e⟩ := by decide
theorem l3_low : ∀ d ∈ L3, d ≠ ⟨⟨1, 2⟩, .e⟩ -> d.p.y > 2 \/ d.p.y = 2 /\ d.p.x > 1 := by decide
theorem l3_lps : Lps (Sof R3) [L3] where
 each := by
  intro L hL;have := List.mem_singleton.1 hL;subst this;refine ⟨⟨⟨1, 2⟩, .e⟩, 12, by decide, ⟨by omega, by decide, fun i h1 h2 => l3_least i h2 h1⟩, rfl, fun d hd hne => ?_⟩;have := l3_low d hd hne;unfold zjk;simp only;omega
 cover := fun c hc => ⟨L3, by simp, l3_all c ((zsc r3_valid c).2 hc)⟩
 sorted := List.pairwise_singleton ..

def Q3 : List (List zf) := [[⟨40, 80⟩, ⟨160, 80⟩, ⟨160, 200⟩, ⟨40, 200⟩]]
theorem edL_Q3 : edL Q3 = [e4, e1] := by decide
theorem perm_is2 {E : List Edg} (h : E.Perm (edL Q3)) : is2 E := by
 rw [edL_Q3] at h;have hlen := h.length_eq;have hnd : E.Nodup := h.nodup_iff.2 (by decide)
 match E, hlen with
 | [x, y], _ =>
  have hx : x = e4 \/ x = e1 := by have := h.subset (show x ∈ [x, y] by simp); simpa using this
  have hy : y = e4 \/ y = e1 := by have := h.subset (show y ∈ [x, y] by simp); simpa using this
  have hne : x ≠ y := by
   have := (List.nodup_cons.1 hnd).1;simpa using this
  rcases hx with rfl | rfl <;> rcases hy with rfl | rfl
  ·exact absurd rfl hne
  ·exact .inl rfl
  ·exact .inr rfl
  ·exact absurd rfl hne
theorem r3_take {i : Nat} (h : i <= 2) : R3.take (i + 1) = R3.take i ++ [⟨2 + i, [⟨1, 4⟩]⟩] := by
 rcases (show i = 0 \/ i = 1 \/ i = 2 by omega) with rfl | rfl | rfl <;> rfl
set_option maxHeartbeats 8000000 in
theorem raster_ok : PC Tryz.prog 47 [zkh Q3, .int .i64 40] (.p (.tup [.agg (zp R3), .int .i64 0])) := by
 have hn : ∀ P ∈ Q3, ∀ p ∈ P, nearU p := by decide
 have c0 := check_ok Q3 (by decide) (by decide) hn;have d1 := edges_pxe Q3 (by decide) (by decide) hn;have hpq : ∀ E : List Edg, E.Perm (edL Q3) -> is2 E := fun E h => perm_is2 h;generalize Q3 = Q at *;refine pw cx Tryz.func47 Tryz.ntmps47 ?_;refine rg cx ?_;refine rx cx [(2, .p (.int .i64 0))] (fun K hK => by simp [push_cast, c0]; (repeat refine ob ?_); exact hK) ?_;refine rg cx ?_;refine awp_cd false (fun hb => ?_) fun hb => ?_
 ·simp at hb
 ·refine zjs cx [] (l := [_, _, _]) (pre := [_]) (post := [_]) rfl rfl rfl rfl 0 ⟨[], [.d (zkh Q)], [], [], none, [], .any⟩ (edOut Q) [(9, 0)] fun K hK => ?_;simp [push_cast, zix, obE, zko];refine ⟨d1, ?_⟩;rintro hp' r ⟨E, hE, _, rfl, rfl⟩;simp [push_cast];refine nx hK ?_; clear hK K;have h2 := hpq E hE;clear hE hpq d1 hn;have hEl : E.length = 2 := by rcases h2 with rfl | rfl <;> rfl
  have c1 := rows_ok E h2;have c2 := rasrow_ok E h2;have c3 := rasrow5_ok E h2;clear h2;obtain ⟨RU, hRU⟩ : ∃ RU : List Run, RU = [⟨1, 4⟩] := ⟨_, rfl⟩
  have hRl : RU.length = 1 := by rw [hRU]; rfl
  have htk : ∀ i, i <= 2 -> R3.take (i + 1) = R3.take i ++ [⟨2 + i, RU⟩] := fun i h => by rw [hRU]; exact r3_take h
  have ht4 : R3.take 4 = R3 := rfl;have ht3 : R3.take 3 = R3 := rfl;rw [<- hRU] at c2;clear hRU;generalize R3 = R at *;refine zaq 9 (E.map Edg.row) rfl (by simp [push_cast, hEl]) fun K hK => ?_;simp [push_cast, St.fz, fzT, fzH, fzO, fz, fzL, fzR, zbx, zbo, zbn, zbm, hEl];refine nx hK ?_; clear hK K;have het : List.take 2 (E.map Edg.row) = E.map Edg.row := List.take_of_length_le (by simp [hEl]);generalize E.map Edg.row = er at *;refine rx cx [(2, .p (.tup [.int .i64 2, .int .i64 4]))] (fun K hK => by simp [push_cast, c1, het, hEl]; (repeat refine ob ?_); exact hK) ?_;refine rg cx ?_;refine rg cx ?_;have w4 := wI 4;refine zu (β := Nat × List Row) (fun b => ⟨53, [(1, .d (.int .i64 40)), (4, .ptr 0 0 0), (7, .d (.sl er)), (8, .d (.int .i64 2)), (10, .ptr 1 0 0), (28, .d (.int .i64 4)), (29, .d (.int .i64 b.1))], [(0, some ⟨24, 1, [[.nl]]⟩), (1, some ⟨24, 1, [[.hs 2 0 b.2.length]]⟩), (2, some ⟨65, 2, dr (b.2.map Row.row)⟩)], 3⟩) (fun b => b.1 <= 4 /\ b.2 = R.take b.1) (fun b => 4 - b.1) (0, []) ?_ ⟨Nat.zero_le _, by simp⟩ ?_
  ·refine wq [(0, some 0), (1, some 19), (2, none)] (by simp [upT, upH, upR, upL, up, push_cast, het, hEl])
  ·rintro ⟨i, out⟩ ⟨hi, hout⟩;simp only at hi hout;refine Nav.imp ?_;refine rg cx ?_;refine awp_cd (decide ((i : Int) < 4)) (fun hb => ?_) fun hb => ?_
   ·have hil : i < 4 := by simp at hb; omega
    have k1 := wI ((i : Int) + 1);have k2 := wI (2 + (i : Int));have hol : out.length <= 4 := by rw [hout, List.length_take]; omega
    have h32 : (out.length + 1) * 32 <= 140737488355328 := by omega
    by_cases h3 : i <= 2
    ·have c4 := c2 (2 + (i : Int)) (by omega);have hnx := htk i h3;rw [<- hout] at hnx;refine rg cx ?_;refine rx cx [(5, .p (zm RU))] (fun K hK => by simp [push_cast, c4, k2]; (repeat refine ob ?_); exact hK) ?_;refine rx cx [] (fun K hK => by simp [push_cast, hRl]; (repeat refine ob ?_); exact hK) ?_;refine awp_cn true (by simp [push_cast, hRl]) (fun hb => ?_) fun hb => ?_
     ·refine rx cx [] (fun K hK => by simp [push_cast, k2, h32, Row.row]; (repeat refine ob ?_); exact hK) ?_;refine rx cx [] (fun K hK => by simp [push_cast, k1]; (repeat refine ob ?_); exact hK) ?_;refine ⟨(i + 1, out ++ [⟨2 + i, RU⟩]), ⟨hil, hnx.symm⟩, by simp only; omega, ?_⟩;refine wq [(0, some 0), (1, some 1), (2, some 24)] (by simp [upT, upH, upR, upL, up, push_cast, Row.row])
     ·simp at hb
    ·have hi3 : i = 3 := by omega
     subst hi3;rw [ht3] at hout;refine rg cx ?_;refine rx cx [(5, .p (zm []))] (fun K hK => by simp [push_cast, c3]; (repeat refine ob ?_); exact hK) ?_;refine rg cx ?_;refine awp_cd false (fun hb => ?_) fun hb => ?_
     ·simp at hb
     ·refine rx cx [] (fun K hK => by simp [push_cast, w4]; (repeat refine ob ?_); exact hK) ?_;refine ⟨(4, out), ⟨Nat.le_refl _, by rw [ht4]; exact hout⟩, by simp only; omega, ?_⟩;refine wk [(0, some 0), (1, some 1), (2, some 2)]
   ·have hie : i = 4 := by simp at hb; omega
    rw [hie, ht4] at hout;subst hout;refine zaq 2 (out.map Row.row) rfl (by simp [push_cast]) fun K hK => ?_;simp [push_cast, St.fz, fzT, fzH, fzO, fz, fzL, fzR, zbx, zbo, zbn, zbm];refine nx hK ?_; clear hK K;refine rg cx ?_;simp [push_cast]

def scP (n : Int) (P : List zf) : List zf := P.map fun p => ⟨p.x * n, p.y * n⟩
set_option maxHeartbeats 4000000 in
theorem scaled_ok (l : List (List zf)) (hl : l.length <= 100000) (hp : ∀ P ∈ l, P.length <= 100000 /\ ∀ p ∈ P, (-4096 <= p.x /\ p.x <= 4096) /\ -4096 <= p.y /\ p.y <= 4096) : PC Tryz.prog 48 [zkh l, .int .i64 40] (.p (zkh (l.map (scP 40)))) := by
 refine pw cx Tryz.func48 Tryz.ntmps48 ?_;iterate 3 refine rg cx ?_
 refine zu (β := Nat × List (List zf)) (fun b => ⟨59, [(0, .d (zkh l)), (1, .d (.int .i64 40)), (5, .hs 0 0 b.2.length), (6, .d (.int .i64 b.1))], [(0, some ⟨55, 1, dr (b.2.map polyRow)⟩)], 1⟩) (fun b => b.1 <= l.length /\ b.2 = (l.take b.1).map (scP 40)) (fun b => l.length - b.1) (0, []) ?_ ⟨Nat.zero_le _, by simp⟩ ?_
 ·refine wk [(0, none)]
 ·rintro ⟨k, out⟩ ⟨hk, hout⟩;simp only at hk hout;refine Nav.imp ?_;refine rg cx ?_;refine awp_cd (decide ((k : Int) < l.length)) (fun hb => ?_) fun hb => ?_
  ·have hlt : k < l.length := by simpa using hb
   obtain ⟨P, hP⟩ := zap hlt;obtain ⟨hPl, hPn⟩ := hp P (List.mem_of_getElem? hP);have e0 := wI ((k : Int) + 1);have hnext : (l.take (k + 1)).map (scP 40) = out ++ [scP 40 P] := by rw [zat hP, hout]; simp
   have hol : out.length <= 100000 := by rw [hout]; simp; omega
   have ho24 : (out.length + 1) * 24 <= 140737488355328 := by omega
   refine rg cx ?_;refine rg cx ?_;refine zu (β := Nat × List zf) (fun b => ⟨59, [(0, .d (zkh l)), (1, .d (.int .i64 40)), (5, .hs 0 0 out.length), (6, .d (.int .i64 k)), (7, .ptr 1 0 0), (8, .d (.int .i64 b.1))], [(0, some ⟨55, 1, dr (out.map polyRow)⟩), (1, some ⟨55, 1, [[.hs 2 0 b.2.length]]⟩), (2, some ⟨58, 2, dr (b.2.map zf.row)⟩)], 3⟩) (fun b => b.1 <= P.length /\ b.2 = scP 40 (P.take b.1)) (fun b => P.length - b.1) (0, []) ?_ ⟨Nat.zero_le _, by simp [scP]⟩ ?_
   ·refine wk [(0, some 0), (1, some 6), (2, none)]
   ·rintro ⟨j, L⟩ ⟨hj, hL⟩;simp only at hj hL;refine Nav.imp ?_;refine rx cx [] (fun K hK => by simp [push_cast, hP]; (repeat refine ob ?_); exact hK) ?_;refine awp_cd (decide ((j : Int) < P.length)) (fun hb => ?_) fun hb => ?_
    ·have hjl : j < P.length := by simpa using hb
     obtain ⟨p, hpj⟩ := zap hjl;have n1 := hPn p (List.mem_of_getElem? hpj);have e1 := wI ((j : Int) + 1);have w1 := wI (p.x * 40);have w2 := wI (p.y * 40);have hLl : L.length <= 100000 := by rw [hL]; simp [scP]; omega
     have hL16 : (L.length + 1) * 16 <= 140737488355328 := by omega
     have hnx : scP 40 (P.take (j + 1)) = L ++ [⟨p.x * 40, p.y * 40⟩] := by rw [zat hpj, hL]; simp [scP]
     refine rd cx mixed [] (fun K hK => by simp [push_cast, hP, hpj, w1, w2, hL16]; (repeat refine ob ?_); exact hK) ?_;refine rx cx [] (fun K hK => by simp [push_cast, e1]; (repeat refine ob ?_); exact hK) ?_;refine ⟨(j + 1, L ++ [⟨p.x * 40, p.y * 40⟩]), ⟨hjl, hnx.symm⟩, by simp only; omega, ?_⟩;refine wk [(0, some 0), (1, some 1), (2, some 37)]
    ·have hje : j = P.length := by simp at hb; omega
     subst hje;rw [List.take_length] at hL;rw [<- hL] at hnext;refine zaq 2 (L.map zf.row) rfl (by simp [push_cast]) fun K hK => ?_;simp [push_cast, St.fz, fzT, fzH, fzO, fz, fzL, fzR, zbx, zbo, zbn, zbm];refine nx hK ?_; clear hK K;refine rx cx [] (fun K hK => by simp [push_cast, ho24]; (repeat refine ob ?_); exact hK) ?_;refine rx cx [] (fun K hK => by simp [push_cast, e0]; (repeat refine ob ?_); exact hK) ?_;refine ⟨(k + 1, out ++ [L]), ⟨hlt, hnext.symm⟩, by simp only; omega, ?_⟩;refine wk [(0, some 14)]
  ·have hke : k = l.length := by simp at hb; omega
   subst hke;rw [List.take_length] at hout;rw [<- hout];clear hout;refine zaq 0 (out.map polyRow) rfl (by simp [push_cast]) fun K hK => ?_;simp [push_cast, St.fz, fzT, fzH, fzO, fz, fzL, fzR, zbx, zbo, zbn, zbm];refine nx hK ?_; clear hK K;refine rg cx ?_;simp [push_cast]
theorem square3_ok : PC Tryz.prog 46 [.int .i64 1, .int .i64 2, .int .i64 3] (.p (.agg (zp R3))) := by
 have htk : ∀ i, i <= 2 -> R3.take (i + 1) = R3.take i ++ [⟨2 + i, [⟨1, 4⟩]⟩] := fun i h => r3_take h;have ht3 : R3.take 3 = R3 := rfl;generalize R3 = R at *;have w4 := wI 4;refine pw cx Tryz.func46 Tryz.ntmps46 ?_;iterate 3 refine rg cx ?_
 refine zu (β := Nat × List Row) (fun b => ⟨31, [(0, .d (.int .i64 1)), (1, .d (.int .i64 2)), (2, .d (.int .i64 3)), (6, .ptr 0 0 0), (7, .ptr 1 0 0), (8, .d (.int .i64 b.1))], [(0, some ⟨24, 1, [[.nl]]⟩), (1, some ⟨24, 1, [[.hs 2 0 b.2.length]]⟩), (2, some ⟨65, 2, dr (b.2.map Row.row)⟩)], 3⟩) (fun b => b.1 <= 3 /\ b.2 = R.take b.1) (fun b => 3 - b.1) (0, []) ?_ ⟨Nat.zero_le _, by simp⟩ ?_
 ·refine wk [(0, some 0), (1, some 2), (2, none)]
 ·rintro ⟨i, out⟩ ⟨hi, hout⟩;simp only at hi hout;refine Nav.imp ?_;refine rg cx ?_;refine awp_cd (decide ((i : Int) < 3)) (fun hb => ?_) fun hb => ?_
  ·have hil : i < 3 := by simp at hb; omega
   have k1 := wI ((i : Int) + 1);have k2 := wI (2 + (i : Int));have hol : out.length <= 3 := by rw [hout, List.length_take]; omega
   have h32 : (out.length + 1) * 32 <= 140737488355328 := by omega
   have hnx := htk i (by omega);rw [<- hout] at hnx;refine rx cx [(10, .f (.sl [[.int .i64 1, .int .i64 4]]))] (fun K hK => by simp [push_cast, k2, w4, h32, Row.row, Run.row]; (repeat refine ob ?_); exact hK) ?_;refine rx cx [] (fun K hK => by simp [push_cast, k1]; (repeat refine ob ?_); exact hK) ?_;refine ⟨(i + 1, out ++ [⟨2 + i, [⟨1, 4⟩]⟩]), ⟨hil, hnx.symm⟩, by simp only; omega, ?_⟩;refine wq [(0, some 0), (1, some 1), (2, some 19)] (by simp [upT, upH, upR, upL, up, push_cast, Row.row, Run.row])
  ·have hie : i = 3 := by simp at hb; omega
   rw [hie, ht3] at hout;subst hout;refine zaq 2 (out.map Row.row) rfl (by simp [push_cast]) fun K hK => ?_;simp [push_cast, St.fz, fzT, fzH, fzO, fz, fzL, fzR, zbx, zbo, zbn, zbm];refine nx hK ?_; clear hK K;refine rg cx ?_;simp [push_cast]
theorem traced_ok : PC Tryz.prog 12 [] (.p (.bool true)) := by
 have hsm : zbw R3 := ⟨by decide, by decide⟩
 have c0 := square3_ok;have c1 := trace_ok R3 hsm (fun _ => by rw [r3_len]; omega) [L3] fun _ => l3_lps;rw [if_pos r3_valid] at c1;have hm : ([L3].map fun L => [zaj (zdp L)]) = [[.sl [[.int .i64 1, .int .i64 2], [.int .i64 4, .int .i64 2], [.int .i64 4, .int .i64 5], [.int .i64 1, .int .i64 5]]]] := by
  simp only [List.map_cons, List.map_nil, l3_poly];rfl
 rw [hm] at c1;have c2 := scaled_ok [[⟨1, 2⟩, ⟨4, 2⟩, ⟨4, 5⟩, ⟨1, 5⟩]] (by decide) (by decide);have hq : ([[⟨1, 2⟩, ⟨4, 2⟩, ⟨4, 5⟩, ⟨1, 5⟩]].map (scP 40)) = Q3 := by decide
 rw [hq] at c2;change PC Tryz.prog 48 [.sl [[.sl [[.int .i64 1, .int .i64 2], [.int .i64 4, .int .i64 2], [.int .i64 4, .int .i64 5], [.int .i64 1, .int .i64 5]]]], .int .i64 40] (.p (zkh Q3)) at c2
 have c3 := raster_ok;have c4 := rsame_ok R3 R3 hsm;simp only [decide_true] at c4;have c5 := zlu R3 hsm fun _ => by rw [r3_len]; omega
 rw [if_pos r3_valid, r3_len] at c5;clear hm hq hsm;generalize R3 = R at *;generalize Q3 = Q at *;refine pw cx Tryz.func12 Tryz.ntmps12 ?_;refine rg cx ?_;refine rx cx [(0, .p (.agg (zp R)))] (fun K hK => by simp [push_cast, c0]; (repeat refine ob ?_); exact hK) ?_;refine rx cx [(1, .p (.sl [[.sl [[.int .i64 1, .int .i64 2], [.int .i64 4, .int .i64 2], [.int .i64 4, .int .i64 5], [.int .i64 1, .int .i64 5]]]]))] (fun K hK => by simp [push_cast, c1]; (repeat refine ob ?_); exact hK) ?_;refine rg cx ?_;refine awp_cd false (fun hb => ?_) fun hb => ?_
 ·simp at hb
 ·refine rx cx [(1, .p (zkh Q)), (2, .p (.tup [.agg (zp R), .int .i64 0]))] (fun K hK => by simp [push_cast, c2, c3]; (repeat refine ob ?_); exact hK) ?_;refine rx cx [(5, .p (.bool true)), (9, .p (.int .i64 12))] (fun K hK => by simp [push_cast, c4, c5]; (repeat refine ob ?_); exact hK) ?_;simp [push_cast]
end Go.Proofs.YtdddknniooimmaaGreat

namespace Go.Proofs.YtdddknniooimmaaGreat
open Go.Abs Go.ChangeShapes Go.WideShapes Go.ChangeAt Go.RowKit

theorem bigT_rows {f : Nat} {d : D} (h : zgq Tryz.prog (f + 5) 22 [d]) : ∃ l : List Row, d = zz l /\ zqd l := by
 obtain ⟨rows, e, hlen, hr⟩ := hasT_slice Tryz.underlying22 h;have hrow : ∀ r ∈ rows, ∃ w : Row, r = w.row /\ w.runs.length <= 9223372036854775807 := fun r hr' => by
  obtain ⟨hl, hp⟩ := zrt (n := 2) (ts := [3, 63]) Tryz.underlying65 (by kernel_rfl) (by kernel_rfl) (by kernel_rfl) (hr r hr');obtain ⟨d0, r0, e0, h0, hp0⟩ := znj (by kernel_rfl) hp (by omega);subst e0;obtain ⟨d1, r1, e1, h1, hp1⟩ := znj (by kernel_rfl) hp0 (by simp at hl ⊢; omega);subst e1;simp only [zeq] at hp1;subst hp1;obtain ⟨n, en, _⟩ := hasT_int Tryz.underlying3 h0;cases en;obtain ⟨rr, er, hrl, hrr⟩ := hasT_slice Tryz.underlying63 h1;cases er;obtain ⟨l, rfl⟩ := rows_of (row := Run.row) fun x hx => run_of (f := f) (hrr x hx);exact ⟨⟨n, l⟩, rfl, by simpa [maxLen] using hrl⟩
 have key : ∀ rows : List (List D), (∀ r ∈ rows, ∃ w : Row, r = w.row /\ w.runs.length <= 9223372036854775807) -> ∃ l : List Row, rows = l.map Row.row /\ ∀ w ∈ l, w.runs.length <= 9223372036854775807 := by
  intro rows;induction rows with
  | nil => intro _; exact ⟨[], rfl, by simp⟩
  | cons r rows ih =>
   intro h;obtain ⟨w, hw, hwl⟩ := h r (by simp);obtain ⟨l, hl, hll⟩ := ih fun x hx => h x (by simp [hx]);exact ⟨w :: l, by rw [hw, hl]; rfl, fun v hv => by rcases List.mem_cons.1 hv with rfl | hv; exact hwl; exact hll v hv⟩
 obtain ⟨l, rfl, hl⟩ := key rows hrow;cases e;exact ⟨l, rfl, by simpa [maxLen] using hlen, hl⟩
theorem bigT_region {f : Nat} {ds : List D} (h : zgq Tryz.prog (f + 6) 24 ds) : ∃ l : List Row, ds = zp l /\ zqd l := by
 obtain ⟨hl, hp⟩ := zrt (n := 1) (ts := [22]) Tryz.underlying24 (by kernel_rfl) (by kernel_rfl) (by kernel_rfl) h;obtain ⟨d0, r0, e0, h0, hp0⟩ := znj (by kernel_rfl) hp (by omega);subst e0;simp only [zeq] at hp0;subst hp0;obtain ⟨l, rfl, hb⟩ := bigT_rows (f := f) h0;exact ⟨l, rfl, hb⟩
theorem arg_regionT {x : D} (h : hasV Tryz.prog 24 x) : ∃ R : {R : List Row // zqd R}, x = .agg (zp R.1) := by
 unfold hasV at h;rw [Tryz.underlying24] at h;obtain ⟨cs, rfl, h⟩ := h;obtain ⟨l, rfl, hb⟩ := bigT_region (f := 24) h;exact ⟨⟨l, hb⟩, rfl⟩
end Go.Proofs.YtdddknniooimmaaGreat
