/-
  Texts of this seat put together: M7, W1, HZ6, ON2, TN1, L0, TP0, HZ7.
-/
import Derived.Test.YtdddknniooimmaaGreatJF16
import Derived.Test.YtdddknniooimmaaGreatJF6
import Derived.Test.YtdddknniooimmaaGreatJF8
import Derived.Test.YtdddknniooimmaaGreatJF15
import Derived.Test.YtdddknniooimmaaGreatJF7
import Derived.Test.YtdddknniooimmaaGreatJF4
import Derived.Test.YtdddknniooimmaaGreatJF3
import Derived.Test.YtdddknniooimmaaGreatJF5
import Derived.Test.YtdddknniooimmaaGreatChecked
set_option linter.unusedVariables false
set_option linter.unusedSimpArgs false
set_option maxRecDepth 100000
namespace Go.Proofs.YtdddknniooimmaaGreat
open Go.Abs

def zco (R : List Row) : List Row := zla (zkq R 1) 1
theorem nearP_ofCells {R : List Row} (hv : zo R = true) {K : Nat} {y x : Int} : nearP R K y x ↔ ∃ c ∈ zk R, c.y - K <= y /\ y <= c.y + K /\ c.x - K <= x /\ x <= c.x + K := by
 constructor
 ·rintro ⟨w, hw, h1, h2, r, hr, h3, h4⟩;have hrb := (zdl.1 (zbx hv hw).2).2.1.1 r hr;by_cases q : x < r.a
  ·exact ⟨⟨r.a, w.y⟩, zbn.2 ⟨w, hw, rfl, r, hr, by simp, hrb⟩, h1, h2, by simp only; omega, by simp only; omega⟩
  ·by_cases q2 : x < r.b
   ·exact ⟨⟨x, w.y⟩, zbn.2 ⟨w, hw, rfl, r, hr, by simp only; omega, q2⟩, h1, h2, by simp only; omega, by simp only; omega⟩
   ·exact ⟨⟨r.b - 1, w.y⟩, zbn.2 ⟨w, hw, rfl, r, hr, by simp only; omega, by simp only; omega⟩, h1, h2, by simp only; omega, by simp only; omega⟩
 ·rintro ⟨c, hc, h1, h2, h3, h4⟩;obtain ⟨w, hw, hy, r, hr, h5, h6⟩ := zbn.1 hc;exact ⟨w, hw, by omega, by omega, r, hr, by omega, by omega⟩
theorem cell_bd {R : List Row} (hv : zo R = true) {c : ze} (hc : c ∈ zk R) : -4096 <= c.x /\ c.x < 4096 /\ -4096 <= c.y /\ c.y < 4096 := by
 obtain ⟨w, hw, hy, r, hr, h5, h6⟩ := zbn.1 hc;obtain ⟨h1, h2⟩ := zbx hv hw;have := (zdl.1 h2).2.2 r hr;omega
theorem rng_of {R : List Row} (hv : zo R = true) (h0 : 0 < R.length) (h : ∀ c ∈ zk R, -4095 <= c.x /\ c.x < 4095 /\ -4095 <= c.y /\ c.y < 4095) : rngB R 1 = true := by
 have hrow : ∀ w ∈ R, -4095 <= zpe w /\ znz w - 1 <= 4094 /\ -4095 <= w.y /\ w.y <= 4094 := fun w hw => by
  obtain ⟨f, z, hf, hz, hf1, hz1, hl⟩ := zmv (zbx hv hw).2;have e1 : zpe w = f.a := by simp [zpe, hf]
  have e2 : znz w = z.b := by simp [znz, hz]
  have ha := (zdl.1 (zbx hv hw).2).2.1.1;have q1 := ha f (List.mem_of_getElem? hf);have q2 := ha z (List.mem_of_getElem? hz);have p1 := h ⟨f.a, w.y⟩ (zbn.2 ⟨w, hw, rfl, f, List.mem_of_getElem? hf, by simp, q1⟩);have p2 := h ⟨z.b - 1, w.y⟩ (zbn.2 ⟨w, hw, rfl, z, List.mem_of_getElem? hz, by simp only; omega, by simp only; omega⟩);simp only at p1 p2;rw [e1, e2];omega
 have hlow := (zvm zpe R 4096).2.2 (-4095) (by omega) fun w hw => (hrow w hw).1;have hhigh := (zvn (fun w => znz w - 1) R (-4096)).2.2 4094 (by omega) fun w hw => (hrow w hw).2.1;have hf : zgm R = R[0].y := by simp [zgm, List.getElem?_eq_getElem h0]
 have hl : zjm R = R[R.length - 1].y := by simp [zjm, List.getElem?_eq_getElem (show R.length - 1 < R.length by omega)]
 have p1 := hrow R[0] (List.getElem_mem _);have p2 := hrow R[R.length - 1] (List.getElem_mem _);have e1 : -4095 <= zlv R := hlow;have e2 : zgb R <= 4094 := hhigh;simp only [rngB, Bool.and_eq_true, Bool.not_eq_true', decide_eq_false_iff_not];constructor <;> omega
theorem open_err {R : List Row} (hv : zo R = true) : zse (zkq R 1) 1 = 0 := by
 have hq : zcy R 1 = true := by simp [zcy, hv]
 obtain ⟨h1, h2⟩ := zmz hq;unfold zse;rw [if_pos (by simp [zcy, h1])];by_cases h0 : 0 < (zkq R 1).length
 ·rw [if_pos h0, if_pos];refine rng_of h1 h0 fun c hc => ?_;have ha := (h2 c).1 hc;have p1 := cell_bd hv (ha (-1) (-1) (by simp) (by simp) (by simp) (by simp));have p2 := cell_bd hv (ha 1 1 (by simp) (by simp) (by simp) (by simp));simp only at p1 p2;omega
 ·rw [if_neg h0]
theorem open_facts {R : List Row} (hv : zo R = true) : zo (zco R) = true /\ ∀ c, c ∈ zk (zco R) ↔ ∃ d : ze, aroundC R 1 d /\ d.x - 1 <= c.x /\ c.x <= d.x + 1 /\ d.y - 1 <= c.y /\ c.y <= d.y + 1 := by
 have hq : zcy R 1 = true := by simp [zcy, hv]
 obtain ⟨h1, h2⟩ := zmz hq;obtain ⟨_, h3, h4⟩ := dil_facts (open_err hv);refine ⟨h3, fun c => ?_⟩;unfold zco;rw [h4, nearP_ofCells h1];constructor
 ·rintro ⟨d, hd, p1, p2, p3, p4⟩;exact ⟨d, (h2 d).1 hd, p3, p4, p1, p2⟩
 ·rintro ⟨d, hd, p1, p2, p3, p4⟩;exact ⟨d, (h2 d).2 hd, p3, p4, p1, p2⟩
theorem open_sub {R : List Row} (hv : zo R = true) {c : ze} (hc : c ∈ zk (zco R)) : c ∈ zk R := by
 obtain ⟨d, hd, h1, h2, h3, h4⟩ := ((open_facts hv).2 c).1 hc;have := hd (c.x - d.x) (c.y - d.y) (by omega) (by omega) (by omega) (by omega);rw [show (⟨d.x + (c.x - d.x), d.y + (c.y - d.y)⟩ : ze) = c from by cases c; simp only [ze.mk.injEq]; omega] at this;exact this
theorem znv (R : List Row) : zo (zco R) = true := dil_valid _ _

theorem open_ok (R : List Row) (hR : zoq R) : PC Tryz.prog 66 [.agg (zt R), .int .i64 1] (.p (.agg (zt (zco R)))) := by
 have c1 := erode_ok R 1 hR;have c2 := dilate_ok (zkq R 1) 1 (zqt (zce (ero_valid R 1)));have e : zco R = zla (zkq R 1) 1 := rfl;rw [e];generalize zla (zkq R 1) 1 = D at *;generalize zse (zkq R 1) 1 = er at *;generalize zkq R 1 = E at *;refine pw cx Tryz.func66 Tryz.ntmps66 ?_;refine rg cx ?_;refine rx cx [(2, .p (.agg (zt E))), (4, .p (.tup [.agg (zt D), .int .i64 er]))] (fun K hK => by simp [push_cast, c1, c2]; (repeat refine ob ?_); exact hK) ?_;refine rg cx ?_;simp [push_cast]
theorem split_ok (R : List Row) (hR : zoq R) : PC Tryz.prog 21 [.agg (zt R)] (.p (.tup [.agg (zt (zco R)), .agg (zt (opR fD R (zco R)))])) := by
 have c1 := open_ok R hR;have c2 := subtractR_big R (zco R) hR (zqt (zce (znv R)));generalize opR fD R (zco R) = B at *;generalize zco R = O at *;refine pw cx Tryz.func21 Tryz.ntmps21 ?_;refine rg cx ?_;refine rx cx [(1, .p (.agg (zt O)))] (fun K hK => by simp [push_cast, c1]; (repeat refine ob ?_); exact hK) ?_;refine rd cx mixed [(3, .p (.agg (zt B)))] (fun K hK => by simp [push_cast, c2]; (repeat refine ob ?_); exact hK) ?_;simp [push_cast]


theorem sortCell_px (l : List ze) (hd : l.Nodup) (hon : ∀ c ∈ l, onG c = true) (hl : l.length <= 1000000) : PX Tryz.prog 77 [.hs 0 0 l.length, .d (.fn (.func 78) [])] [(0, ⟨67, 2, dr (l.map ze.row)⟩)] [(0, 0)] [(0, ⟨67, 2, dr ((zkb l).map ze.row)⟩)] (.tup []) := by
 have h := zjl (P := Tryz.prog) zsl (k := 2) (by decide) (fun w => by kernel_rfl) (fun w => by kernel_rfl) ⟨_, Tryz.func77, by kernel_rfl, by kernel_rfl⟩ (cg := 78) (fun args w => by kernel_rfl) cmpX_ok cfX_ord 67 (rows := l.map ze.row) (rows' := (zkb l).map ze.row)
  (fun r hr => by obtain ⟨c, hc, rfl⟩ := List.mem_map.1 hr; exact ⟨c, rfl, hon c hc⟩)
  (fun a ha b hb h1 h2 => by
   obtain ⟨c, hc, rfl⟩ := List.mem_map.1 ha;obtain ⟨d, hd, rfl⟩ := List.mem_map.1 hb;rw [cfX_anti h2 h1])
  ((zfd l).map _) (sortX_rows l hd) (by simp; omega)
 simp only [List.length_map] at h;exact h
theorem sortTrack_px (s l : List ze) (hp : s.Perm l) (hl : l.Pairwise ltY) (hon : ∀ c ∈ l, onG c = true) (hn : l.length <= 1000000) : PX Tryz.prog 80 [.hs 0 0 (zdb s).length, .d (.fn (.func 81) [])] [(0, ⟨94, 3, dr ((zdb s).map zm.row)⟩)] [(0, 0)] [(0, ⟨94, 3, dr ((zdb l).map zm.row)⟩)] (.tup []) := by
 have hs : ∀ c ∈ s, onG c = true := fun c hc => hon c (hp.mem_iff.1 hc);have hlen : (zdb s).length <= s.length := upAll_len;have hsl := hp.length_eq;have h := zjl (P := Tryz.prog) sortTrack_lays (k := 3) (by decide) (fun w => by kernel_rfl) (fun w => by kernel_rfl) ⟨_, Tryz.func80, by kernel_rfl, by kernel_rfl⟩ (cg := 81) (fun args w => by kernel_rfl) cmpY_ok cfY_ord 94 (rows := (zdb s).map zm.row) (rows' := (zdb l).map zm.row)
  (fun r hr => by obtain ⟨t, ht, rfl⟩ := List.mem_map.1 hr; exact upAll_VT hs ht)
  (fun a ha b hb h1 h2 => by
   obtain ⟨c, hc, rfl⟩ := List.mem_map.1 ha;obtain ⟨d, hd, rfl⟩ := List.mem_map.1 hb;rw [upAll_anti hs hc hd h1 h2])
  ((zsu hp.symm).map _) (upAll_rows hl hon) (by simp; omega)
 simp only [List.length_map] at h;exact h

set_option maxHeartbeats 4000000 in
theorem lines_ok (R : List Row) (hR : zdi R) (hn : zo R = true -> (zk R).length <= 1000000) : PC Tryz.prog 24 [.agg (zt R)] (.p (zah (zej R))) := by
 have c1 := zpj R hR;have hL : zej R = if zo R then zha R ++ zdb (zcc R) else [] := rfl
 have hv0 : zo R = zo R := rfl;generalize hv : zo R = v at c1 hL hn;refine pw cx Tryz.func24 Tryz.ntmps24 ?_;refine rg cx ?_;refine rx cx [(1, .p (.bool v))] (fun K hK => by simp [push_cast, c1]; (repeat refine ob ?_); exact hK) ?_;refine awp_cd (!v) (fun hb => ?_) fun hb => ?_
 ·simp at hb;rw [hL, hb];refine rg cx ?_;simp [push_cast]
 ·simp at hb;rw [hb] at hv hL;rw [if_pos rfl] at hL;have hn := hn hb;have c2 := wide_ok R hR hv hn;have hle := reg_le hv;have c3 := sortCell_px (zcc R) (zca (sng_pw hv)) (fun c hc => zeg hv (zld hv hc)) (by omega);have hpw := sortX_lt (zca (sng_pw hv));have hon : ∀ c ∈ zkb (zcc R), onG c = true := fun c hc => zeg hv (zld hv ((sortX_mem c).1 hc));have c4 := sortTrack_px (zkb (zcc R)) (zcc R) (zfd _) (sng_pw hv) (fun c hc => zeg hv (zld hv hc)) (by omega);have hsl : (zkb (zcc R)).length = (zcc R).length := (zfd _).length_eq;have hul : (zdb (zcc R)).length <= (zcc R).length := upAll_len;have hul2 : (zdb (zkb (zcc R))).length = (zdb (zcc R)).length := (zsu (zfd _)).length_eq;generalize zkb (zcc R) = s at *;generalize zcc R = q at *;generalize zha R = T at *;rw [hL];clear hL;refine awp_region2 cx [] (pre := [_]) rfl rfl rfl rfl 1 ⟨[], [.d (.agg (zt R))], [], [], none, [(1, ⟨94, 3, dr (T.map zm.row)⟩), (2, ⟨67, 2, dr (q.map ze.row)⟩)], .tup [.hs 1 0 T.length, .hs 2 0 q.length]⟩ [(6, 1), (7, 2)] fun K hK => ?_;simp [push_cast, zqo, zrr, c2];refine hK _ ?_; clear hK K;refine Nav.imp ?_;have hq63 : q.length <= 1000000 := by omega
  refine rx cx [(1, .x ⟨[(0, 7)], [.hs 0 0 q.length, .d (.fn (.func 78) [])], [(0, ⟨67, 2, dr (q.map ze.row)⟩)], [(0, 0)], none, [(0, ⟨67, 2, dr (s.map ze.row)⟩)], .tup []⟩)] (fun K hK => by simp [push_cast, c3]; (repeat refine ob ?_); exact hK) ?_;rw [<- hsl];refine zaf 7 (s.map ze.row) rfl (by simp [push_cast]) fun K hK => ?_;simp [push_cast, St.fz, fzT, fzH, fzO, fz, fzL, fzR, zbc, zat, zas, zaq];refine nx hK ?_; clear hK K;refine rg cx ?_;refine rg cx ?_;refine zz (β := Nat × List zm) (fun b => ⟨72, [(3, .hs 6 0 T.length), (4, .d (zai s)), (5, .hs 7 0 b.2.length), (6, .d (.int .i64 b.1))], [(6, some ⟨94, 3, dr (T.map zm.row)⟩), (7, some ⟨94, 3, dr (b.2.map zm.row)⟩)], 8⟩)
   (fun b => b.1 <= s.length /\ b.2 = (s.take b.1).flatMap (vT s) /\ ∀ a, s[b.1]? = some a -> vst s a = true) (fun b => s.length - b.1) (0, []) ?_ ⟨Nat.zero_le _, by simp, fun a ha => vst_first hpw ha⟩ ?_
  ·refine wk [(6, some 6), (7, none)]
  ·rintro ⟨i, U⟩ ⟨hi, hU, hst⟩;simp only at hi hU hst;refine Nav.imp ?_;refine rg cx ?_;refine awp_cd (decide ((i : Int) < s.length)) (fun hb => ?_) fun hb => ?_
   ·have hlt : i < s.length := by simpa using hb
    obtain ⟨a, ha⟩ := zak hlt;have hv := hst a ha;have e0 := wI ((i : Int) + 1);have hUl : U.length <= 1000000 := by
     have : U.length <= s.length := by rw [hU]; exact take_flat_one (vT_len s) s i
     omega
    have hU40 : (U.length + 1) * 40 <= 140737488355328 := by omega
    refine rx cx [] (fun K hK => by simp [push_cast, e0]; (repeat refine ob ?_); exact hK) ?_;refine zz (β := Nat) (fun n => ⟨72, [(3, .hs 6 0 T.length), (4, .d (zai s)), (5, .hs 7 0 U.length), (6, .d (.int .i64 i)), (7, .d (.int .i64 (i + n)))], [(6, some ⟨94, 3, dr (T.map zm.row)⟩), (7, some ⟨94, 3, dr (U.map zm.row)⟩)], 8⟩)
     (fun n => 0 < n /\ i + n <= s.length /\ Col s i n a) (fun n => s.length - i - n) 1 ?_ ⟨by omega, by omega, fun j hj => by rw [show j = 0 from by omega]; cases a; simpa using ha⟩ ?_
    ·refine wk [(6, some 6), (7, some 7)]
    ·rintro n ⟨hn0, hnl, hcol⟩;refine Nav.imp ?_;have hp := hcol (n - 1) (by omega);have e1 := wI ((i : Int) + n - 1);have e2 : ((i : Int) + n).toNat = i + n := by omega
     have e3 : ((i : Int) + n - 1).toNat = i + (n - 1) := by omega
     have e5 : (0 : Int) <= (i : Int) + n - 1 := by omega
     have e6 : (0 : Int) <= (i : Int) + n := by omega
     have hag := zje (hon _ (List.mem_of_getElem? hp));simp only at hag;have e7 := wI (a.y + ((n - 1 : Nat) : Int) + 1);have e8 := wI ((i : Int) + n + 1);have e9 : a.y + ((n - 1 : Nat) : Int) + 1 = a.y + n := by omega
     by_cases hs : Stop s i n a
     ·apply cut_
      ·intro key;by_cases hkl : i + n < s.length
       ·obtain ⟨b, hb⟩ := zak hkl;have e4 : (i : Int) + n < s.length := by omega
        have hsb : (b.x == a.x && b.y == a.y + (n : Int)) = false := by
         rw [Bool.eq_false_iff];intro h;simp at h;exact hs b hb h
        refine rd cx mixed [] (fun K hK => by simp [push_cast, ha, hb, hp, e1, e2, e3, e4, e5, e6, e7]; (repeat refine ob ?_); exact hK) ?_;refine awp_cn false (by simp [push_cast, e9, e4, hsb]) (fun hb => ?_) fun hb => ?_
        ·simp at hb
        ·refine zby (s' := ⟨72, [(3, .hs 6 0 T.length), (4, .d (zai s)), (5, .hs 7 0 U.length), (6, .d (.int .i64 i)), (7, .d (.int .i64 (i + n)))], [(6, some ⟨94, 3, dr (T.map zm.row)⟩), (7, some ⟨94, 3, dr (U.map zm.row)⟩)], 8⟩) ?_ key.h;refine wk [(6, some 6), (7, some 7)]
       ·have e4 : ¬ (i : Int) + n < s.length := by omega
        have hbn : s[i + n]? = none := List.getElem?_eq_none (by omega);refine rd cx mixed [] (fun K hK => by simp [push_cast, ha, hp, hbn, e1, e2, e3, e4, e5, e6, e7]; (repeat refine ob ?_); exact hK) ?_;refine awp_cn false (by simp [push_cast, e4]) (fun hb => ?_) fun hb => ?_
        ·simp at hb
        ·refine zby (s' := ⟨72, [(3, .hs 6 0 T.length), (4, .d (zai s)), (5, .hs 7 0 U.length), (6, .d (.int .i64 i)), (7, .d (.int .i64 (i + n)))], [(6, some ⟨94, 3, dr (T.map zm.row)⟩), (7, some ⟨94, 3, dr (U.map zm.row)⟩)], 8⟩) ?_ key.h;refine wk [(6, some 6), (7, some 7)]
      ·have hpc := col_piece hpw hon hn0 hcol hs hv;rw [<- hU] at hpc;have hpl : ((s.drop i).take n).length <= 1000000 := by simp; omega
       have c5 : PC Tryz.prog 79 [zai ((s.drop i).take n)] (.f (.agg (trk ((s.drop i).take n)).row)) := path_ok _ hpl;have hm : List.drop i (List.take (i + n) (s.map ze.row)) = ((s.drop i).take n).map ze.row := by
        rw [List.map_take, List.map_drop, List.drop_take]; simp
       have hm2 : ∀ f : ze -> List D, List.take n (List.drop i (List.map f s)) = ((s.drop i).take n).map f := fun f => by rw [List.map_take, List.map_drop]
       have hnext : ∀ b, s[i + n]? = some b -> vst s b = true := fun b hb => col_next hpw hn0 hcol hs hb;generalize hPd : (s.drop i).take n = Pc at *;have e4 : (i : Int) <= (i : Int) + n := by omega
       refine Nav.imp ?_;refine rx cx [(5, .f (.agg (trk Pc).row))] (fun K hK => by simp [push_cast, c5, e2, e4, e6, hm, hnl, hU40]; (repeat refine ob ?_); exact hK) ?_;refine rg cx ?_;refine ⟨(i + n, U ++ [trk Pc]), ⟨hnl, hpc.symm, hnext⟩, by simp only; omega, ?_⟩;refine wq [(6, some 6), (7, some 15)] (by simp [upT, upH, upR, upL, up, push_cast, zm.row])
     ·have : ∃ b, s[i + n]? = some b /\ b.x = a.x /\ b.y = a.y + n := by
       apply Classical.byContradiction
       intro h;exact hs fun b hb hx => h ⟨b, hb, hx⟩
      obtain ⟨b, hb, hbx, hby⟩ := this;have hkl := (List.getElem?_eq_some_iff.1 hb).1;have e4 : (i : Int) + n < s.length := by omega
      obtain ⟨bx, bY⟩ := b;simp only at hbx hby;subst hbx hby;refine rd cx mixed [] (fun K hK => by simp [push_cast, ha, hb, hp, e1, e2, e3, e4, e5, e6, e7]; (repeat refine ob ?_); exact hK) ?_;refine awp_cn true (by simp [push_cast, e9, e4]) (fun hb => ?_) fun hb => ?_
      ·refine rx cx [] (fun K hK => by simp [push_cast, e8]; (repeat refine ob ?_); exact hK) ?_;refine ⟨n + 1, ⟨by omega, by omega, fun j hj => ?_⟩, by omega, ?_⟩
       ·by_cases hjn : j = n
        ·subst hjn; exact hb
        ·exact hcol j (by omega)
       ·refine wq [(6, some 6), (7, some 7)] (by simp [upT, upH, upR, upL, up, push_cast, Int.add_assoc])
      ·simp at hb
   ·have hin : i = s.length := by simp at hb; omega
    subst hin;rw [List.take_length] at hU;have hU' : U = zdb s := hU;subst hU';clear hU hst;have hTU : (T.length + (zdb q).length) * 40 <= 140737488355328 := by omega
    refine rx cx [(1, .x ⟨[(0, 7)], [.hs 0 0 (zdb s).length, .d (.fn (.func 81) [])], [(0, ⟨94, 3, dr ((zdb s).map zm.row)⟩)], [(0, 0)], none, [(0, ⟨94, 3, dr ((zdb q).map zm.row)⟩)], .tup []⟩)] (fun K hK => by simp [push_cast, c4]; (repeat refine ob ?_); exact hK) ?_;rw [hul2];generalize zdb q = V at *;refine rx cx [] (fun K hK => by simp [push_cast, hTU]; (repeat refine ob ?_); exact hK) ?_;have ht : List.take (T.length + V.length) (T.map zm.row ++ V.map zm.row) = T.map zm.row ++ V.map zm.row := List.take_of_length_le (by simp);simp [push_cast, ht]

theorem tracks_le {l : List zm} (h : ∀ t ∈ l, zap t = true) : l.length <= (tc l).length := by
 induction l with
 | nil => simp
 | cons t l ih =>
  have h1 := (zgh (h t (by simp))).2.1;have h2 := ih fun u hu => h u (by simp [hu]);have e : tc (t :: l) = t.cells ++ tc l := by simp [tc]
  rw [e, List.length_append, List.length_cons];omega
def zle (R : List Row) : List Row := opR fD R (zco R)
noncomputable def zea (R : List Row) (n : Nat) : List zm := zgv (zco R) n ++ zigT (zew (zco R) n) ++ zej (zle R)
structure Fills (R : List Row) (n : Nat) : Prop where
 valid : ∀ t ∈ zea R n, zap t = true
 perm : (tc (zea R n)).Perm (zk R)
 few : (zea R n).length <= 200
 open' : (zk (zco R)).length <= 200
 rest : (zk (zew (zco R) n)).length <= 200
 slim : (zk (zle R)).length <= 200
 slimV : zo (zle R) = true
theorem fills_facts {R : List Row} (hv : zo R = true) (hn : (zk R).length <= 200) (n : Nat) : Fills R n := by
 have hvo := znv R;have hos : ∀ c, c ∈ zk (zco R) -> c ∈ zk R := fun c => open_sub hv;have hol : (zk (zco R)).length <= (zk R).length := zlu (zca (zge hvo)) hos;have hve := zig hvo n;have hes : ∀ c, c ∈ zk (zew (zco R) n) -> c ∈ zk (zco R) := fun c => zvt hvo;have hel := eroI_len hvo n;obtain ⟨hvs, hsd⟩ := opR_facts (f := fD) rfl hv hvo;have hsm : ∀ c, c ∈ zk (zle R) ↔ c ∈ zk R /\ c ∉ zk (zco R) := fun c => by
  have := hsd c;unfold zle;rw [<- decide_eq_true_iff (p := c ∈ zk (opR fD R (zco R))), this];simp [fD]
 have hsl : (zk (zle R)).length <= (zk R).length := zlu (zca (zge hvs)) fun c hc => ((hsm c).1 hc).1;obtain ⟨w1, w2, w3⟩ := wallsR_facts hvo (by omega) n;obtain ⟨z1, z2, z3, _⟩ := zig_facts hve (by omega);have lp : (tc (zej (zle R))).Perm (zk (zle R)) := lines_perm hvs;have hvall : ∀ t ∈ zea R n, zap t = true := fun t ht => by
  rcases List.mem_append.1 ht with ht | ht
  ·rcases List.mem_append.1 ht with ht | ht
   ·exact w1 t ht
   ·exact z1 t ht
  ·exact (lines_valid ht).1
 have e : tc (zea R n) = tc (zgv (zco R) n) ++ tc (zigT (zew (zco R) n)) ++ tc (zej (zle R)) := by rw [zea, zgw, zgw]
 have hnd : (tc (zea R n)).Nodup := by
  rw [e, List.nodup_append, List.nodup_append];refine ⟨⟨w2, z2, fun a ha b hb => ?_⟩, lp.nodup_iff.2 (zca (zge hvs)), fun a ha b hb => ?_⟩
  ·rintro rfl;exact ((w3 a).1 ha).2 ((z3 a).1 hb)
  ·rintro rfl;have h2 := ((hsm a).1 (lp.mem_iff.1 hb)).2;rcases List.mem_append.1 ha with ha | ha
   ·exact h2 ((w3 a).1 ha).1
   ·exact h2 (hes a ((z3 a).1 ha))
 have hmem : ∀ c, c ∈ tc (zea R n) ↔ c ∈ zk R := fun c => by
  rw [e, List.mem_append, List.mem_append, w3, z3, lp.mem_iff, hsm c];constructor
  ·rintro ((⟨h, _⟩ | h) | ⟨h, _⟩)
   ·exact hos c h
   ·exact hos c (hes c h)
   ·exact h
  ·intro h;by_cases q1 : c ∈ zk (zco R)
   ·by_cases q2 : c ∈ zk (zew (zco R) n)
    ·exact .inl (.inr q2)
    ·exact .inl (.inl ⟨q1, q2⟩)
   ·exact .inr ⟨h, q1⟩
 have hp : (tc (zea R n)).Perm (zk R) := (List.perm_ext_iff_of_nodup hnd (zca (zge hv))).2 hmem;have := tracks_le hvall;have := hp.length_eq;exact ⟨hvall, hp, by omega, by omega, by omega, by omega, hvs⟩
theorem fills_cover {R : List Row} (hv : zo R = true) {n : Nat} (h : Fills R n) : ofR (zcr (zea R n)) = R /\ (zck (zea R n)).1 = zea R n := by
 have hc := zlp h.valid;have hall : (tc (zea R n)).all onG = true := List.all_eq_true.2 fun c hc => zeg hv (h.perm.mem_iff.1 hc);refine ⟨?_, once_same h.valid (h.perm.nodup_iff.2 (zca (zge hv)))⟩;rw [hc];unfold ofR;rw [if_pos hall, sortY_cells hv h.perm, zqr hv]

theorem lps_one {S : ze -> Bool} {L0 : List Crk} (h0 : Lps S [L0]) {Ls : List (List Crk)} (h : Lps S Ls) : Ls = [L0] := by
 have each : ∀ L ∈ Ls, L = L0 := fun L hL => by
  obtain ⟨c, n, hc, pc, rfl, lc⟩ := h.each L hL;obtain ⟨L', hL', hcm⟩ := h0.cover c hc;rw [List.mem_singleton.1 hL'] at hcm;obtain ⟨c0, n0, hc0, pc0, e0, lc0⟩ := h0.each L0 (by simp);subst e0;obtain ⟨L2, hL2, hc2⟩ := h.cover c0 hc0;have hback : c0 ∈ orb (suc S) n c := by
   obtain ⟨i, hi, rfl⟩ := zbt.1 hcm;rw [zbt];have hr : itn (suc S) (n0 - i) (itn (suc S) i c0) = c0 := by rw [<- zfs, show i + (n0 - i) = n0 by omega, pc0.ret]
   have hmod : ∀ m, itn (suc S) (m % n) (itn (suc S) i c0) = itn (suc S) m (itn (suc S) i c0) := fun m => by
    induction m using Nat.strongRecOn with
    | ind m ih =>
     by_cases hm : m < n
     ·rw [Nat.mod_eq_of_lt hm]
     ·have h1 := ih (m - n) (by have := pc.pos; omega);have h2 : m = n + (m - n) := by omega
      rw [h2, zfs, pc.ret, <- h1]
      congr 1
      rw [Nat.add_mod_left]
   exact ⟨(n0 - i) % n, Nat.mod_lt _ pc.pos, by rw [hmod, hr]⟩
  have hcc : c = c0 := by
   by_cases e : c = c0
   ·exact e
   ·have h1 := lc0 c hcm e;have h2 := lc c0 hback (fun e' => e e'.symm);exact absurd h2 (zet h1)
  subst hcc;rw [pc.eq pc0]
 have hne : L0 ∈ Ls := by
  obtain ⟨c0, n0, hc0, pc0, e0, _⟩ := h0.each L0 (by simp);obtain ⟨L2, hL2, _⟩ := h.cover c0 hc0
  rwa [<- each L2 hL2]
 match Ls, each, hne, h.sorted with
 | [], _, hne, _ => cases hne
 | [L], each, _, _ => rw [each L (by simp)]
 | L :: M :: t, each, _, hs =>
  have h1 := each L (by simp);have h2 := each M (by simp);have := (List.pairwise_cons.1 hs).1 M (by simp);rw [h1, h2] at this;obtain ⟨c, d, hc, hd, hlt⟩ := this;rw [hc] at hd;cases hd;exact absurd hlt (zms _)

def sqR (x y : Int) (n : Nat) : List Row := (List.range n).map fun i : Nat => ⟨y + i, [⟨x, x + n⟩]⟩
def Q5 : List Row := sqR 0 0 5
def Q5L : List Crk := orb (suc (Sof Q5)) 20 ⟨⟨0, 0⟩, .e⟩
theorem q5_valid : zo Q5 = true := by decide
theorem q5_all : ∀ c ∈ zbk Q5, c ∈ Q5L := by decide +kernel
theorem q5_least : ∀ i, i < 20 -> 0 < i -> itn (suc (Sof Q5)) i ⟨⟨0, 0⟩, .e⟩ ≠ ⟨⟨0, 0⟩, .e⟩ := by decide +kernel
theorem q5_low : ∀ d ∈ Q5L, d ≠ ⟨⟨0, 0⟩, .e⟩ -> d.p.y > 0 \/ d.p.y = 0 /\ d.p.x > 0 := by decide +kernel
theorem q5_lps : Lps (Sof Q5) [Q5L] where
 each := by
  intro L hL;have := List.mem_singleton.1 hL;subst this;refine ⟨⟨⟨0, 0⟩, .e⟩, 20, by decide +kernel, ⟨by omega, by decide +kernel, fun i h1 h2 => q5_least i h2 h1⟩, rfl, fun d hd hne => ?_⟩;have := q5_low d hd hne;unfold zdq;simp only;omega
 cover := fun c hc => ⟨Q5L, by simp, q5_all c ((zcx q5_valid c).2 hc)⟩
 sorted := List.pairwise_singleton ..
theorem q5_walk : (zcm Q5L).length = 16 /\ (zcm Q5L).Nodup /\ zap (zjz Q5L) = true := by decide +kernel
theorem q5_walls : zgv Q5 1 = [zjz Q5L] := by
 have e : zve Q5 = [Q5L] := lps_one q5_lps (zvd q5_valid);have e2 : zgq Q5 1 = [zjz Q5L] := by
  show [] ++ (zve Q5).map zjz = _
  rw [e]; rfl
 unfold zgv;rw [e2];refine once_same (fun t ht => ?_) ?_
 ·rw [List.mem_singleton.1 ht]; exact q5_walk.2.2
 ·have : tc [zjz Q5L] = zcm Q5L := by simp [tc, zjz]
  rw [this]; exact q5_walk.2.1
theorem q5_rest : zew Q5 1 = sqR 1 1 3 := by
 show zkq Q5 1 = _
 decide +kernel
def Q5Z : List ze := [⟨3, 1⟩, ⟨2, 1⟩, ⟨1, 1⟩, ⟨1, 2⟩, ⟨2, 2⟩, ⟨3, 2⟩, ⟨3, 3⟩, ⟨2, 3⟩, ⟨1, 3⟩]
theorem q5_zig : zigT (sqR 1 1 3) = [⟨3, false, Q5Z⟩] := by decide +kernel

theorem r23size_ok (n : Int) (h : -1000000 <= n /\ n <= 1000000) : PC Tryz.prog 241 [.int .i64 n] (.p (.int .i64 (max n (-n)))) := by
 have w := wI (-n);refine pw cx Tryz.func241 Tryz.ntmps241 ?_;refine rg cx ?_;refine rx cx [] (fun K hK => by simp [push_cast, w]; (repeat refine ob ?_); exact hK) ?_;simp [push_cast]
theorem r23nb_ok {a b : ze} (ha : onG a = true) (hb : onG b = true) : PC Tryz.prog 202 [.agg a.row, .agg b.row] (.p (.bool (nbT a b))) := by
 obtain ⟨w1, w2, w3, w4, b1, b2, b3, b4⟩ := wraps ha hb;have hd : zwf a b = max (a.x - b.x) (-(a.x - b.x)) + max (a.y - b.y) (-(a.y - b.y)) := by unfold zwf; omega
 simp only [nbT, hd];have c1 := r23size_ok (a.x - b.x) (by omega);have c2 := r23size_ok (a.y - b.y) (by omega);have k1 : 0 <= max (a.x - b.x) (-(a.x - b.x)) /\ max (a.x - b.x) (-(a.x - b.x)) <= 8192 := by omega
 have k2 : 0 <= max (a.y - b.y) (-(a.y - b.y)) /\ max (a.y - b.y) (-(a.y - b.y)) <= 8192 := by omega
 clear hd;generalize max (a.x - b.x) (-(a.x - b.x)) = m1 at *;generalize max (a.y - b.y) (-(a.y - b.y)) = m2 at *;generalize hn1 : a.x - b.x = n1 at *;generalize hn2 : a.y - b.y = n2 at *;have w6 := wI (m1 + m2);refine pw cx Tryz.func202 Tryz.ntmps202 ?_;refine rg cx ?_;refine rd cx mixed [(5, .p (.int .i64 m1)), (11, .p (.int .i64 m2))] (fun K hK => by simp [push_cast, c1, c2, hn1, hn2, w1, w2, w6]; (repeat refine ob ?_); exact hK) ?_;simp [push_cast]
theorem r23grid_ok (c : ze) : PC Tryz.prog 201 [.agg c.row] (.p (.bool (onG c))) := by
 refine pw cx Tryz.func201 Tryz.ntmps201 ?_;refine rg cx ?_;refine rg cx ?_;simp [push_cast, onG]
set_option maxHeartbeats 1000000 in
theorem r23valid_ok (t : zm) (hl : t.cells.length <= 65536) : PC Tryz.prog 137 [.agg t.row] (.p (.bool (zap t))) := by
 refine pw cx Tryz.func137 Tryz.ntmps137 ?_;refine rx cx [] (fun K hK => by simp [push_cast, zm.row, zai]; (repeat refine ob ?_); exact hK) ?_;refine rx cx [] (fun K hK => by simp [push_cast, zm.row]; (repeat refine ob ?_); exact hK) ?_;refine rx cx [] (fun K hK => by simp [push_cast, zm.row]; (repeat refine ob ?_); exact hK) ?_;refine zd (by simp [push_cast] <;> exact rfl) (fun hb => ?_) (fun hb => ?_) <;> (refine Nav.imp ?_)
 ·refine rg cx ?_;simp [push_cast];simp at hb;have : zhy t = false := by simp [zhy]; omega
  simp [zap, this]
 ·have hr : zhy t = true := by simp at hb; simp [zhy]; omega
  have hne : 1 <= t.cells.length := by simp at hb; omega
  refine rx cx [] (fun K hK => by simp [push_cast, zm.row]; (repeat refine ob ?_); exact hK) ?_;refine zz (β := Nat) (fun k => ⟨72, [(1, .ptr 0 0 0), (3, .d (.int .i64 t.cells.length)), (26, .d (zai t.cells)), (27, .d (.int .i64 t.cells.length)), (28, .d (.int .i64 k))], [(0, some ⟨94, 3, [t.row.map .d]⟩)], 1⟩) (fun k => k <= t.cells.length /\ (List.range k).all (okAt t.cells) = true) (fun k => t.cells.length - k) 0 ?_ ⟨Nat.zero_le _, rfl⟩ ?_
  ·refine wq [(0, some 0)] (by simp [upT, upH, upR, upL, up, push_cast, zm.row])
  ·intro k ⟨hk, hall⟩;refine Nav.imp ?_;refine rg cx ?_;refine awp_cd (decide ((k : Int) < t.cells.length)) (fun hb => ?_) fun hb => ?_
   ·have hlt : k < t.cells.length := by simpa using hb
    obtain ⟨c, hx⟩ : ∃ c, t.cells[k]? = some c := ⟨t.cells[k], List.getElem?_eq_getElem hlt⟩
    obtain ⟨p, hp⟩ : ∃ p, t.cells[k - 1]? = some p := ⟨t.cells[k - 1], List.getElem?_eq_getElem (by omega)⟩
    have c1 := r23grid_ok c;have e0 := wI ((k : Int) + 1);have hok := zri hx hp;refine rx cx [] (fun K hK => by simp [push_cast, hx]; (repeat refine ob ?_); exact hK) ?_;by_cases hc : onG c = true
    ·rw [hc] at c1 hok;by_cases hk0 : k = 0
     ·subst hk0;refine rd cx mixed [(1, .p (.bool true)), (11, .skip), (12, .skip)] (fun K hK => by simp [push_cast, c1]; (repeat refine ob ?_); exact hK) ?_;refine zd (by simp [push_cast] <;> exact rfl) (fun hb => ?_) (fun hb => ?_) <;> (refine Nav.imp ?_)
      ·simp at hb
      ·refine rx cx [] (fun K hK => by simp [push_cast, e0]; (repeat refine ob ?_); exact hK) ?_;refine ⟨1, ⟨hlt, by rw [zbq, hall, hok]; rfl⟩, by omega, ?_⟩;refine wq [(0, some 0)] (by simp [upT, upH, upR, upL, up, push_cast, zm.row])
     ·have e1 := wI ((k : Int) - 1);have e2 : ((k : Int) - 1).toNat = k - 1 := by omega
      have c2 := r23nb_ok (zkk hall (show k - 1 < k by omega) hp) hc;have hk1 : (0 : Int) < k := by omega
      have hk2 : (0 : Int) <= k - 1 := by omega
      have hok' : okAt t.cells k = nbT p c := by rw [hok]; simp [hk0]
      generalize hn : nbT p c = nb at c2 hok';refine rd cx mixed [(1, .p (.bool true)), (14, .p (.bool nb))] (fun K hK => by simp [push_cast, c1, c2, hk1, e1, e2, hp, hk2, zm.row]; (repeat refine ob ?_); exact hK) ?_;have hk3 : 0 < k := by omega
      refine awp_cn (!nb) (by simp [push_cast, hk3]) (fun hb => ?_) fun hb => ?_
      ·simp at hb;refine rg cx ?_;simp [push_cast];simp only [zap, Bool.and_eq_false_iff];exact .inl (.inr (zal hlt (by rw [hok', hb])))
      ·simp at hb;refine rx cx [] (fun K hK => by simp [push_cast, e0]; (repeat refine ob ?_); exact hK) ?_;refine ⟨k + 1, ⟨hlt, by rw [zbq, hall, hok', hb]; rfl⟩, by omega, ?_⟩;refine wq [(0, some 0)] (by simp [upT, upH, upR, upL, up, push_cast, zm.row])
    ·simp at hc;rw [hc] at c1 hok;refine rd cx mixed [(1, .p (.bool false)), (11, .skip), (12, .skip)] (fun K hK => by simp [push_cast, c1]; (repeat refine ob ?_); exact hK) ?_;refine awp_cd true (fun hb => ?_) fun hb => ?_
     ·refine rg cx ?_;simp [push_cast];simp only [zap, Bool.and_eq_false_iff];exact .inl (.inr (zal hlt (by rw [hok]; rfl)))
     ·simp at hb
   ·have hge : k = t.cells.length := by simp at hb; omega
    subst hge;obtain ⟨a, ha⟩ : ∃ c, t.cells[0]? = some c := ⟨t.cells[0], List.getElem?_eq_getElem (by omega)⟩
    obtain ⟨b, hb'⟩ : ∃ c, t.cells[t.cells.length - 1]? = some c := ⟨t.cells[t.cells.length - 1], List.getElem?_eq_getElem (by omega)⟩
    have e1 := wI ((t.cells.length : Int) - 1);have e2 : ((t.cells.length : Int) - 1).toNat = t.cells.length - 1 := by omega
    have hk2 : (0 : Int) <= (t.cells.length : Int) - 1 := by omega
    have c2 := r23nb_ok (zkk hall (by omega) hb') (zkk hall (by omega) ha);have hcl : zma t = (!t.closed || (t.cells.length : Int) == 1 || nbT b a) := by simp only [zma, ha, hb']
    have hv : zap t = zma t := by simp only [zap, hr, hall, Bool.true_and]
    rw [hv, hcl];generalize nbT b a = nb at c2;refine rd cx mixed [(18, .p (.bool nb))] (fun K hK => by simp [push_cast, c2, e1, e2, ha, hb', hk2, zm.row]; (repeat refine ob ?_); exact hK) ?_;simp [push_cast]
theorem r23cells_ok (l : List zm) (hc : ∀ t ∈ l, t.cells.length <= 65536) (hl : l.length <= 100000) (hn : (tc l).length <= 1000000) : PC Tryz.prog 84 [zah l] (.p (zai (zcr l))) := by
 refine pw cx Tryz.func84 Tryz.ntmps84 ?_;iterate 3 refine rg cx ?_
 refine zz (β := Nat × List ze) (fun b => ⟨20, [(3, .hs 0 0 b.2.length), (6, .d (zah l)), (7, .d (.int .i64 l.length)), (8, .d (.int .i64 b.1))], [(0, some ⟨67, 2, dr (b.2.map ze.row)⟩)], 1⟩) (fun b => b.1 <= l.length /\ b.2 = zcr (l.take b.1)) (fun b => l.length - b.1) (0, []) ?_ ⟨Nat.zero_le _, by simp [zcr]⟩ ?_
 ·refine wk [(0, none)]
 ·rintro ⟨k, Z⟩ ⟨hk, hZ⟩;simp only at hk hZ;refine Nav.imp ?_;refine rg cx ?_;refine awp_cd (decide ((k : Int) < l.length)) (fun hb => ?_) fun hb => ?_
  ·have hlt : k < l.length := by simpa using hb
   obtain ⟨t, ht⟩ := zak hlt;have htl := hc t (List.mem_of_getElem? ht);have c1 := r23valid_ok t htl;have hnx := ztu ht;rw [<- hZ] at hnx;have hZl : Z.length <= 1000000 := by rw [hZ]; exact Nat.le_trans (znc hk) hn
   have e0 := wI ((k : Int) + 1);have hb16 : (Z.length + t.cells.length) * 16 <= 140737488355328 := by omega
   generalize zap t = v at *;obtain ⟨ro, cl, ce⟩ := t;simp only at htl hnx hb16;refine rx cx [] (fun K hK => by simp [push_cast, ht, zm.row]; (repeat refine ob ?_); exact hK) ?_;refine rx cx [(1, .p (.bool v))] (fun K hK => by simp [push_cast, c1, zm.row]; (repeat refine ob ?_); exact hK) ?_;refine awp_cd v (fun hb => ?_) fun hb => ?_
   ·rw [if_pos hb] at hnx;refine rx cx [] (fun K hK => by simp [push_cast, hb16, zm.row]; (repeat refine ob ?_); exact hK) ?_;refine rx cx [] (fun K hK => by simp [push_cast, e0]; (repeat refine ob ?_); exact hK) ?_;refine ⟨(k + 1, Z ++ ce), ⟨hlt, hnx.symm⟩, by simp only; omega, ?_⟩;refine wk [(0, some 11)]
   ·have hnx : zcr (l.take (k + 1)) = Z := by rw [hnx, hb]; simp
    refine rx cx [] (fun K hK => by simp [push_cast, e0]; (repeat refine ob ?_); exact hK) ?_;refine ⟨(k + 1, Z), ⟨hlt, hnx.symm⟩, by simp only; omega, ?_⟩;refine wk [(0, some 0)]
  ·have hge : k = l.length := by simp at hb; omega
   subst hge;rw [List.take_length] at hZ;rw [<- hZ];clear hZ;refine zaf 0 (Z.map ze.row) rfl (by simp [push_cast]) fun K hK => ?_;simp [push_cast, St.fz, fzT, fzH, fzO, fz, fzL, fzR, zbc, zat, zas, zaq];refine nx hK ?_; clear hK K;refine rg cx ?_;simp [push_cast]
theorem r23same_ok (t : zm) (hl : t.cells.length <= 65536) : PC Tryz.prog 85 [.agg t.row, .agg t.row] (.p (.bool true)) := by
 obtain ⟨ro, cl, cs⟩ := t;simp only at hl;refine pw cx Tryz.func85 Tryz.ntmps85 ?_;refine rg cx ?_;refine rx cx [] (fun K hK => by simp [push_cast, zm.row]; (repeat refine ob ?_); exact hK) ?_;refine awp_cd false (fun hb => ?_) fun hb => ?_
 ·simp at hb
 ·refine rx cx [] (fun K hK => by simp [push_cast, zm.row]; (repeat refine ob ?_); exact hK) ?_;refine zz (β := Nat) (fun k => ⟨45, [(2, .ptr 0 0 0), (3, .ptr 1 0 0), (29, .d (.int .i64 cs.length)), (30, .d (.int .i64 k))], [(0, some ⟨94, 3, [[.d (.int .i64 ro), .d (.bool cl), .d (zai cs)]]⟩), (1, some ⟨94, 3, [[.d (.int .i64 ro), .d (.bool cl), .d (zai cs)]]⟩)], 2⟩) (fun k => k <= cs.length) (fun k => cs.length - k) 0 ?_ (Nat.zero_le _) ?_
  ·refine wk [(0, some 0), (1, some 1)]
  ·intro k hk;refine Nav.imp ?_;refine rg cx ?_;refine awp_cd (decide ((k : Int) < cs.length)) (fun hb => ?_) fun hb => ?_
   ·have hlt : k < cs.length := by simpa using hb
    obtain ⟨c, hc⟩ := zak hlt;have e0 := wI ((k : Int) + 1);refine rg cx ?_;refine rd cx mixed [] (fun K hK => by simp [push_cast, hc]; (repeat refine ob ?_); exact hK) ?_;refine awp_cd false (fun hb => ?_) fun hb => ?_
    ·simp at hb
    ·refine rx cx [] (fun K hK => by simp [push_cast, e0]; (repeat refine ob ?_); exact hK) ?_;refine ⟨k + 1, hlt, by omega, ?_⟩;refine wk [(0, some 0), (1, some 1)]
   ·refine rg cx ?_;simp [push_cast]
theorem r23sameall_ok (l : List zm) (hc : ∀ t ∈ l, t.cells.length <= 65536) (hl : l.length <= 100000) : PC Tryz.prog 29 [zah l, zah l] (.p (.bool true)) := by
 refine pw cx Tryz.func29 Tryz.ntmps29 ?_;refine rg cx ?_;refine rg cx ?_;refine awp_cd false (fun hb => ?_) fun hb => ?_
 ·simp at hb
 ·refine rg cx ?_;refine zz (β := Nat) (fun k => ⟨27, [(0, .d (zah l)), (1, .d (zah l)), (12, .d (.int .i64 l.length)), (13, .d (.int .i64 k))], [], 0⟩) (fun k => k <= l.length) (fun k => l.length - k) 0 ?_ (Nat.zero_le _) ?_
  ·refine wk []
  ·intro k hk;refine Nav.imp ?_;refine rg cx ?_;refine awp_cd (decide ((k : Int) < l.length)) (fun hb => ?_) fun hb => ?_
   ·have hlt : k < l.length := by simpa using hb
    obtain ⟨t, ht⟩ := zak hlt;have c1 := r23same_ok t (hc t (List.mem_of_getElem? ht));have e0 := wI ((k : Int) + 1);refine rg cx ?_;refine rd cx mixed [(8, .p (.bool true))] (fun K hK => by simp [push_cast, ht, c1]; (repeat refine ob ?_); exact hK) ?_;refine awp_cd false (fun hb => ?_) fun hb => ?_
    ·simp at hb
    ·refine rx cx [] (fun K hK => by simp [push_cast, e0]; (repeat refine ob ?_); exact hK) ?_;refine ⟨k + 1, hlt, by omega, ?_⟩;refine wk []
   ·refine rg cx ?_;simp [push_cast]

def nearTB (R : List Row) : Bool := decide (zkv R <= 200) && decide (-1000 <= (zhk R).x) && decide (-1000 <= (zhk R).y) && decide ((zhl R).x <= 1000) && decide ((zhl R).y <= 1000)
theorem nearby_ok (R : List Row) (hR : zdi R) : PC Tryz.prog 11 [.agg (zt R)] (.p (.bool (nearTB R))) := by
 have c1 := rbox_ok R hR;have c2 := rcount_ok R hR;have hN : nearTB R = (decide (zkv R <= 200) && decide (-1000 <= (zhk R).x) && decide (-1000 <= (zhk R).y) && decide ((zhl R).x <= 1000) && decide ((zhl R).y <= 1000)) := rfl;rw [hN];have hc : decide (zkv R <= 200) = decide ((zkv R : Int) <= 200) := by
  rw [Bool.eq_iff_iff, decide_eq_true_eq, decide_eq_true_eq]; omega
 rw [hc];have hD : boxD R = .tup [.agg (zhk R).row, .agg (zhl R).row, .bool (some? R)] := rfl;rw [hD] at c1;clear hD;generalize ((zkv R : Nat) : Int) = n at *;generalize zhk R = lo at *;generalize zhl R = hi at *;generalize some? R = b at *;clear hc hN;by_cases g1 : n <= 200
 ·by_cases g2 : -1000 <= lo.x
  ·by_cases g3 : -1000 <= lo.y
   ·by_cases g4 : hi.x <= 1000
    ·refine pw cx Tryz.func11 Tryz.ntmps11 ?_;refine rg cx ?_;refine rx cx [(1, .p (.tup [.agg lo.row, .agg hi.row, .bool b]))] (fun K hK => by simp [push_cast, c1]; (repeat refine ob ?_); exact hK) ?_;refine rx cx [(1, .p (.int .i64 n))] (fun K hK => by simp [push_cast, c2, g1, g2, g3, g4]; (repeat refine ob ?_); exact hK) ?_;simp [push_cast, g1, g2, g3, g4]
    ·refine pw cx Tryz.func11 Tryz.ntmps11 ?_;refine rg cx ?_;refine rx cx [(1, .p (.tup [.agg lo.row, .agg hi.row, .bool b]))] (fun K hK => by simp [push_cast, c1]; (repeat refine ob ?_); exact hK) ?_;refine rx cx [(1, .p (.int .i64 n))] (fun K hK => by simp [push_cast, c2, g1, g2, g3, g4]; (repeat refine ob ?_); exact hK) ?_;simp [push_cast, g1, g2, g3, g4]
   ·refine pw cx Tryz.func11 Tryz.ntmps11 ?_;refine rg cx ?_;refine rx cx [(1, .p (.tup [.agg lo.row, .agg hi.row, .bool b]))] (fun K hK => by simp [push_cast, c1]; (repeat refine ob ?_); exact hK) ?_;refine rx cx [(1, .p (.int .i64 n)), (14, .skip), (15, .skip), (16, .skip), (19, .skip), (20, .skip), (21, .skip)] (fun K hK => by simp [push_cast, c2, g1, g2, g3]; (repeat refine ob ?_); exact hK) ?_;simp [push_cast, g1, g2, g3]
  ·refine pw cx Tryz.func11 Tryz.ntmps11 ?_;refine rg cx ?_;refine rx cx [(1, .p (.tup [.agg lo.row, .agg hi.row, .bool b]))] (fun K hK => by simp [push_cast, c1]; (repeat refine ob ?_); exact hK) ?_;refine rx cx [(1, .p (.int .i64 n)), (9, .skip), (10, .skip), (11, .skip), (14, .skip), (15, .skip), (16, .skip), (19, .skip), (20, .skip), (21, .skip)] (fun K hK => by simp [push_cast, c2, g1, g2]; (repeat refine ob ?_); exact hK) ?_;simp [push_cast, g1, g2]
 ·refine pw cx Tryz.func11 Tryz.ntmps11 ?_;refine rg cx ?_;refine rx cx [(1, .p (.tup [.agg lo.row, .agg hi.row, .bool b]))] (fun K hK => by simp [push_cast, c1]; (repeat refine ob ?_); exact hK) ?_;refine rx cx [(1, .p (.int .i64 n)), (4, .skip), (5, .skip), (6, .skip), (9, .skip), (10, .skip), (11, .skip), (14, .skip), (15, .skip), (16, .skip), (19, .skip), (20, .skip), (21, .skip)] (fun K hK => by simp [push_cast, c2, g1]; (repeat refine ob ?_); exact hK) ?_;simp [push_cast, g1]
theorem nearT_cells {R : List Row} (hv : zo R = true) (h : nearTB R = true) : zkv R = (zk R).length /\ (zk R).length <= 200 := by
 have hc : zkv R = (zk R).length := by unfold zkv; rw [if_pos hv]
 unfold nearTB at h;simp only [Bool.and_eq_true, decide_eq_true_eq] at h;omega

theorem run_of {f : Nat} {ds : List D} (h : zgc Tryz.prog (f + 2) 85 ds) : ∃ c : Run, ds = c.row := by
 obtain ⟨hl, hp⟩ := zqj (n := 2) (ts := [3, 3]) Tryz.underlying85 (by kernel_rfl) rfl (by kernel_rfl) h;obtain ⟨d0, r0, e0, h0, hp0⟩ := zmn (by kernel_rfl) hp (by simp_all <;> omega);subst e0;obtain ⟨d1, r1, e1, h1, hp1⟩ := zmn (by kernel_rfl) hp0 (by simp_all <;> omega);subst e1;simp only [zfx] at hp1;subst hp1;obtain ⟨n0, e0, w0⟩ := zvi Tryz.underlying3 h0;cases e0;obtain ⟨n1, e1, w1⟩ := zvi Tryz.underlying3 h1;cases e1;exact ⟨⟨n0, n1⟩, rfl⟩
theorem own : ownKnob Tryz.prog.godebug = none := by kernel_rfl
theorem laidOut : laidOutB Tryz.prog = true := by kernel_rfl
def zeroReg : Value := .agg #[.slice none 0 0]
end Go.Proofs.YtdddknniooimmaaGreat

namespace Go.Proofs.YtdddknniooimmaaGreat
open Go.Abs Go.ChangeShapes Go.WideShapes Go.ChangeAt Go.RowKit

theorem bigT_rows {f : Nat} {d : D} (h : zgc Tryz.prog (f + 5) 22 [d]) : ∃ l : List Row, d = zu l /\ zoq l := by
 obtain ⟨rows, e, hlen, hr⟩ := hasT_slice Tryz.underlying22 h;have hrow : ∀ r ∈ rows, ∃ w : Row, r = w.row /\ w.runs.length <= 9223372036854775807 := fun r hr' => by
  obtain ⟨hl, hp⟩ := zqj (n := 2) (ts := [3, 63]) Tryz.underlying65 (by kernel_rfl) (by kernel_rfl) (by kernel_rfl) (hr r hr');obtain ⟨d0, r0, e0, h0, hp0⟩ := zmn (by kernel_rfl) hp (by omega);subst e0;obtain ⟨d1, r1, e1, h1, hp1⟩ := zmn (by kernel_rfl) hp0 (by simp at hl ⊢; omega);subst e1;simp only [zfx] at hp1;subst hp1;obtain ⟨n, en, _⟩ := zvi Tryz.underlying3 h0;cases en;obtain ⟨rr, er, hrl, hrr⟩ := hasT_slice Tryz.underlying63 h1;cases er;obtain ⟨l, rfl⟩ := rows_of (row := Run.row) fun x hx => run_of (f := f) (hrr x hx);exact ⟨⟨n, l⟩, rfl, by simpa [maxLen] using hrl⟩
 have key : ∀ rows : List (List D), (∀ r ∈ rows, ∃ w : Row, r = w.row /\ w.runs.length <= 9223372036854775807) -> ∃ l : List Row, rows = l.map Row.row /\ ∀ w ∈ l, w.runs.length <= 9223372036854775807 := by
  intro rows;induction rows with
  | nil => intro _; exact ⟨[], rfl, by simp⟩
  | cons r rows ih =>
   intro h;obtain ⟨w, hw, hwl⟩ := h r (by simp);obtain ⟨l, hl, hll⟩ := ih fun x hx => h x (by simp [hx]);exact ⟨w :: l, by rw [hw, hl]; rfl, fun v hv => by rcases List.mem_cons.1 hv with rfl | hv; exact hwl; exact hll v hv⟩
 obtain ⟨l, rfl, hl⟩ := key rows hrow;cases e;exact ⟨l, rfl, by simpa [maxLen] using hlen, hl⟩
theorem bigT_region {f : Nat} {ds : List D} (h : zgc Tryz.prog (f + 6) 24 ds) : ∃ l : List Row, ds = zt l /\ zoq l := by
 obtain ⟨hl, hp⟩ := zqj (n := 1) (ts := [22]) Tryz.underlying24 (by kernel_rfl) (by kernel_rfl) (by kernel_rfl) h;obtain ⟨d0, r0, e0, h0, hp0⟩ := zmn (by kernel_rfl) hp (by omega);subst e0;simp only [zfx] at hp0;subst hp0;obtain ⟨l, rfl, hb⟩ := bigT_rows (f := f) h0;exact ⟨l, rfl, hb⟩
theorem arg_regionT {x : D} (h : hasV Tryz.prog 24 x) : ∃ R : {R : List Row // zoq R}, x = .agg (zt R.1) := by
 unfold hasV at h;rw [Tryz.underlying24] at h;obtain ⟨cs, rfl, h⟩ := h;obtain ⟨l, rfl, hb⟩ := bigT_region (f := 24) h;exact ⟨⟨l, hb⟩, rfl⟩

theorem squareN_ok (x y : Int) (n : Nat) (hx : -100 <= x /\ x <= 100) (hy : -100 <= y /\ y <= 100) (hn : n <= 100) : PC Tryz.prog 46 [.int .i64 x, .int .i64 y, .int .i64 n] (.p (.agg (zt (sqR x y n)))) := by
 have hl : (sqR x y n).length = n := by simp [sqR]
 have htk : ∀ i, i < n -> (sqR x y n).take (i + 1) = (sqR x y n).take i ++ [⟨y + i, [⟨x, x + n⟩]⟩] := fun i h => zbm (by simp [sqR, h]);have htn : (sqR x y n).take n = sqR x y n := List.take_of_length_le (by omega);generalize sqR x y n = R at *;have w4 := wI (x + n);refine pw cx Tryz.func46 Tryz.ntmps46 ?_;iterate 3 refine rg cx ?_
 refine zz (β := Nat × List Row) (fun b => ⟨31, [(0, .d (.int .i64 x)), (1, .d (.int .i64 y)), (2, .d (.int .i64 n)), (6, .ptr 0 0 0), (7, .ptr 1 0 0), (8, .d (.int .i64 b.1))], [(0, some ⟨24, 1, [[.nl]]⟩), (1, some ⟨24, 1, [[.hs 2 0 b.2.length]]⟩), (2, some ⟨65, 2, dr (b.2.map Row.row)⟩)], 3⟩) (fun b => b.1 <= n /\ b.2 = R.take b.1) (fun b => n - b.1) (0, []) ?_ ⟨Nat.zero_le _, by simp⟩ ?_
 ·refine wk [(0, some 0), (1, some 2), (2, none)]
 ·rintro ⟨i, out⟩ ⟨hi, hout⟩;simp only at hi hout;refine Nav.imp ?_;refine rg cx ?_;refine awp_cd (decide ((i : Int) < n)) (fun hb => ?_) fun hb => ?_
  ·have hil : i < n := by simp at hb; omega
   have k1 := wI ((i : Int) + 1);have k2 := wI (y + (i : Int));have hol : out.length <= 100 := by rw [hout, List.length_take]; omega
   have h32 : (out.length + 1) * 32 <= 140737488355328 := by omega
   have hnx := htk i hil;rw [<- hout] at hnx;refine rx cx [(10, .f (.sl [[.int .i64 x, .int .i64 (x + n)]]))] (fun K hK => by simp [push_cast, k2, w4, h32, Row.row, Run.row]; (repeat refine ob ?_); exact hK) ?_;refine rx cx [] (fun K hK => by simp [push_cast, k1]; (repeat refine ob ?_); exact hK) ?_;refine ⟨(i + 1, out ++ [⟨y + i, [⟨x, x + n⟩]⟩]), ⟨hil, hnx.symm⟩, by simp only; omega, ?_⟩;refine wq [(0, some 0), (1, some 1), (2, some 19)] (by simp [upT, upH, upR, upL, up, push_cast, Row.row, Run.row])
  ·have hie : i = n := by simp at hb; omega
   rw [hie, htn] at hout;subst hout;refine zaf 2 (out.map Row.row) rfl (by simp [push_cast]) fun K hK => ?_;simp [push_cast, St.fz, fzT, fzH, fzO, fz, fzL, fzR, zbc, zat, zas, zaq];refine nx hK ?_; clear hK K;refine rg cx ?_;simp [push_cast]
theorem cellsTop_ok (l : List zm) (hc : ∀ t ∈ l, t.cells.length <= 65536) (hl : l.length <= 100000) (hn : (tc l).length <= 1000000) : PC Tryz.prog 28 [zah l] (.p (.int .i64 (zcr l).length)) := by
 have c1 := r23cells_ok l hc hl hn;refine pw cx Tryz.func28 Tryz.ntmps28 ?_;refine rg cx ?_;refine rx cx [(1, .p (zai (zcr l)))] (fun K hK => by simp [push_cast, c1]; (repeat refine ob ?_); exact hK) ?_;simp [push_cast]
theorem filled_ok : PC Tryz.prog 20 [] (.p (.bool true)) := by
 have c1 := squareN_ok 0 0 5 (by omega) (by omega) (by omega);have c2 := walls_ok Q5 q5_valid (by decide) 1 (by omega) (by omega);rw [show (1 : Int).toNat = 1 from rfl, q5_walls, q5_rest] at c2;have c3 := zigzag_ok (sqR 1 1 3) (by decide) (by decide);rw [q5_zig] at c3;have c4 := squareN_ok 1 1 3 (by omega) (by omega) (by omega);have c5 := rsame_ok (sqR 1 1 3) (sqR 1 1 3) ⟨by decide, by decide⟩;simp only [decide_true] at c5;have c1 : PC Tryz.prog 46 [.int .i64 0, .int .i64 0, .int .i64 5] (.p (.agg (zt Q5))) := c1;have c4 : PC Tryz.prog 46 [.int .i64 1, .int .i64 1, .int .i64 3] (.p (.agg (zt (sqR 1 1 3)))) := c4;have h16 := q5_walk.1;have h9 : Q5Z.length = 9 := rfl;unfold zjz at c2;generalize zcm Q5L = W at *;generalize Q5Z = Z at *;generalize Q5 = R at *;generalize sqR 1 1 3 = S at *;refine pw cx Tryz.func20 Tryz.ntmps20 ?_;refine rg cx ?_;refine rx cx [(0, .p (.agg (zt R))), (1, .p (.tup [zah [⟨1, true, W⟩], .agg (zt S)]))] (fun K hK => by simp [push_cast, c1, c2]; (repeat refine ob ?_); exact hK) ?_;refine rx cx [(1, .p (zah [⟨3, false, Z⟩]))] (fun K hK => by simp [push_cast, c3]; (repeat refine ob ?_); exact hK) ?_;refine rd cx mixed [(13, .p (.agg (zt S))), (14, .p (.bool true))] (fun K hK => by simp [push_cast, c4, c5, h16, h9]; (repeat refine ob ?_); exact hK) ?_;simp [push_cast]
set_option maxHeartbeats 16000000 in
theorem topfills_ok (R : List Row) (n : Int) (hR : zoq R) (hnl : -9223372036854775808 <= n /\ n < 9223372036854775808) : PC Tryz.prog 4 [.agg (zt R), .int .i64 n] (.p (.bool true)) := by
 have c0 := filled_ok;have c1 := zss R hR;cases hv : zo R with
 | false =>
  rw [hv] at c1;refine pw cx Tryz.func4 Tryz.ntmps4 ?_;refine rg cx ?_;refine rx cx [(1, .p (.bool false)), (5, .skip)] (fun K hK => by simp [push_cast, c1]; (repeat refine ob ?_); exact hK) ?_;refine awp_cd true (fun hb => ?_) fun hb => ?_
  ·refine rx cx [(0, .p (.bool true))] (fun K hK => by simp [push_cast, c0]; (repeat refine ob ?_); exact hK) ?_;simp [push_cast]
  ·simp at hb
 | true =>
  have hs := zce hv;have c2 := nearby_ok R hs;rw [hv] at c1;cases hn : nearTB R with
  | false =>
   rw [hn] at c2;refine pw cx Tryz.func4 Tryz.ntmps4 ?_;refine rg cx ?_;refine rx cx [(1, .p (.bool true)), (5, .p (.bool false))] (fun K hK => by simp [push_cast, c1, c2]; (repeat refine ob ?_); exact hK) ?_;refine awp_cd true (fun hb => ?_) fun hb => ?_
   ·refine rx cx [(0, .p (.bool true))] (fun K hK => by simp [push_cast, c0]; (repeat refine ob ?_); exact hK) ?_;simp [push_cast]
   ·simp at hb
  | true =>
   rw [hn] at c2;by_cases h8 : 8 < n
   ·refine pw cx Tryz.func4 Tryz.ntmps4 ?_;refine rg cx ?_;refine rx cx [(1, .p (.bool true)), (5, .p (.bool true))] (fun K hK => by simp [push_cast, c1, c2, h8]; (repeat refine ob ?_); exact hK) ?_;refine awp_cn true (by simp [push_cast, h8]) (fun hb => ?_) fun hb => ?_
    ·refine rx cx [(0, .p (.bool true))] (fun K hK => by simp [push_cast, c0]; (repeat refine ob ?_); exact hK) ?_;simp [push_cast]
    ·simp at hb
   ·obtain ⟨hcv, hcc⟩ := nearT_cells hv hn;have ff := fills_facts hv hcc n.toNat;obtain ⟨fc, fo⟩ := fills_cover hv ff;have c3 := split_ok R hR;have c4 := walls_ok (zco R) (znv R) (by have := ff.open'; omega) n (by omega) hnl.1;have c5 := zigzag_ok (zew (zco R) n.toNat) (zig (znv R) _) (by have := ff.rest; omega);have c6 := lines_ok (zle R) (zce ff.slimV) (fun _ => by have := ff.slim; omega);have hfl := ff.few;have hcl : ∀ t ∈ zea R n.toNat, t.cells.length <= 65536 := fun t ht => (zgh (ff.valid t ht)).2.1.2;have hpl := ff.perm.length_eq;have hol := once_len (zea R n.toNat);have c7 := once_ok (zea R n.toNat) hcl (by omega) (fun k => by have := (hol k).1; omega) (fun k => by have := (hol k).2; omega);rw [fo] at c7;have c8 := cover_ok (zea R n.toNat) hcl (by omega) (by omega);rw [fc] at c8;have c9 := rsame_ok R R hs;simp only [decide_true] at c9;have c10 := cellsTop_ok (zea R n.toNat) hcl (by omega) (by omega);rw [zlp ff.valid, hpl] at c10;have c11 := rcount_ok R hs;rw [hcv] at c11;have c12 := r23sameall_ok (zea R n.toNat) hcl (by omega);have hT : zea R n.toNat = zgv (zco R) n.toNat ++ zigT (zew (zco R) n.toNat) ++ zej (zle R) := rfl;have hlT : (zgv (zco R) n.toNat).length + (zigT (zew (zco R) n.toNat)).length + (zej (zle R)).length <= 200 := by
     rw [hT, List.length_append, List.length_append] at hfl; exact hfl
    have c3 : PC Tryz.prog 21 [.agg (zt R)] (.p (.tup [.agg (zt (zco R)), .agg (zt (zle R))])) := c3;clear ff fc fo hpl hol hcl;generalize zea R n.toNat = T at *;generalize zgv (zco R) n.toNat = T1 at *;generalize zew (zco R) n.toNat = X at *;generalize zigT X = T2 at *;generalize zco R = A at *;generalize zle R = B at *;generalize zej B = T3 at *;generalize (zk R).length = nc at *;have k1 : T1.length * 40 <= 140737488355328 := by omega
    have k2 : (T1.length + T2.length) * 40 <= 140737488355328 := by omega
    have k3 : (T1.length + T2.length + T3.length) * 40 <= 140737488355328 := by omega
    obtain ⟨T12, hT12⟩ : ∃ T12, T12 = T1 ++ T2 := ⟨_, rfl⟩
    have hl12 : T12.length = T1.length + T2.length := by rw [hT12, List.length_append]
    rw [<- hT12] at hT;rw [<- hl12] at k3;refine pw cx Tryz.func4 Tryz.ntmps4 ?_;refine rg cx ?_;refine rx cx [(1, .p (.bool true)), (5, .p (.bool true))] (fun K hK => by simp [push_cast, c1, c2, h8]; (repeat refine ob ?_); exact hK) ?_;refine awp_cn false (by simp [push_cast, h8]) (fun hb => ?_) fun hb => ?_
    ·simp at hb
    ·refine rx cx [(1, .p (.tup [.agg (zt A), .agg (zt B)]))] (fun K hK => by simp [push_cast, c3]; (repeat refine ob ?_); exact hK) ?_;refine rx cx [(2, .p (.tup [zah T1, .agg (zt X)]))] (fun K hK => by simp [push_cast, c4]; (repeat refine ob ?_); exact hK) ?_;refine rg cx ?_;refine zby (s' := ⟨67, [(2, .ptr 0 0 0), (6, .ptr 1 0 0), (7, .d (zah T1)), (8, .ptr 2 0 0), (9, .hs 3 0 0)], [(0, some ⟨24, 1, [[.d (zu R)]]⟩), (1, some ⟨24, 1, [[.d (zu B)]]⟩), (2, some ⟨24, 1, [[.d (zu X)]]⟩), (3, some ⟨94, 3, dr (([] : List zm).map zm.row)⟩)], 4⟩) ?_ ?_
     ·refine wk [(0, some 0), (1, some 20), (2, some 29), (3, none)]
     refine rx cx [] (fun K hK => by simp [push_cast, k1]; (repeat refine ob ?_); exact hK) ?_;refine rx cx [(2, .p (zah T2))] (fun K hK => by simp [push_cast, c5, k2]; (repeat refine ob ?_); exact hK) ?_;refine zby (s' := ⟨67, [(2, .ptr 0 0 0), (6, .ptr 1 0 0), (9, .hs 3 0 T12.length)], [(0, some ⟨24, 1, [[.d (zu R)]]⟩), (1, some ⟨24, 1, [[.d (zu B)]]⟩), (3, some ⟨94, 3, dr (T12.map zm.row)⟩)], 4⟩) ?_ ?_
     ·refine wq [(0, some 0), (1, some 1), (3, some 11)] (by simp [upT, upH, upR, upL, up, push_cast, hT12])
     refine rx cx [(2, .p (zah T3))] (fun K hK => by simp [push_cast, c6, k3]; (repeat refine ob ?_); exact hK) ?_;refine zby (s' := ⟨67, [(2, .ptr 0 0 0), (9, .hs 3 0 T.length)], [(0, some ⟨24, 1, [[.d (zu R)]]⟩), (3, some ⟨94, 3, dr (T.map zm.row)⟩)], 4⟩) ?_ ?_
     ·refine wq [(0, some 0), (3, some 7)] (by simp [upT, upH, upR, upL, up, push_cast, hT])
     refine zaf 3 (T.map zm.row) rfl (by simp [push_cast]) fun K hK => ?_;simp [push_cast, St.fz, fzT, fzH, fzO, fz, fzL, fzR, zbc, zat, zas, zaq];refine nx hK ?_; clear hK K;clear hT hT12 hl12 k1 k2 k3;refine rx cx [(1, .p (zah T))] (fun K hK => by simp [push_cast, c7]; (repeat refine ob ?_); exact hK) ?_;refine rd cx mixed [(1, .p (.agg (zt R))), (3, .p (.bool true)), (6, .p (.int .i64 nc)), (8, .p (.int .i64 nc)), (14, .p (.bool true)), (17, .p (.bool true))] (fun K hK => by simp [push_cast, c8, c9, c10, c11, c12, c0]; (repeat refine ob ?_); exact hK) ?_;simp [push_cast]
end Go.Proofs.YtdddknniooimmaaGreat
