/-
  Texts of this seat put together: RW2, BW6, BW7, BW8, U1, BW14, BK8, RW3.
-/
import Derived.Test.YtdddknniooimmaaGreatJF13
import Derived.Test.YtdddknniooimmaaGreatJF10
import Derived.Test.YtdddknniooimmaaGreatJF6
import Derived.Test.YtdddknniooimmaaGreatJF12
import Derived.Test.YtdddknniooimmaaGreatJF7
set_option linter.unusedVariables false
set_option linter.unusedSimpArgs false
set_option maxRecDepth 100000
namespace Go.Proofs.YtdddknniooimmaaGreat
open Go.Abs

instance nav_label [Flag] {P : Program} {Q : Exit -> St -> Prop} {s : St} {l : Nat} {Y : Prop} [h : Nav (Q .normal s) Y] : Nav (AWp P (.label l) Q s) Y := ⟨fun k => awp_label (h.imp k)⟩
theorem adC_len (out : List ze) (c : ze) : (adC out c).length <= out.length + 1 := by
 unfold adC; split <;> simp
theorem edgeF_len (out : List ze) (p : ze) (h : Hd) : ∀ k, (zwb out p h k).length <= out.length + k
 | 0 => Nat.le_refl _
 | k + 1 => by
  have h1 := edgeF_len out p h k;have h2 := adC_len (zwb out p h k) (zae h (mv p h k));simp only [zwb]; omega
theorem turnF_len (out : List ze) (h h' : Hd) (q : ze) : (zhp out h h' q).length <= out.length + 1 := by
 unfold zhp;split
 ·exact adC_len ..
 ·omega
theorem mv_vec (a : ze) (h : Hd) (k : Int) : mv a h (k + 1) = ⟨(mv a h k).x + (vec h).x, (mv a h k).y + (vec h).y⟩ := by
 cases h <;> simp [mv, vec] <;> omega
theorem lcell_vec (q : ze) (h : Hd) : zae h q = ⟨(zae h ⟨q.x - (vec h).x, q.y - (vec h).y⟩).x + (vec h).x, (zae h ⟨q.x - (vec h).x, q.y - (vec h).y⟩).y + (vec h).y⟩ := by
 obtain ⟨x, y⟩ := q;cases h <;> simp [zae, vec] <;> omega
theorem vec_bd (h : Hd) : (-1 <= (vec h).x /\ (vec h).x <= 1) /\ -1 <= (vec h).y /\ (vec h).y <= 1 := by cases h <;> simp [vec]
theorem vec_cross {h k : Hd} (hp : Perp h k) : (-1 <= (vec h).x * (vec k).y /\ (vec h).x * (vec k).y <= 1) /\ (-1 <= (vec h).y * (vec k).x /\ (vec h).y * (vec k).x <= 1) /\ (vec h).x * (vec k).y - (vec h).y * (vec k).x = if k = h.r then -1 else 1 := by
 rcases hp with rfl | rfl <;> cases h <;> simp [vec, Hd.l, Hd.r]
theorem lcell_bd (h : Hd) (p : ze) (b : Int) (hp : (-b <= p.x /\ p.x <= b) /\ -b <= p.y /\ p.y <= b) : (-(b + 1) <= (zae h p).x /\ (zae h p).x <= b + 1) /\ -(b + 1) <= (zae h p).y /\ (zae h p).y <= b + 1 := by
 cases h <;> simp only [zae] <;> omega
theorem mv_between {a : ze} {h : Hd} {j k : Int} (h0 : 0 <= j) (hjk : j <= k) {b : Int} (ha : (-b <= a.x /\ a.x <= b) /\ -b <= a.y /\ a.y <= b) (hk : (-b <= (mv a h k).x /\ (mv a h k).x <= b) /\ -b <= (mv a h k).y /\ (mv a h k).y <= b) : (-b <= (mv a h j).x /\ (mv a h j).x <= b) /\ -b <= (mv a h j).y /\ (mv a h j).y <= b := by
 cases h <;> simp only [mv] at * <;> omega
theorem mv_ne (a : ze) (h : Hd) {j k : Int} (hne : j ≠ k) : (((mv a h j).x == (mv a h k).x) && ((mv a h j).y == (mv a h k).y)) = false := by
 cases h <;> simp [mv] <;> omega
set_option maxHeartbeats 16000000 in
theorem rwalk_ok (c : Crk) (K : List Crk) (hch : cAll ((c :: K) ++ [c])) (hn : (c :: K).length <= 10000) (hf : ∀ x ∈ c :: K, (-4200 <= x.p.x /\ x.p.x <= 4200) /\ -4200 <= x.p.y /\ x.p.y <= 4200) : PC Tryz.prog 127 [zai ((c :: K).map (·.p))] (.p (zai (zvr (vF ((c :: K) ++ [c]) [])))) := by
 obtain ⟨_, hn4⟩ := chain_even hch;have hrel := fun (k : Nat) (a b : Crk) (ha : (c :: K)[k]? = some a) (hb : (c :: K)[(k + 1) % (c :: K).length]? = some b) => chain_cyc hch ha hb;have hdrop : ∀ (i : Nat) (a b : Crk), (c :: K)[i]? = some a -> (c :: K)[(i + 1) % (c :: K).length]? = some b -> ∀ out, vF (((c :: K) ++ [c]).drop i) out = vF (((c :: K) ++ [c]).drop (i + 1)) (zhp (zwb out a.p a.h (dst a.p b.p)) a.h b.h b.p) := fun i a b ha hb out => by
  have hil := (List.getElem?_eq_some_iff.1 ha).1;obtain ⟨g1, g2⟩ := cyc_getC (p := c) (P := K) (k := i) (by simpa using hil);rw [<- g1] at ha;rw [<- g2] at hb;obtain ⟨h1, e1⟩ := List.getElem?_eq_some_iff.1 ha;obtain ⟨h2, e2⟩ := List.getElem?_eq_some_iff.1 hb;rw [List.drop_eq_getElem_cons h1, List.drop_eq_getElem_cons h2, e1, e2];rfl
 have hend : ∀ out, vF (((c :: K) ++ [c]).drop (c :: K).length) out = out := fun out => by
  rw [List.drop_left];rfl
 have h00 : ((c :: K) ++ [c]).drop 0 = (c :: K) ++ [c] := rfl;obtain ⟨b1, hb1⟩ := zak (l := c :: K) (k := 1) (by omega);have hr0 := hrel 0 c b1 rfl (by rw [Nat.mod_eq_of_lt (by omega)]; exact hb1);generalize hR : vF ((c :: K) ++ [c]) [] = R at *;rw [<- h00] at hR;generalize hW : (c :: K) ++ [c] = W at *;have hc0 : (c :: K)[0]? = some c := rfl;generalize c :: K = V at *;clear hch h00 hW;have hP : ∀ (i : Nat) (a : Crk), V[i]? = some a -> (V.map (·.p))[i]? = some a.p := fun i a h => by rw [List.getElem?_map, h]; rfl
 have hPl : (V.map (·.p)).length = V.length := List.length_map ..;generalize V.map (·.p) = P at *;have p0 := hP 0 c hc0;have p1 := hP 1 b1 hb1;have c1 := zwg c.p b1.p (by have := hf c (List.mem_of_getElem? hc0); omega) (by have := hf b1 (List.mem_of_getElem? hb1); omega);obtain ⟨⟨k0, hk0, ek0⟩, _⟩ := hr0;rw [ek0, dir_vec _ _ _ hk0, <- ek0] at c1;refine pw cx Tryz.func127 Tryz.ntmps127 ?_;refine rg cx ?_;refine rg cx ?_;refine rd cx mixed [] (fun K hK => by simp [push_cast, p0]; (repeat refine ob ?_); exact hK) ?_;refine rd cx mixed [(6, .p (.agg (vec c.h).row))] (fun K hK => by simp [push_cast, p0, p1, c1]; (repeat refine ob ?_); exact hK) ?_;refine zz (β := Nat × Crk × List ze) (fun s => ⟨127, [(0, .d (zai P)), (3, .hs 2 0 s.2.2.length), (4, .d (.int .i64 s.1)), (5, .ptr 0 0 0), (6, .ptr 1 0 0)], [(0, some ⟨58, 2, [s.2.1.p.row.map .d]⟩), (1, some ⟨58, 2, [(vec s.2.1.h).row.map .d]⟩), (2, some ⟨67, 2, dr (s.2.2.map ze.row)⟩)], 3⟩) (fun s => V[s.1]? = some s.2.1 /\ vF (W.drop s.1) s.2.2 = R /\ s.2.2.length <= 20000 * s.1) (fun s => V.length - s.1) (0, c, []) ?_ ⟨hc0, hR, by simp⟩ ?_
 ·refine wk [(0, some 5), (1, some 15), (2, none)]
 ·rintro ⟨i, a, out⟩ ⟨hVa, hvF, hol⟩;simp only at hVa hvF hol;have hil := (List.getElem?_eq_some_iff.1 hVa).1;have ha0 := hf a (List.mem_of_getElem? hVa);obtain ⟨b, hVb⟩ := zak (l := V) (k := (i + 1) % V.length) (Nat.mod_lt _ (by omega));obtain ⟨d2, hVd⟩ := zak (l := V) (k := ((i + 1) % V.length + 1) % V.length) (Nat.mod_lt _ (by omega));have hb0 := hf b (List.mem_of_getElem? hVb);have hd0 := hf d2 (List.mem_of_getElem? hVd);obtain ⟨⟨ka, hka, eka⟩, hperp⟩ := hrel i a b hVa hVb;obtain ⟨⟨kb, hkb, ekb⟩, _⟩ := hrel _ b d2 hVb hVd;have hPb := hP _ b hVb;have hPd := hP _ d2 hVd;have hstep := hdrop i a b hVa hVb out;rw [hvF] at hstep;have c2 := zwg b.p d2.p (by omega) (by omega);rw [ekb, dir_vec _ _ _ hkb, <- ekb] at c2;obtain ⟨kn, rfl⟩ : ∃ kn : Nat, ka = kn := ⟨ka.toNat, by omega⟩
  have hkn : kn <= 10000 := by
   have e := eka;obtain ⟨ap, ah⟩ := a;cases ah <;> (simp only [mv] at e; rw [e] at hb0; simp only at hb0 ha0; omega)
  rw [eka, dst_mv] at hstep;have e1 := wI ((i : Int) + 1);have e2 := wI ((i : Int) + 1 + 1);have e3 : ((i : Int) + 1).tmod (P.length : Int) = (((i + 1) % V.length : Nat) : Int) := by rw [hPl]; exact (Int.ofNat_tmod _ _).symm
  have e4 : ¬ P = [] := by intro e; rw [e] at hPl; simp at hPl; omega
  have e5 : ((i : Int) + 1 + 1).tmod (P.length : Int) = ((((i + 1) % V.length + 1) % V.length : Nat) : Int) := by
   rw [hPl];have : (((i + 1) % V.length + 1) % V.length) = (i + 1 + 1) % V.length := by rw [Nat.add_mod, Nat.mod_mod, <- Nat.add_mod]
   rw [this];exact (Int.ofNat_tmod _ _).symm
  have hbv := vec_bd a.h;have hh := vec_cross hperp;have hL := fun q hq => rleft_ok q hq a.h;have hmv := fun k : Int => mv_vec a.p a.h k;have hne := fun (j : Nat) (h : j < kn) => mv_ne a.p a.h (j := j) (k := kn) (by omega);have hbt := fun (j : Nat) (h : j <= kn) => mv_between (a := a.p) (h := a.h) (j := j) (k := kn) (by omega) (by omega) (b := 4200) ha0 (by rw [<- eka]; exact hb0);have hlv := lcell_vec (mv a.p a.h kn) a.h;have hm0 : mv a.p a.h ((0 : Nat) : Int) = a.p := mv_zero ..;refine Nav.imp ?_;refine zz (β := Nat × ze × List ze) (fun s => ⟨127, [(0, .d (zai P)), (3, .hs 2 0 s.2.2.length), (4, .d (.int .i64 i)), (5, .ptr 0 0 0), (6, .ptr 1 0 0)], [(0, some ⟨58, 2, [s.2.1.row.map .d]⟩), (1, some ⟨58, 2, [(vec a.h).row.map .d]⟩), (2, some ⟨67, 2, dr (s.2.2.map ze.row)⟩)], 3⟩) (fun s => s.1 <= kn /\ s.2.1 = mv a.p a.h s.1 /\ s.2.2 = zwb out a.p a.h s.1) (fun s => kn - s.1) (0, a.p, out) ?_ ⟨Nat.zero_le _, hm0.symm, rfl⟩ ?_
  ·refine wk [(0, some 0), (1, some 1), (2, some 2)]
  ·rintro ⟨j, p, O⟩ ⟨hj, hp, hO⟩;simp only at hj hp hO;have hbj := hbt j hj;rw [<- hp] at hbj;have hOl := edgeF_len out a.p a.h j;rw [<- hO] at hOl;refine Nav.imp ?_;by_cases hjk : j = kn
   ·subst hjk;have hpb : p = b.p := hp.trans eka.symm;rw [<- eka, <- hpb] at hlv;rw [<- hp] at hstep;rw [<- hpb] at hPb c2;clear hne hbt hmv hm0 hp eka;have c3 := hL ⟨p.x - (vec a.h).x, p.y - (vec a.h).y⟩ (by unfold farC; simp only; omega);have hlb := lcell_bd a.h ⟨p.x - (vec a.h).x, p.y - (vec a.h).y⟩ 5000 (by simp only; omega);rw [<- hO] at hstep;have hTl := turnF_len O a.h b.h p;have hT : zhp O a.h b.h p = if b.h = a.h.r then adC O (zae a.h p) else O := rfl
    have hnext : i + 1 < V.length -> V[i + 1]? = some b := fun h => by rw [Nat.mod_eq_of_lt h] at hVb; exact hVb
    clear hVb hVd hrel hdrop hL;generalize hj1 : (i + 1) % V.length = j1 at *;generalize (j1 + 1) % V.length = j2 at *;generalize zae a.h ⟨p.x - (vec a.h).x, p.y - (vec a.h).y⟩ = lc at *;rw [hlv] at hT;generalize zhp O a.h b.h p = T at *;obtain ⟨⟨m1, m2⟩, ⟨m3, m4⟩, hcr⟩ := hh;generalize hnv : vec b.h = nv at *;generalize hdv : vec a.h = dv at *;obtain ⟨px, py⟩ := p;obtain ⟨dx, dy⟩ := dv;obtain ⟨nxx, ny⟩ := nv;simp only at m1 m2 m3 m4 hcr hbv c3 hlb hT hbj;have hbx : b.p.x = px := by rw [<- hpb]
    have hby : b.p.y = py := by rw [<- hpb]
    have w1 := wI (dx * ny);have w2 := wI (dy * nxx);have w3 := wI (dx * ny - dy * nxx);have w4 := wI (px - dx);have w5 := wI (py - dy);have w6 := wI (lc.x + dx);have w7 := wI (lc.y + dy);refine rd cx mixed [] (fun K hK => by simp [push_cast, e1, e3, e4, hPb]; (repeat refine ob ?_); exact hK) ?_;refine awp_cd false (fun hb => ?_) fun hb => ?_
    ·simp at hb
    ·refine rx cx [] (fun K hK => by simp [push_cast, e1]; (repeat refine ob ?_); exact hK) ?_;refine rd cx mixed [(15, .p (.agg [.int .i64 nxx, .int .i64 ny]))] (fun K hK => by simp [push_cast, e1, e2, e3, e4, e5, hPb, hPd, c2]; (repeat refine ob ?_); exact hK) ?_;refine rx cx [] (fun K hK => by simp [push_cast, w1, w2, w3]; (repeat refine ob ?_); exact hK) ?_;apply cut_
     ·intro key;by_cases hr : b.h = a.h.r
      ·rw [if_pos hr] at hT hcr;have c4 := radd_px O ⟨lc.x + dx, lc.y + dy⟩ (by omega);rw [<- hT] at c4;refine awp_cn true (by simp [push_cast, hcr]) (fun hb => ?_) fun hb => ?_
       ·refine rx cx [(12, .p (.agg lc.row))] (fun K hK => by simp [push_cast, c3, w4, w5]; (repeat refine ob ?_); exact hK) ?_;refine rx cx [(12, .x ⟨[(0, 2)], [.hs 0 0 O.length, .d (.agg [.int .i64 (lc.x + dx), .int .i64 (lc.y + dy)])], [(0, ⟨67, 2, dr (O.map ze.row)⟩)], [], some 1, [(1, ⟨67, 2, dr (T.map ze.row)⟩)], .hs 1 0 T.length⟩)] (fun K hK => by simp [push_cast, c4, w6, w7]; (repeat refine ob ?_); exact hK) ?_;refine zby (s' := ⟨127, [(0, .d (zai P)), (3, .hs 2 0 T.length), (4, .d (.int .i64 ((i : Int) + 1))), (5, .ptr 0 0 0), (6, .ptr 1 0 0), (7, .ptr 3 0 0)], [(0, some ⟨58, 2, [[.d (.int .i64 px), .d (.int .i64 py)]]⟩), (1, some ⟨58, 2, [[.d (.int .i64 dx), .d (.int .i64 dy)]]⟩), (2, some ⟨67, 2, dr (T.map ze.row)⟩), (3, some ⟨58, 2, [[.d (.int .i64 nxx), .d (.int .i64 ny)]]⟩)], 4⟩) ?_ key.h;refine wk [(0, some 0), (1, some 1), (2, some 73), (3, some 32)]
       ·simp at hb
      ·rw [if_neg hr] at hT hcr;refine awp_cn false (by simp [push_cast, hcr]) (fun hb => ?_) fun hb => ?_
       ·simp at hb
       ·refine zby (s' := ⟨127, [(0, .d (zai P)), (3, .hs 2 0 T.length), (4, .d (.int .i64 ((i : Int) + 1))), (5, .ptr 0 0 0), (6, .ptr 1 0 0), (7, .ptr 3 0 0)], [(0, some ⟨58, 2, [[.d (.int .i64 px), .d (.int .i64 py)]]⟩), (1, some ⟨58, 2, [[.d (.int .i64 dx), .d (.int .i64 dy)]]⟩), (2, some ⟨67, 2, dr (T.map ze.row)⟩), (3, some ⟨58, 2, [[.d (.int .i64 nxx), .d (.int .i64 ny)]]⟩)], 4⟩) ?_ key.h;rw [hT];refine wk [(0, some 0), (1, some 1), (2, some 2), (3, some 32)]
     ·refine Nav.imp ?_;refine rg cx ?_;by_cases hlast : i + 1 = V.length
      ·have q1 : (i : Int) + 1 = (P.length : Int) := by rw [hPl]; omega
       rw [hlast, hend] at hstep;refine rx cx [] (fun K hK => by simp [push_cast, q1]; (repeat refine ob ?_); exact hK) ?_;refine awp_cn true (by simp [push_cast, q1]) (fun hb => ?_) fun hb => ?_
       ·subst hstep;clear hR hf hc0 hP hend hb1 p0 p1 c1 hvF hVa hpb hnext;refine bq_y rfl ?_;refine Nav.imp ?_;have hTl2 : R.length <= 1000000000 := by omega
        clear hTl hOl hol;by_cases g1 : 1 < R.length
        ·obtain ⟨m, hm⟩ : ∃ m, R.length = m + 1 := ⟨R.length - 1, by omega⟩
         obtain ⟨x, hx⟩ := zak (l := R) (k := 0) (by omega);obtain ⟨y, hy⟩ := zak (l := R) (k := m) (by omega);have q2 : (1 : Int) < (R.length : Int) := by omega
         have q3 := wI ((R.length : Int) - 1);have q4 : ((R.length : Int) - 1).toNat = m := by omega
         have q5 : (0 : Int) <= (R.length : Int) - 1 := by omega
         have q6 : (R.length : Int) - 1 < (R.length : Int) := by omega
         have q7 : (R.length : Int) - 1 <= (R.length : Int) := by omega
         have hhd : R.head? = some x := by rw [List.head?_eq_getElem?]; exact hx
         have hlt : R.getLast? = some y := by rw [List.getLast?_eq_getElem?, hm]; exact hy
         by_cases hxy : x = y
         ·have hfin : zvr R = R.take m := by
           unfold zvr;rw [if_pos ⟨g1, by rw [hhd, hlt, hxy]⟩, List.dropLast_eq_take, hm];rfl
          rw [hfin];subst hxy;clear hhd hlt hfin;refine rd cx mixed [] (fun K hK => by simp [push_cast, hx, hy, q2, q3, q4, q5, q6, g1]; (repeat refine ob ?_); exact hK) ?_;refine awp_cn true (by simp [push_cast, g1, q2]) (fun hb => ?_) fun hb => ?_
          ·refine rx cx [] (fun K hK => by simp [push_cast, q3, q4, q5, q7]; (repeat refine ob ?_); exact hK) ?_;have q8 : m <= R.length := by omega
           refine zaf 2 (R.map ze.row) rfl (by simp [push_cast, q4, q8]) fun K hK => ?_;simp [push_cast, St.fz, fzT, fzH, fzO, fz, fzL, fzR, zbc, zat, zas, zaq, q4, q8];refine nx hK ?_; clear hK K;refine rx cx [] (fun K hK => by simp [push_cast, q8]; (repeat refine ob ?_); exact hK) ?_;simp [push_cast, q8]
          ·simp at hb
         ·have hfin : zvr R = R := by
           unfold zvr;rw [if_neg fun h => hxy (by have := h.2; rw [hhd, hlt] at this; injection this)]
          rw [hfin];obtain ⟨x1, x2⟩ := x;obtain ⟨y1, y2⟩ := y;have q9 : ¬ (x1 = y1 /\ x2 = y2) := fun h => hxy (by rw [h.1, h.2]);have q10 : ((x1 == y1) && (x2 == y2)) = false := by
           cases h : ((x1 == y1) && (x2 == y2)) with
           | false => rfl
           | true => simp at h; exact absurd h q9
          clear hhd hlt hfin;refine rd cx mixed [] (fun K hK => by simp [push_cast, hx, hy, q2, q3, q4, q5, q6, g1, q9, q10]; (repeat refine ob ?_); exact hK) ?_;refine awp_cn false (by simp [push_cast, g1, q2, q9, q10]) (fun hb => ?_) fun hb => ?_
          ·simp at hb
          ·refine zaf 2 (R.map ze.row) rfl (by simp [push_cast]) fun K hK => ?_;simp [push_cast, St.fz, fzT, fzH, fzO, fz, fzL, fzR, zbc, zat, zas, zaq];refine nx hK ?_; clear hK K;refine rg cx ?_;simp [push_cast]
        ·have hfin : zvr R = R := by
          unfold zvr;rw [if_neg fun h => g1 h.1]
         rw [hfin];have q2 : ¬ (1 : Int) < (R.length : Int) := by omega
         refine rd cx mixed [(4, .skip), (5, .skip), (6, .skip), (7, .skip), (8, .skip), (9, .skip), (10, .skip), (11, .skip), (12, .skip), (13, .skip)] (fun K hK => by simp [push_cast, g1, q2]; (repeat refine ob ?_); exact hK) ?_;refine awp_cn false (by simp [push_cast, g1, q2]) (fun hb => ?_) fun hb => ?_
         ·simp at hb
         ·refine zaf 2 (R.map ze.row) rfl (by simp [push_cast]) fun K hK => ?_;simp [push_cast, St.fz, fzT, fzH, fzO, fz, fzL, fzR, zbc, zat, zas, zaq];refine nx hK ?_; clear hK K;refine rg cx ?_;simp [push_cast]
       ·simp at hb
      ·have q1 : ¬ (i : Int) + 1 = (P.length : Int) := by rw [hPl]; omega
       refine rx cx [] (fun K hK => by simp [push_cast, q1]; (repeat refine ob ?_); exact hK) ?_;refine awp_cn false (by simp [push_cast, q1]) (fun hb => ?_) fun hb => ?_
       ·simp at hb
       ·refine ⟨(i + 1, b, T), ⟨hnext (by omega), hstep.symm, by simp only; omega⟩, by simp only; omega, ?_⟩;refine wq [(0, some 0), (1, some 1), (2, some 2)] (by simp [upT, upH, upR, upL, up, push_cast, hnv, hbx, hby])
   ·have hjl : j < kn := by omega
    have hq := hne j hjl;rw [<- hp, <- eka] at hq;have hq2 : ¬ (p.x = b.p.x /\ p.y = b.p.y) := fun h => by rw [h.1, h.2] at hq; simp at hq
    have c3 := hL p (by omega);have hnx : zwb out a.p a.h (j + 1) = adC O (zae a.h p) := by rw [hp, hO]; rfl
    have c4 := radd_px O (zae a.h p) (by omega);have hm := hmv j;rw [<- hp] at hm;have hcast : ((j + 1 : Nat) : Int) = (j : Int) + 1 := by omega
    generalize adC O (zae a.h p) = O2 at *;generalize zae a.h p = lc at *;clear hne hbt hmv hlv hh hdrop hrel hstep hL c2;generalize hdv : vec a.h = dv at *;generalize hj1 : (i + 1) % V.length = j1 at *;obtain ⟨px, py⟩ := p;obtain ⟨dx, dy⟩ := dv;simp only at hq hq2 hbj hbv hm;have w1 := wI (px + dx);have w2 := wI (py + dy);refine rd cx mixed [] (fun K hK => by simp [push_cast, e1, e3, e4, hPb, hq, hq2]; (repeat refine ob ?_); exact hK) ?_;refine awp_cn true (by simp [push_cast, hq, hq2]) (fun hb => ?_) fun hb => ?_
    ·refine rx cx [(3, .p (.agg lc.row)), (4, .x ⟨[(0, 2)], [.hs 0 0 O.length, .d (.agg lc.row)], [(0, ⟨67, 2, dr (O.map ze.row)⟩)], [], some 1, [(1, ⟨67, 2, dr (O2.map ze.row)⟩)], .hs 1 0 O2.length⟩)] (fun K hK => by simp [push_cast, c3, c4]; (repeat refine ob ?_); exact hK) ?_;refine rx cx [] (fun K hK => by simp [push_cast, w1, w2]; (repeat refine ob ?_); exact hK) ?_;refine ⟨(j + 1, ⟨px + dx, py + dy⟩, O2), ⟨hjl, ?_, hnx.symm⟩, by simp only; omega, ?_⟩
     ·rw [hcast]; exact hm.symm
     ·refine wk [(0, some 0), (1, some 1), (2, some 17)]
    ·simp at hb
end Go.Proofs.YtdddknniooimmaaGreat

namespace Go.Proofs.YtdddknniooimmaaGreat
open Go.Abs Go.Shelf

theorem zuw {n : Nat} {tm : List (Nat × AV)} {nxt : Nat} {e m : Nat} {H : List (Nat × Option Ob)} {S : List (List (List D))} (h : (H.all fun x => Nat.blt x.1 1000000) = true) : ∀ j, (⟨n, tm, H ++ dyn e m 0 S, nxt⟩ : St).obj (1000000 + j) = (S[j]?).map fun r => (⟨e, m, dr r⟩ : Ob) := by
 intro j;simp only [St.obj];rw [zw, zmx h (by omega), Option.none_or, zbf];cases S[j]? <;> rfl
theorem mdata_kl (A : List (ze × List Hd)) : mdata (kl A) = zei A := by simp [mdata, kl, zmh]
theorem runs_bd {l : List Run} (h : zel l = true) : ∀ r ∈ l, -4096 <= r.a /\ r.a < r.b /\ r.b <= 4096 := fun r hr => by
 obtain ⟨_, ha, hb⟩ := zdl.1 h;have := hb r hr;exact ⟨this.1, ha.1 r hr, this.2⟩
theorem sub_in {l b : List Run} (h : zel l = true) (hb : zar b = true) : zfm (sweep fD l b) /\ ∀ r ∈ sweep fD l b, -4096 <= r.a /\ r.b <= 4096 := by
 obtain ⟨h1, h2⟩ := zdt (f := fD) rfl (zhg h) hb;refine ⟨h1, zeq h1 fun y hy => ?_⟩;rw [h2] at hy;simp only [fD, Bool.and_eq_true] at hy;obtain ⟨r, hr, h3, h4⟩ := zbe.1 hy.1;have := runs_bd h r hr;omega
theorem sub_bd {l b : List Run} (h : zel l = true) (hb : zar b = true) : ∀ r ∈ sweep fD l b, -4096 <= r.a /\ r.a < r.b /\ r.b <= 4096 := fun r hr => by
 obtain ⟨h1, h2⟩ := sub_in h hb;have := h2 r hr;exact ⟨this.1, h1.1 r hr, this.2⟩
theorem sub_len {l b : List Run} (h : zel l = true) (hb : zar b = true) : (sweep fD l b).length <= 1000000 := by
 obtain ⟨h1, h2⟩ := sub_in h hb;have := zrz h1 h2;omega
theorem rowOf_len3 {R : List Row} (hR : zdi R) (y : Int) : (zab R y).length <= 1000000 := by
 unfold zab;cases hf : R.find? (fun w => decide (w.y = y)) with
 | none => simp
 | some w => exact hR.2 w (List.mem_of_find?_eq_some hf)
set_option maxHeartbeats 64000000 in
theorem collect_px (R : List Row) (hv : zo R = true) (hR : zdi R) (hbig : (zbk R).length <= 10000000) : PX Tryz.prog 86 [.d (.agg (zt R))] [] [] [(0, ⟨118, mapM, dr (zei (addAll [] (zbk R)))⟩)] (.hm 0) := by
 have hl := hR.1;obtain ⟨full, hfull⟩ : ∃ full, full = zbk R := ⟨_, rfl⟩
 rw [<- hfull] at hbig ⊢;have hrow : ∀ i w, R[i]? = some w -> (R.drop i).flatMap (zkf R) = zkf R w ++ (R.drop (i + 1)).flatMap (zkf R) := fun i w h => by rw [zgd h, List.flatMap_cons]
 have hk0 : (kl []).length <= 100000000 := by simp [kl]
 refine zbv cx (fn := Tryz.f86) (c := _) 0 Tryz.func86 rfl rfl (lB rfl) rfl rfl fun Ls => ?_;rw [Tryz.ntmps86]; refine Nav.imp ?_;iterate 3 refine rg cx ?_
 refine zz (β := Nat × List (ze × List Hd)) (fun s => ⟨106, [(1, .ptr 0 0 0), (3, .hm 1), (18, .d (zu R)), (19, .d (.int .i64 R.length)), (20, .d (.int .i64 s.1))], (1, some ⟨118, mapM, zax (zaw (kl (s.2)).length) (kl (s.2))⟩) :: [(0, some ⟨24, 1, [[.d (zu R)]]⟩)] ++ dyn 178 1 0 (SA (kl (s.2))), 1000000000000⟩) (fun s => s.1 <= R.length /\ Acc full s.2 ((R.drop s.1).flatMap (zkf R))) (fun s => R.length - s.1) (0, []) ?_ ⟨Nat.zero_le _, ⟨[], rfl, by simp [hfull, zbk]⟩⟩ ?_
 ·refine zbw (A := kl []) [(0, some 0), (1, some 2)] (zaw (kl []).length) [(0, some ⟨24, 1, [[.d (zu R)]]⟩)] 1 2 rfl rfl rfl (by omega) (zy _) rfl ?_ rfl ?_ ?_ ?_ ?_ (zba _) ?_ ?_
  ·simp [upT, up, upL, push_cast, zw, zx]
  ·simp [push_cast, zag, zax, kl, zaw]
  ·simp [upH, upR, upL, up, push_cast, zw, zag, zx]
  ·simp [zg, push_cast]
  ·simp [zp]
  ·intro x hx; simp [kl, zaw] at hx
  ·intro q x p hx hp1; simp [kl] at hp1
 ·rintro ⟨i, A⟩ ⟨hi, hacc⟩;simp only at hi hacc;have ga := hacc.good hbig;refine Nav.imp ?_;refine rg cx ?_;refine awp_cd (decide ((i : Int) < R.length)) (fun hb => ?_) fun hb => ?_
  ·have hlt : i < R.length := by simpa using hb
   obtain ⟨w, hw⟩ := zak hlt;have c1 := around_ok R i w hv hR hw;have e0 := wI ((i : Int) + 1);obtain ⟨hy, hfw⟩ := zcq hv hw;have hB := zed hv (w.y - 1);have hU := zed hv (w.y + 1);have hBl : (zab R (w.y - 1)).length <= 1000000 := rowOf_len3 hR _;have hUl : (zab R (w.y + 1)).length <= 1000000 := rowOf_len3 hR _;have hwl := hR.2 w (List.mem_of_getElem? hw);have c2 := zpk w.runs _ hwl hBl (zhg hfw) hB;have c3 := zpk w.runs _ hwl hUl (zhg hfw) hU;have hL1 := sub_bd hfw hB;have hL2 := sub_bd hfw hU;have hrs := runs_bd hfw;have hR1 := zkf R w;rw [hrow i w hw] at hacc;generalize hT3 : (R.drop (i + 1)).flatMap (zkf R) = T3 at hacc;unfold zkf at hacc;simp only [List.append_assoc] at hacc;have hLl1 := sub_len hfw hB;have hLl2 := sub_len hfw hU;clear hrow;obtain ⟨y, rs⟩ := w;simp only at *;generalize zab R (y - 1) = B at *;generalize zab R (y + 1) = U at *;generalize sweep fD rs B = L1 at *;generalize sweep fD rs U = L2 at *;refine rx cx [] (fun K hK => by simp [push_cast, hw]; (repeat refine ob ?_); exact hK) ?_;refine rx cx [(2, .p (.tup [zn B, zn U]))] (fun K hK => by simp [push_cast, c1]; (repeat refine ob ?_); exact hK) ?_;refine rx cx [(3, .p (zn L1))] (fun K hK => by simp [push_cast, c2]; (repeat refine ob ?_); exact hK) ?_;have hL := hL1;generalize hT : L2.flatMap (zuc y) ++ (rs.flatMap (vRun y) ++ T3) = T at hacc;refine zz (β := Nat × List (ze × List Hd)) (fun s => ⟨106, [(1, .ptr 0 0 0), (3, .hm 1), (18, .d (zu R)), (19, .d (.int .i64 R.length)), (20, .d (.int .i64 i)), (5, .ptr 2 0 0), (7, .d (zn U)), (34, .d (zn L1)), (35, .d (.int .i64 L1.length)), (36, .d (.int .i64 s.1))], (1, some ⟨118, mapM, zax (zaw (kl (s.2)).length) (kl (s.2))⟩) :: [(0, some ⟨24, 1, [[.d (zu R)]]⟩), (2, some ⟨65, 2, [[.d (.int .i64 y), .d (zn rs)]]⟩)] ++ dyn 178 1 0 (SA (kl (s.2))), 1000000000000⟩) (fun s => s.1 <= L1.length /\ Acc full s.2 ((L1.drop s.1).flatMap (eRun y) ++ T)) (fun s => L1.length - s.1) (0, A) ?_ ⟨Nat.zero_le _, by simpa using hacc⟩ ?_
   ·refine zbw (A := kl (A)) [(0, some 0), (1, some 1), (2, some 1000000000004)] (zaw (kl (A)).length) [(0, some ⟨24, 1, [[.d (zu R)]]⟩), (2, some ⟨65, 2, [[.d (.int .i64 y), .d (zn rs)]]⟩)] 1 1 rfl rfl rfl (by have := ga.2.1; omega) (zy _) rfl ?_ rfl ?_ ?_ ?_ ?_ (zba _) ?_ ?_
    ·simp [upT, up, upL, push_cast, zw, zx]
    ·simp [push_cast, zag]
    ·simp [upH, upR, upL, up, push_cast, zw, zag, zx]
    ·simp [zg, push_cast]
    ·simp [zp]
    ·intro x hx; have h1 := zbj.1 hx; have := ga.2.1; simp [zp]; omega
    ·intro q x p hx hp1; obtain ⟨hq, rfl⟩ := zbb hx; have := ga.2.1;have hz := fun (e m : Nat) => zdy (e := e) (m := m) hp1;simp [push_cast, zbf, hz]
     repeat rw [if_neg (by omega)]
     try rfl
   ·rintro ⟨k, A⟩ ⟨hk, hacc⟩;simp only at hk hacc;have gk := hacc.good hbig;refine Nav.imp ?_;refine rg cx ?_;refine awp_cd (decide ((k : Int) < L1.length)) (fun hb => ?_) fun hb => ?_
    ·have hlt : k < L1.length := by simpa using hb
     obtain ⟨r, hr⟩ := zak hlt;have hrb := hL r (List.mem_of_getElem? hr);have e0 := wI ((k : Int) + 1);rw [zgd hr, List.flatMap_cons, List.append_assoc] at hacc;refine rx cx [] (fun K hK => by simp [push_cast, hr]; (repeat refine ob ?_); exact hK) ?_;refine rg cx ?_;generalize hT1 : (L1.drop (k + 1)).flatMap (eRun y) ++ T = T1 at hacc;refine zz (β := Nat × List (ze × List Hd)) (fun s => ⟨106, [(1, .ptr 0 0 0), (3, .hm 1), (18, .d (zu R)), (19, .d (.int .i64 R.length)), (20, .d (.int .i64 i)), (5, .ptr 2 0 0), (7, .d (zn U)), (34, .d (zn L1)), (35, .d (.int .i64 L1.length)), (36, .d (.int .i64 k)), (9, .ptr 3 0 0), (10, .d (.int .i64 (r.a + s.1)))], (1, some ⟨118, mapM, zax (zaw (kl (s.2)).length) (kl (s.2))⟩) :: [(0, some ⟨24, 1, [[.d (zu R)]]⟩), (2, some ⟨65, 2, [[.d (.int .i64 y), .d (zn rs)]]⟩), (3, some ⟨85, 2, [[.d (.int .i64 r.a), .d (.int .i64 r.b)]]⟩)] ++ dyn 178 1 0 (SA (kl (s.2))), 1000000000000⟩) (fun s => s.1 <= (r.b - r.a).toNat /\ Acc full s.2 ((eRun y r).drop s.1 ++ T1)) (fun s => (r.b - r.a).toNat - s.1) (0, A) ?_ ⟨Nat.zero_le _, by simpa using hacc⟩ ?_
     ·simp only [Int.natCast_zero, Int.add_zero];refine zbw (A := kl (A)) [(0, some 0), (1, some 1), (2, some 2), (3, some 1000000000003)] (zaw (kl (A)).length) [(0, some ⟨24, 1, [[.d (zu R)]]⟩), (2, some ⟨65, 2, [[.d (.int .i64 y), .d (zn rs)]]⟩), (3, some ⟨85, 2, [[.d (.int .i64 r.a), .d (.int .i64 r.b)]]⟩)] 1 1 rfl rfl rfl (by have := gk.2.1; omega) (zy _) rfl ?_ rfl ?_ ?_ ?_ ?_ (zba _) ?_ ?_
      ·simp [upT, up, upL, push_cast, zw, zx]
      ·simp [push_cast, zag]
      ·simp [upH, upR, upL, up, push_cast, zw, zag, zx]
      ·simp [zg, push_cast]
      ·simp [zp]
      ·intro x hx; have h1 := zbj.1 hx; have := gk.2.1; simp [zp]; omega
      ·intro q x p hx hp1; obtain ⟨hq, rfl⟩ := zbb hx; have := gk.2.1;have hz := fun (e m : Nat) => zdy (e := e) (m := m) hp1;simp [push_cast, zbf, hz]
       repeat rw [if_neg (by omega)]
       try rfl
     ·rintro ⟨j, A⟩ ⟨hj, hacc⟩;simp only at hj hacc;have gj := hacc.good hbig;refine Nav.imp ?_;refine rg cx ?_;refine awp_cd (decide (r.a + (j : Int) < r.b)) (fun hb => ?_) fun hb => ?_
      ·have hjl : j < (r.b - r.a).toNat := by simp at hb; omega
       rw [eRun_drop y r hjl, List.cons_append] at hacc;have hacc2 := hacc.next;have gjn := (hacc2.good hbig).2.1;have e1 := wI (r.a + (j : Int) + 1)

       refine zhm cx [] [_, _, _, _, _] _ rfl rfl rfl rfl ⟨106, [(48, .hm 1), (52, .d (.agg (⟨⟨r.a + (j : Int), y⟩, .e⟩ : Crk).p.row)), (1, .ptr 0 0 0), (3, .hm 1), (18, .d (zu R)), (19, .d (.int .i64 R.length)), (20, .d (.int .i64 i)), (5, .ptr 2 0 0), (7, .d (zn U)), (34, .d (zn L1)), (35, .d (.int .i64 L1.length)), (36, .d (.int .i64 k)), (9, .ptr 3 0 0), (10, .d (.int .i64 (r.a + j)))], (1, some ⟨118, mapM, zax (zaw (kl (A)).length) (kl (A))⟩) :: [(0, some ⟨24, 1, [[.d (zu R)]]⟩), (2, some ⟨65, 2, [[.d (.int .i64 y), .d (zn rs)]]⟩), (3, some ⟨85, 2, [[.d (.int .i64 r.a), .d (.int .i64 r.b)]]⟩)] ++ dyn 178 1 0 (SA (kl (A))), 1000000000000⟩ 138 [] rfl [.hm 0, .d (.agg (⟨⟨r.a + (j : Int), y⟩, .e⟩ : Crk).p.row), .d (.int .i64 0)] (kl (A)) (kl (zex (A) (⟨⟨r.a + (j : Int), y⟩, .e⟩ : Crk))) 1 rfl (by decide) (zuw rfl) (Nat.le_refl _) (add_px (A) (⟨⟨r.a + (j : Int), y⟩, .e⟩ : Crk) gj.1 gj.2.2) (by have := gj.2.1; omega) (by have := gjn; omega) (by simp [zey, rn, push_cast]) (lB rfl) [(0, some 0), (1, some 1), (2, some 2), (3, some 3)] [(1, .ptr 0 0 0), (3, .hm 1), (18, .d (zu R)), (19, .d (.int .i64 R.length)), (20, .d (.int .i64 i)), (5, .ptr 2 0 0), (7, .d (zn U)), (34, .d (zn L1)), (35, .d (.int .i64 L1.length)), (36, .d (.int .i64 k)), (9, .ptr 3 0 0), (10, .d (.int .i64 (r.a + j)))] [(0, some ⟨24, 1, [[.d (zu R)]]⟩), (2, some ⟨65, 2, [[.d (.int .i64 y), .d (zn rs)]]⟩), (3, some ⟨85, 2, [[.d (.int .i64 r.a), .d (.int .i64 r.b)]]⟩)] rfl rfl rfl rfl (by intro k hk h; simp only [find] at h; (repeat' split at h) <;> simp_all) rfl ?_ ?_ ?_ ?_ ?_ ?_
       ·simp [upT, up, upL, push_cast, zw, zx]
       ·simp [upH, upR, upL, up, push_cast, zw, zag, zx]
       ·simp [zg, push_cast]
       ·simp [zp]
       ·intro K hK;simp [push_cast];refine hK _ ?_;refine zbw (A := kl (A)) [(0, some 0), (1, some 1), (2, some 2), (3, some 3)] (zaw (kl (A)).length) [(0, some ⟨24, 1, [[.d (zu R)]]⟩), (2, some ⟨65, 2, [[.d (.int .i64 y), .d (zn rs)]]⟩), (3, some ⟨85, 2, [[.d (.int .i64 r.a), .d (.int .i64 r.b)]]⟩)] 1 1 rfl rfl rfl (by have := gj.2.1; omega) (zy _) rfl ?_ rfl ?_ ?_ ?_ ?_ (zba _) ?_ ?_
        ·simp [upT, up, upL, push_cast, zw, zx]
        ·simp [push_cast, zag]
        ·simp [upH, upR, upL, up, push_cast, zw, zag, zx]
        ·simp [zg, push_cast]
        ·simp [zp]
        ·intro x hx; have h1 := zbj.1 hx; have := gj.2.1; simp [zp]; omega
        ·intro q x p hx hp1; obtain ⟨hq, rfl⟩ := zbb hx; have := gj.2.1;have hz := fun (e m : Nat) => zdy (e := e) (m := m) hp1;simp [push_cast, zbf, hz]
         repeat rw [if_neg (by omega)]
         try rfl
       ·refine Nav.imp ?_;refine rx cx [] (fun K hK => by simp [push_cast, e1]; (repeat refine ob ?_); exact hK) ?_;refine ⟨(j + 1, zex A (⟨⟨r.a + (j : Int), y⟩, .e⟩ : Crk)), ⟨hjl, hacc2⟩, by simp only; omega, ?_⟩;have e2 : r.a + ((j + 1 : Nat) : Int) = r.a + (j : Int) + 1 := by omega
        simp only [e2];refine zbw (A := kl (zex A (⟨⟨r.a + (j : Int), y⟩, .e⟩ : Crk))) [(0, some 0), (1, some 1), (2, some 2), (3, some 3)] (zaw (kl (zex A (⟨⟨r.a + (j : Int), y⟩, .e⟩ : Crk))).length) [(0, some ⟨24, 1, [[.d (zu R)]]⟩), (2, some ⟨65, 2, [[.d (.int .i64 y), .d (zn rs)]]⟩), (3, some ⟨85, 2, [[.d (.int .i64 r.a), .d (.int .i64 r.b)]]⟩)] 1 1 rfl rfl rfl (by have := gjn; omega) (zy _) rfl ?_ rfl ?_ ?_ ?_ ?_ (zba _) ?_ ?_
        ·simp [upT, up, upL, push_cast, zw, zx]
        ·simp [push_cast, zag]
        ·simp [upH, upR, upL, up, push_cast, zw, zag, zx]
        ·simp [zg, push_cast]
        ·simp [zp]
        ·intro x hx; have h1 := zbj.1 hx; have := gjn; simp [zp]; omega
        ·intro q x p hx hp1; obtain ⟨hq, rfl⟩ := zbb hx; have := gjn;have hz := fun (e m : Nat) => zdy (e := e) (m := m) hp1;simp [push_cast, zbf, hz]
         repeat rw [if_neg (by omega)]
         try rfl
      ·have hje : (r.b - r.a).toNat <= j := by simp at hb; omega
       rw [eRun_end y r hje, List.nil_append, <- hT1] at hacc;refine rx cx [] (fun K hK => by simp [push_cast, e0]; (repeat refine ob ?_); exact hK) ?_;refine ⟨(k + 1, A), ⟨hlt, hacc⟩, by simp only; omega, ?_⟩;refine zbw (A := kl (A)) [(0, some 0), (1, some 1), (2, some 2)] (zaw (kl (A)).length) [(0, some ⟨24, 1, [[.d (zu R)]]⟩), (2, some ⟨65, 2, [[.d (.int .i64 y), .d (zn rs)]]⟩)] 1 1 rfl rfl rfl (by have := gj.2.1; omega) (zy _) rfl ?_ rfl ?_ ?_ ?_ ?_ (zba _) ?_ ?_
       ·simp [upT, up, upL, push_cast, zw, zx]
       ·simp [push_cast, zag]
       ·simp [upH, upR, upL, up, push_cast, zw, zag, zx]
       ·simp [zg, push_cast]
       ·simp [zp]
       ·intro x hx; have h1 := zbj.1 hx; have := gj.2.1; simp [zp]; omega
       ·intro q x p hx hp1; obtain ⟨hq, rfl⟩ := zbb hx; have := gj.2.1;have hz := fun (e m : Nat) => zdy (e := e) (m := m) hp1;simp [push_cast, zbf, hz]
        repeat rw [if_neg (by omega)]
        try rfl
    ·have hke : k = L1.length := by simp at hb; omega
     subst hke;rw [List.drop_length, List.flatMap_nil, List.nil_append] at hacc;rw [<- hT] at hacc;have ga := hacc.good hbig;have hL := hL2;clear hT;generalize hT : rs.flatMap (vRun y) ++ T3 = T at hacc;refine rx cx [(3, .p (zn L2))] (fun K hK => by simp [push_cast, c3]; (repeat refine ob ?_); exact hK) ?_;refine zz (β := Nat × List (ze × List Hd)) (fun s => ⟨106, [(1, .ptr 0 0 0), (3, .hm 1), (18, .d (zu R)), (19, .d (.int .i64 R.length)), (20, .d (.int .i64 i)), (5, .ptr 2 0 0), (58, .d (zn L2)), (59, .d (.int .i64 L2.length)), (60, .d (.int .i64 s.1))], (1, some ⟨118, mapM, zax (zaw (kl (s.2)).length) (kl (s.2))⟩) :: [(0, some ⟨24, 1, [[.d (zu R)]]⟩), (2, some ⟨65, 2, [[.d (.int .i64 y), .d (zn rs)]]⟩)] ++ dyn 178 1 0 (SA (kl (s.2))), 1000000000000⟩) (fun s => s.1 <= L2.length /\ Acc full s.2 ((L2.drop s.1).flatMap (zuc y) ++ T)) (fun s => L2.length - s.1) (0, A) ?_ ⟨Nat.zero_le _, by simpa using hacc⟩ ?_
     ·refine zbw (A := kl (A)) [(0, some 0), (1, some 1), (2, some 2)] (zaw (kl (A)).length) [(0, some ⟨24, 1, [[.d (zu R)]]⟩), (2, some ⟨65, 2, [[.d (.int .i64 y), .d (zn rs)]]⟩)] 1 1 rfl rfl rfl (by have := ga.2.1; omega) (zy _) rfl ?_ rfl ?_ ?_ ?_ ?_ (zba _) ?_ ?_
      ·simp [upT, up, upL, push_cast, zw, zx]
      ·simp [push_cast, zag]
      ·simp [upH, upR, upL, up, push_cast, zw, zag, zx]
      ·simp [zg, push_cast]
      ·simp [zp]
      ·intro x hx; have h1 := zbj.1 hx; have := ga.2.1; simp [zp]; omega
      ·intro q x p hx hp1; obtain ⟨hq, rfl⟩ := zbb hx; have := ga.2.1;have hz := fun (e m : Nat) => zdy (e := e) (m := m) hp1;simp [push_cast, zbf, hz]
       repeat rw [if_neg (by omega)]
       try rfl
     ·rintro ⟨k, A⟩ ⟨hk, hacc⟩;simp only at hk hacc;have gk := hacc.good hbig;refine Nav.imp ?_;refine rg cx ?_;refine awp_cd (decide ((k : Int) < L2.length)) (fun hb => ?_) fun hb => ?_
      ·have hlt : k < L2.length := by simpa using hb
       obtain ⟨r, hr⟩ := zak hlt;have hrb := hL r (List.mem_of_getElem? hr);have e0 := wI ((k : Int) + 1);rw [zgd hr, List.flatMap_cons, List.append_assoc] at hacc;refine rx cx [] (fun K hK => by simp [push_cast, hr]; (repeat refine ob ?_); exact hK) ?_;refine rg cx ?_;generalize hT1 : (L2.drop (k + 1)).flatMap (zuc y) ++ T = T1 at hacc;refine zz (β := Nat × List (ze × List Hd)) (fun s => ⟨106, [(1, .ptr 0 0 0), (3, .hm 1), (18, .d (zu R)), (19, .d (.int .i64 R.length)), (20, .d (.int .i64 i)), (5, .ptr 2 0 0), (58, .d (zn L2)), (59, .d (.int .i64 L2.length)), (60, .d (.int .i64 k)), (12, .ptr 3 0 0), (13, .d (.int .i64 (r.a + s.1)))], (1, some ⟨118, mapM, zax (zaw (kl (s.2)).length) (kl (s.2))⟩) :: [(0, some ⟨24, 1, [[.d (zu R)]]⟩), (2, some ⟨65, 2, [[.d (.int .i64 y), .d (zn rs)]]⟩), (3, some ⟨85, 2, [[.d (.int .i64 r.a), .d (.int .i64 r.b)]]⟩)] ++ dyn 178 1 0 (SA (kl (s.2))), 1000000000000⟩) (fun s => s.1 <= (r.b - r.a).toNat /\ Acc full s.2 ((zuc y r).drop s.1 ++ T1)) (fun s => (r.b - r.a).toNat - s.1) (0, A) ?_ ⟨Nat.zero_le _, by simpa using hacc⟩ ?_
       ·simp only [Int.natCast_zero, Int.add_zero];refine zbw (A := kl (A)) [(0, some 0), (1, some 1), (2, some 2), (3, some 1000000000003)] (zaw (kl (A)).length) [(0, some ⟨24, 1, [[.d (zu R)]]⟩), (2, some ⟨65, 2, [[.d (.int .i64 y), .d (zn rs)]]⟩), (3, some ⟨85, 2, [[.d (.int .i64 r.a), .d (.int .i64 r.b)]]⟩)] 1 1 rfl rfl rfl (by have := gk.2.1; omega) (zy _) rfl ?_ rfl ?_ ?_ ?_ ?_ (zba _) ?_ ?_
        ·simp [upT, up, upL, push_cast, zw, zx]
        ·simp [push_cast, zag]
        ·simp [upH, upR, upL, up, push_cast, zw, zag, zx]
        ·simp [zg, push_cast]
        ·simp [zp]
        ·intro x hx; have h1 := zbj.1 hx; have := gk.2.1; simp [zp]; omega
        ·intro q x p hx hp1; obtain ⟨hq, rfl⟩ := zbb hx; have := gk.2.1;have hz := fun (e m : Nat) => zdy (e := e) (m := m) hp1;simp [push_cast, zbf, hz]
         repeat rw [if_neg (by omega)]
         try rfl
       ·rintro ⟨j, A⟩ ⟨hj, hacc⟩;simp only at hj hacc;have gj := hacc.good hbig;refine Nav.imp ?_;refine rg cx ?_;refine awp_cd (decide (r.a + (j : Int) < r.b)) (fun hb => ?_) fun hb => ?_
        ·have hjl : j < (r.b - r.a).toNat := by simp at hb; omega
         rw [wRun_drop y r hjl, List.cons_append] at hacc;have hacc2 := hacc.next;have gjn := (hacc2.good hbig).2.1;have e1 := wI (r.a + (j : Int) + 1);have e3 := wI (y + 1);refine zhm cx [] [_, _, _, _, _, _, _] _ rfl rfl rfl rfl ⟨106, [(72, .hm 1), (78, .d (.agg (⟨⟨r.a + (j : Int) + 1, y + 1⟩, .w⟩ : Crk).p.row)), (1, .ptr 0 0 0), (3, .hm 1), (18, .d (zu R)), (19, .d (.int .i64 R.length)), (20, .d (.int .i64 i)), (5, .ptr 2 0 0), (58, .d (zn L2)), (59, .d (.int .i64 L2.length)), (60, .d (.int .i64 k)), (12, .ptr 3 0 0), (13, .d (.int .i64 (r.a + j)))], (1, some ⟨118, mapM, zax (zaw (kl (A)).length) (kl (A))⟩) :: [(0, some ⟨24, 1, [[.d (zu R)]]⟩), (2, some ⟨65, 2, [[.d (.int .i64 y), .d (zn rs)]]⟩), (3, some ⟨85, 2, [[.d (.int .i64 r.a), .d (.int .i64 r.b)]]⟩)] ++ dyn 178 1 0 (SA (kl (A))), 1000000000000⟩ 138 [] rfl [.hm 0, .d (.agg (⟨⟨r.a + (j : Int) + 1, y + 1⟩, .w⟩ : Crk).p.row), .d (.int .i64 2)] (kl (A)) (kl (zex (A) (⟨⟨r.a + (j : Int) + 1, y + 1⟩, .w⟩ : Crk))) 1 rfl (by decide) (zuw rfl) (Nat.le_refl _) (add_px (A) (⟨⟨r.a + (j : Int) + 1, y + 1⟩, .w⟩ : Crk) gj.1 gj.2.2) (by have := gj.2.1; omega) (by have := gjn; omega) (by simp [zey, rn, push_cast]) (lB rfl) [(0, some 0), (1, some 1), (2, some 2), (3, some 3)] [(1, .ptr 0 0 0), (3, .hm 1), (18, .d (zu R)), (19, .d (.int .i64 R.length)), (20, .d (.int .i64 i)), (5, .ptr 2 0 0), (58, .d (zn L2)), (59, .d (.int .i64 L2.length)), (60, .d (.int .i64 k)), (12, .ptr 3 0 0), (13, .d (.int .i64 (r.a + j)))] [(0, some ⟨24, 1, [[.d (zu R)]]⟩), (2, some ⟨65, 2, [[.d (.int .i64 y), .d (zn rs)]]⟩), (3, some ⟨85, 2, [[.d (.int .i64 r.a), .d (.int .i64 r.b)]]⟩)] rfl rfl rfl rfl (by intro k hk h; simp only [find] at h; (repeat' split at h) <;> simp_all) rfl ?_ ?_ ?_ ?_ ?_ ?_
         ·simp [upT, up, upL, push_cast, zw, zx]
         ·simp [upH, upR, upL, up, push_cast, zw, zag, zx]
         ·simp [zg, push_cast]
         ·simp [zp]
         ·intro K hK;simp [push_cast, e1, e3];refine hK _ ?_;refine zbw (A := kl (A)) [(0, some 0), (1, some 1), (2, some 2), (3, some 3)] (zaw (kl (A)).length) [(0, some ⟨24, 1, [[.d (zu R)]]⟩), (2, some ⟨65, 2, [[.d (.int .i64 y), .d (zn rs)]]⟩), (3, some ⟨85, 2, [[.d (.int .i64 r.a), .d (.int .i64 r.b)]]⟩)] 1 1 rfl rfl rfl (by have := gj.2.1; omega) (zy _) rfl ?_ rfl ?_ ?_ ?_ ?_ (zba _) ?_ ?_
          ·simp [upT, up, upL, push_cast, zw, zx]
          ·simp [push_cast, zag]
          ·simp [upH, upR, upL, up, push_cast, zw, zag, zx]
          ·simp [zg, push_cast]
          ·simp [zp]
          ·intro x hx; have h1 := zbj.1 hx; have := gj.2.1; simp [zp]; omega
          ·intro q x p hx hp1; obtain ⟨hq, rfl⟩ := zbb hx; have := gj.2.1;have hz := fun (e m : Nat) => zdy (e := e) (m := m) hp1;simp [push_cast, zbf, hz]
           repeat rw [if_neg (by omega)]
           try rfl
         ·refine Nav.imp ?_;refine rx cx [] (fun K hK => by simp [push_cast, e1]; (repeat refine ob ?_); exact hK) ?_;refine ⟨(j + 1, zex A (⟨⟨r.a + (j : Int) + 1, y + 1⟩, .w⟩ : Crk)), ⟨hjl, hacc2⟩, by simp only; omega, ?_⟩;have e2 : r.a + ((j + 1 : Nat) : Int) = r.a + (j : Int) + 1 := by omega
          simp only [e2];refine zbw (A := kl (zex A (⟨⟨r.a + (j : Int) + 1, y + 1⟩, .w⟩ : Crk))) [(0, some 0), (1, some 1), (2, some 2), (3, some 3)] (zaw (kl (zex A (⟨⟨r.a + (j : Int) + 1, y + 1⟩, .w⟩ : Crk))).length) [(0, some ⟨24, 1, [[.d (zu R)]]⟩), (2, some ⟨65, 2, [[.d (.int .i64 y), .d (zn rs)]]⟩), (3, some ⟨85, 2, [[.d (.int .i64 r.a), .d (.int .i64 r.b)]]⟩)] 1 1 rfl rfl rfl (by have := gjn; omega) (zy _) rfl ?_ rfl ?_ ?_ ?_ ?_ (zba _) ?_ ?_
          ·simp [upT, up, upL, push_cast, zw, zx]
          ·simp [push_cast, zag]
          ·simp [upH, upR, upL, up, push_cast, zw, zag, zx]
          ·simp [zg, push_cast]
          ·simp [zp]
          ·intro x hx; have h1 := zbj.1 hx; have := gjn; simp [zp]; omega
          ·intro q x p hx hp1; obtain ⟨hq, rfl⟩ := zbb hx; have := gjn;have hz := fun (e m : Nat) => zdy (e := e) (m := m) hp1;simp [push_cast, zbf, hz]
           repeat rw [if_neg (by omega)]
           try rfl
        ·have hje : (r.b - r.a).toNat <= j := by simp at hb; omega
         rw [wRun_end y r hje, List.nil_append, <- hT1] at hacc;refine rx cx [] (fun K hK => by simp [push_cast, e0]; (repeat refine ob ?_); exact hK) ?_;refine ⟨(k + 1, A), ⟨hlt, hacc⟩, by simp only; omega, ?_⟩;refine zbw (A := kl (A)) [(0, some 0), (1, some 1), (2, some 2)] (zaw (kl (A)).length) [(0, some ⟨24, 1, [[.d (zu R)]]⟩), (2, some ⟨65, 2, [[.d (.int .i64 y), .d (zn rs)]]⟩)] 1 1 rfl rfl rfl (by have := gj.2.1; omega) (zy _) rfl ?_ rfl ?_ ?_ ?_ ?_ (zba _) ?_ ?_
         ·simp [upT, up, upL, push_cast, zw, zx]
         ·simp [push_cast, zag]
         ·simp [upH, upR, upL, up, push_cast, zw, zag, zx]
         ·simp [zg, push_cast]
         ·simp [zp]
         ·intro x hx; have h1 := zbj.1 hx; have := gj.2.1; simp [zp]; omega
         ·intro q x p hx hp1; obtain ⟨hq, rfl⟩ := zbb hx; have := gj.2.1;have hz := fun (e m : Nat) => zdy (e := e) (m := m) hp1;simp [push_cast, zbf, hz]
          repeat rw [if_neg (by omega)]
          try rfl
      ·have hke : k = L2.length := by simp at hb; omega
       subst hke;rw [List.drop_length, List.flatMap_nil, List.nil_append] at hacc;rw [<- hT] at hacc;have ga := hacc.good hbig;clear hT;obtain ⟨T, hT⟩ : ∃ T, T = T3 := ⟨_, rfl⟩
       rw [<- hT] at hacc;refine rg cx ?_;refine zz (β := Nat × List (ze × List Hd)) (fun s => ⟨106, [(1, .ptr 0 0 0), (3, .hm 1), (18, .d (zu R)), (19, .d (.int .i64 R.length)), (20, .d (.int .i64 i)), (5, .ptr 2 0 0), (82, .d (zn rs)), (83, .d (.int .i64 rs.length)), (84, .d (.int .i64 s.1))], (1, some ⟨118, mapM, zax (zaw (kl (s.2)).length) (kl (s.2))⟩) :: [(0, some ⟨24, 1, [[.d (zu R)]]⟩), (2, some ⟨65, 2, [[.d (.int .i64 y), .d (zn rs)]]⟩)] ++ dyn 178 1 0 (SA (kl (s.2))), 1000000000000⟩) (fun s => s.1 <= rs.length /\ Acc full s.2 ((rs.drop s.1).flatMap (vRun y) ++ T)) (fun s => rs.length - s.1) (0, A) ?_ ⟨Nat.zero_le _, by simpa using hacc⟩ ?_
       ·refine zbw (A := kl (A)) [(0, some 0), (1, some 1), (2, some 2)] (zaw (kl (A)).length) [(0, some ⟨24, 1, [[.d (zu R)]]⟩), (2, some ⟨65, 2, [[.d (.int .i64 y), .d (zn rs)]]⟩)] 1 1 rfl rfl rfl (by have := ga.2.1; omega) (zy _) rfl ?_ rfl ?_ ?_ ?_ ?_ (zba _) ?_ ?_
        ·simp [upT, up, upL, push_cast, zw, zx]
        ·simp [push_cast, zag]
        ·simp [upH, upR, upL, up, push_cast, zw, zag, zx]
        ·simp [zg, push_cast]
        ·simp [zp]
        ·intro x hx; have h1 := zbj.1 hx; have := ga.2.1; simp [zp]; omega
        ·intro q x p hx hp1; obtain ⟨hq, rfl⟩ := zbb hx; have := ga.2.1;have hz := fun (e m : Nat) => zdy (e := e) (m := m) hp1;simp [push_cast, zbf, hz]
         repeat rw [if_neg (by omega)]
         try rfl
       ·rintro ⟨k, A⟩ ⟨hk, hacc⟩;simp only at hk hacc;have gk := hacc.good hbig;refine Nav.imp ?_;refine rg cx ?_;refine awp_cd (decide ((k : Int) < rs.length)) (fun hb => ?_) fun hb => ?_
        ·have hlt : k < rs.length := by simpa using hb
         obtain ⟨r, hr⟩ := zak hlt;have hrb := hrs r (List.mem_of_getElem? hr);have e0 := wI ((k : Int) + 1);have e3 := wI (y + 1);rw [zgd hr, List.flatMap_cons, List.append_assoc] at hacc;have hacc2 : Acc full (zex A (⟨⟨r.b, y⟩, .n⟩ : Crk)) ((⟨⟨r.a, y + 1⟩, .s⟩ : Crk) :: ((rs.drop (k + 1)).flatMap (vRun y) ++ T)) := hacc.next;have g2 := hacc2.good hbig;have gkn := g2.2.1;have hacc3 := hacc2.next;have g2n := (hacc3.good hbig).2.1;refine rx cx [] (fun K hK => by simp [push_cast, hr]; (repeat refine ob ?_); exact hK) ?_;refine zby (s' := ⟨106, [(1, .ptr 0 0 0), (3, .hm 1), (18, .d (zu R)), (19, .d (.int .i64 R.length)), (20, .d (.int .i64 i)), (5, .ptr 2 0 0), (82, .d (zn rs)), (83, .d (.int .i64 rs.length)), (84, .d (.int .i64 k)), (15, .ptr 3 0 0)], (1, some ⟨118, mapM, zax (zaw (kl (A)).length) (kl (A))⟩) :: [(0, some ⟨24, 1, [[.d (zu R)]]⟩), (2, some ⟨65, 2, [[.d (.int .i64 y), .d (zn rs)]]⟩), (3, some ⟨85, 2, [[.d (.int .i64 r.a), .d (.int .i64 r.b)]]⟩)] ++ dyn 178 1 0 (SA (kl (A))), 1000000000000⟩) ?_ ?_
         ·refine zbw (A := kl (A)) [(0, some 0), (1, some 1), (2, some 2), (3, some 1000000000003)] (zaw (kl (A)).length) [(0, some ⟨24, 1, [[.d (zu R)]]⟩), (2, some ⟨65, 2, [[.d (.int .i64 y), .d (zn rs)]]⟩), (3, some ⟨85, 2, [[.d (.int .i64 r.a), .d (.int .i64 r.b)]]⟩)] 1 1 rfl rfl rfl (by have := gk.2.1; omega) (zy _) rfl ?_ rfl ?_ ?_ ?_ ?_ (zba _) ?_ ?_
          ·simp [upT, up, upL, push_cast, zw, zx]
          ·simp [push_cast, zag]
          ·simp [upH, upR, upL, up, push_cast, zw, zag, zx]
          ·simp [zg, push_cast]
          ·simp [zp]
          ·intro x hx; have h1 := zbj.1 hx; have := gk.2.1; simp [zp]; omega
          ·intro q x p hx hp1; obtain ⟨hq, rfl⟩ := zbb hx; have := gk.2.1;have hz := fun (e m : Nat) => zdy (e := e) (m := m) hp1;simp [push_cast, zbf, hz]
           repeat rw [if_neg (by omega)]
           try rfl
         ·refine zhm cx [] [_, _, _, _, _, _] _ rfl rfl rfl rfl ⟨106, [(88, .hm 1), (93, .d (.agg (⟨⟨r.b, y⟩, .n⟩ : Crk).p.row)), (1, .ptr 0 0 0), (3, .hm 1), (18, .d (zu R)), (19, .d (.int .i64 R.length)), (20, .d (.int .i64 i)), (5, .ptr 2 0 0), (82, .d (zn rs)), (83, .d (.int .i64 rs.length)), (84, .d (.int .i64 k)), (15, .ptr 3 0 0)], (1, some ⟨118, mapM, zax (zaw (kl (A)).length) (kl (A))⟩) :: [(0, some ⟨24, 1, [[.d (zu R)]]⟩), (2, some ⟨65, 2, [[.d (.int .i64 y), .d (zn rs)]]⟩), (3, some ⟨85, 2, [[.d (.int .i64 r.a), .d (.int .i64 r.b)]]⟩)] ++ dyn 178 1 0 (SA (kl (A))), 1000000000000⟩ 138 [] rfl [.hm 0, .d (.agg (⟨⟨r.b, y⟩, .n⟩ : Crk).p.row), .d (.int .i64 1)] (kl (A)) (kl (zex (A) (⟨⟨r.b, y⟩, .n⟩ : Crk))) 1 rfl (by decide) (zuw rfl) (Nat.le_refl _) (add_px (A) (⟨⟨r.b, y⟩, .n⟩ : Crk) gk.1 gk.2.2) (by have := gk.2.1; omega) (by have := gkn; omega) (by simp [zey, rn, push_cast]) (lB rfl) [(0, some 0), (1, some 1), (2, some 2), (3, some 3)] [(1, .ptr 0 0 0), (3, .hm 1), (18, .d (zu R)), (19, .d (.int .i64 R.length)), (20, .d (.int .i64 i)), (5, .ptr 2 0 0), (82, .d (zn rs)), (83, .d (.int .i64 rs.length)), (84, .d (.int .i64 k)), (15, .ptr 3 0 0)] [(0, some ⟨24, 1, [[.d (zu R)]]⟩), (2, some ⟨65, 2, [[.d (.int .i64 y), .d (zn rs)]]⟩), (3, some ⟨85, 2, [[.d (.int .i64 r.a), .d (.int .i64 r.b)]]⟩)] rfl rfl rfl rfl (by intro k hk h; simp only [find] at h; (repeat' split at h) <;> simp_all) rfl ?_ ?_ ?_ ?_ ?_ ?_
          ·simp [upT, up, upL, push_cast, zw, zx]
          ·simp [upH, upR, upL, up, push_cast, zw, zag, zx]
          ·simp [zg, push_cast]
          ·simp [zp]
          ·intro K hK;simp [push_cast];refine hK _ ?_;refine zbw (A := kl (A)) [(0, some 0), (1, some 1), (2, some 2), (3, some 3)] (zaw (kl (A)).length) [(0, some ⟨24, 1, [[.d (zu R)]]⟩), (2, some ⟨65, 2, [[.d (.int .i64 y), .d (zn rs)]]⟩), (3, some ⟨85, 2, [[.d (.int .i64 r.a), .d (.int .i64 r.b)]]⟩)] 1 1 rfl rfl rfl (by have := gk.2.1; omega) (zy _) rfl ?_ rfl ?_ ?_ ?_ ?_ (zba _) ?_ ?_
           ·simp [upT, up, upL, push_cast, zw, zx]
           ·simp [push_cast, zag]
           ·simp [upH, upR, upL, up, push_cast, zw, zag, zx]
           ·simp [zg, push_cast]
           ·simp [zp]
           ·intro x hx; have h1 := zbj.1 hx; have := gk.2.1; simp [zp]; omega
           ·intro q x p hx hp1; obtain ⟨hq, rfl⟩ := zbb hx; have := gk.2.1;have hz := fun (e m : Nat) => zdy (e := e) (m := m) hp1;simp [push_cast, zbf, hz]
            repeat rw [if_neg (by omega)]
            try rfl
          ·refine Nav.imp ?_;refine zhm cx [] [_, _, _, _, _, _, _] _ rfl rfl rfl rfl ⟨106, [(95, .hm 1), (101, .d (.agg (⟨⟨r.a, y + 1⟩, .s⟩ : Crk).p.row)), (1, .ptr 0 0 0), (3, .hm 1), (18, .d (zu R)), (19, .d (.int .i64 R.length)), (20, .d (.int .i64 i)), (5, .ptr 2 0 0), (82, .d (zn rs)), (83, .d (.int .i64 rs.length)), (84, .d (.int .i64 k)), (15, .ptr 3 0 0)], (1, some ⟨118, mapM, zax (zaw (kl ((zex A (⟨⟨r.b, y⟩, .n⟩ : Crk)))).length) (kl ((zex A (⟨⟨r.b, y⟩, .n⟩ : Crk))))⟩) :: [(0, some ⟨24, 1, [[.d (zu R)]]⟩), (2, some ⟨65, 2, [[.d (.int .i64 y), .d (zn rs)]]⟩), (3, some ⟨85, 2, [[.d (.int .i64 r.a), .d (.int .i64 r.b)]]⟩)] ++ dyn 178 1 0 (SA (kl ((zex A (⟨⟨r.b, y⟩, .n⟩ : Crk))))), 1000000000000⟩ 138 [] rfl [.hm 0, .d (.agg (⟨⟨r.a, y + 1⟩, .s⟩ : Crk).p.row), .d (.int .i64 3)] (kl ((zex A (⟨⟨r.b, y⟩, .n⟩ : Crk)))) (kl (zex ((zex A (⟨⟨r.b, y⟩, .n⟩ : Crk))) (⟨⟨r.a, y + 1⟩, .s⟩ : Crk))) 1 rfl (by decide) (zuw rfl) (Nat.le_refl _) (add_px ((zex A (⟨⟨r.b, y⟩, .n⟩ : Crk))) (⟨⟨r.a, y + 1⟩, .s⟩ : Crk) g2.1 g2.2.2) (by have := g2.2.1; omega) (by have := g2n; omega) (by simp [zey, rn, push_cast]) (lB rfl) [(0, some 0), (1, some 1), (2, some 2), (3, some 3)] [(1, .ptr 0 0 0), (3, .hm 1), (18, .d (zu R)), (19, .d (.int .i64 R.length)), (20, .d (.int .i64 i)), (5, .ptr 2 0 0), (82, .d (zn rs)), (83, .d (.int .i64 rs.length)), (84, .d (.int .i64 k)), (15, .ptr 3 0 0)] [(0, some ⟨24, 1, [[.d (zu R)]]⟩), (2, some ⟨65, 2, [[.d (.int .i64 y), .d (zn rs)]]⟩), (3, some ⟨85, 2, [[.d (.int .i64 r.a), .d (.int .i64 r.b)]]⟩)] rfl rfl rfl rfl (by intro k hk h; simp only [find] at h; (repeat' split at h) <;> simp_all) rfl ?_ ?_ ?_ ?_ ?_ ?_
           ·simp [upT, up, upL, push_cast, zw, zx]
           ·simp [upH, upR, upL, up, push_cast, zw, zag, zx]
           ·simp [zg, push_cast]
           ·simp [zp]
           ·intro K hK;simp [push_cast, e3];refine hK _ ?_;refine zbw (A := kl ((zex A (⟨⟨r.b, y⟩, .n⟩ : Crk)))) [(0, some 0), (1, some 1), (2, some 2), (3, some 3)] (zaw (kl ((zex A (⟨⟨r.b, y⟩, .n⟩ : Crk)))).length) [(0, some ⟨24, 1, [[.d (zu R)]]⟩), (2, some ⟨65, 2, [[.d (.int .i64 y), .d (zn rs)]]⟩), (3, some ⟨85, 2, [[.d (.int .i64 r.a), .d (.int .i64 r.b)]]⟩)] 1 1 rfl rfl rfl (by have := g2.2.1; omega) (zy _) rfl ?_ rfl ?_ ?_ ?_ ?_ (zba _) ?_ ?_
            ·simp [upT, up, upL, push_cast, zw, zx]
            ·simp [push_cast, zag]
            ·simp [upH, upR, upL, up, push_cast, zw, zag, zx]
            ·simp [zg, push_cast]
            ·simp [zp]
            ·intro x hx; have h1 := zbj.1 hx; have := g2.2.1; simp [zp]; omega
            ·intro q x p hx hp1; obtain ⟨hq, rfl⟩ := zbb hx; have := g2.2.1;have hz := fun (e m : Nat) => zdy (e := e) (m := m) hp1;simp [push_cast, zbf, hz]
             repeat rw [if_neg (by omega)]
             try rfl
           ·refine Nav.imp ?_;refine rx cx [] (fun K hK => by simp [push_cast, e0]; (repeat refine ob ?_); exact hK) ?_;refine ⟨(k + 1, zex (zex A (⟨⟨r.b, y⟩, .n⟩ : Crk)) (⟨⟨r.a, y + 1⟩, .s⟩ : Crk)), ⟨hlt, hacc3⟩, by simp only; omega, ?_⟩;refine zbw (A := kl (zex (zex A (⟨⟨r.b, y⟩, .n⟩ : Crk)) (⟨⟨r.a, y + 1⟩, .s⟩ : Crk))) [(0, some 0), (1, some 1), (2, some 2)] (zaw (kl (zex (zex A (⟨⟨r.b, y⟩, .n⟩ : Crk)) (⟨⟨r.a, y + 1⟩, .s⟩ : Crk))).length) [(0, some ⟨24, 1, [[.d (zu R)]]⟩), (2, some ⟨65, 2, [[.d (.int .i64 y), .d (zn rs)]]⟩)] 1 1 rfl rfl rfl (by have := g2n; omega) (zy _) rfl ?_ rfl ?_ ?_ ?_ ?_ (zba _) ?_ ?_
            ·simp [upT, up, upL, push_cast, zw, zx]
            ·simp [push_cast, zag]
            ·simp [upH, upR, upL, up, push_cast, zw, zag, zx]
            ·simp [zg, push_cast]
            ·simp [zp]
            ·intro x hx; have h1 := zbj.1 hx; have := g2n; simp [zp]; omega
            ·intro q x p hx hp1; obtain ⟨hq, rfl⟩ := zbb hx; have := g2n;have hz := fun (e m : Nat) => zdy (e := e) (m := m) hp1;simp [push_cast, zbf, hz]
             repeat rw [if_neg (by omega)]
             try rfl
        ·have hke : k = rs.length := by simp at hb; omega
         subst hke;rw [List.drop_length, List.flatMap_nil, List.nil_append] at hacc;refine rx cx [] (fun K hK => by simp [push_cast, e0]; (repeat refine ob ?_); exact hK) ?_;refine ⟨(i + 1, A), ⟨hlt, by rw [hT, <- hT3] at hacc; exact hacc⟩, by simp only; omega, ?_⟩;refine zbw (A := kl (A)) [(0, some 0), (1, some 1)] (zaw (kl (A)).length) [(0, some ⟨24, 1, [[.d (zu R)]]⟩)] 1 1 rfl rfl rfl (by have := gk.2.1; omega) (zy _) rfl ?_ rfl ?_ ?_ ?_ ?_ (zba _) ?_ ?_
         ·simp [upT, up, upL, push_cast, zw, zx]
         ·simp [push_cast, zag]
         ·simp [upH, upR, upL, up, push_cast, zw, zag, zx]
         ·simp [zg, push_cast]
         ·simp [zp]
         ·intro x hx; have h1 := zbj.1 hx; have := gk.2.1; simp [zp]; omega
         ·intro q x p hx hp1; obtain ⟨hq, rfl⟩ := zbb hx; have := gk.2.1;have hz := fun (e m : Nat) => zdy (e := e) (m := m) hp1;simp [push_cast, zbf, hz]
          repeat rw [if_neg (by omega)]
          try rfl
  ·have hie : i = R.length := by simp at hb; omega
   subst hie;rw [List.drop_length, List.flatMap_nil] at hacc;obtain ⟨pre, hpre, hfe⟩ := hacc;rw [List.append_nil] at hfe;subst hfe;subst hpre;generalize hAA : addAll [] full = AA at *;refine zby (s' := ⟨106, [(3, .hm 1)], (1, some ⟨118, mapM, zax (zaw (kl (AA)).length) (kl (AA))⟩) :: [] ++ dyn 178 1 0 (SA (kl (AA))), 1000000000000⟩) ?_ ?_
   ·refine zbw (A := kl (AA)) [(1, some 1)] (zaw (kl (AA)).length) [] 1 1 rfl rfl rfl (by have := ga.2.1; omega) (zy _) rfl ?_ rfl ?_ ?_ ?_ ?_ (zba _) ?_ ?_
    ·simp [upT, up, upL, push_cast, zw, zx]
    ·simp [push_cast, zag]
    ·simp [upH, upR, upL, up, push_cast, zw, zag, zx]
    ·simp [zg, push_cast]
    ·simp [zp]
    ·intro x hx; have h1 := zbj.1 hx; have := ga.2.1; simp [zp]; omega
    ·intro q x p hx hp1; obtain ⟨hq, rfl⟩ := zbb hx; have := ga.2.1;have hz := fun (e m : Nat) => zdy (e := e) (m := m) hp1;simp [push_cast, zbf, hz]
     repeat rw [if_neg (by omega)]
     try rfl
   ·refine zby (weak_fzmap (by decide) rfl (kl AA)) ?_;rw [mdata_kl];refine rg cx ?_;first | refine znr [(0, 1)] ?_ | refine zns [(0, 1)] ?_
    simp [push_cast];try decide
end Go.Proofs.YtdddknniooimmaaGreat

namespace Go.Proofs.YtdddknniooimmaaGreat
open Go.Abs Go.Shelf Go.RowKit Go.Lib Go.Sort

def sortPt_ren : Go.Shelf.Ren := ⟨fun | 6 => 87 | 15 => 133 | 14 => 139 | 28 => 191 | 29 => 192 | 20 => 203 | 21 => 204 | 22 => 205 | 23 => 206 | 24 => 207 | 25 => 208 | 26 => 209 | 27 => 210 | 46 => 242 | 47 => 234 | 48 => 235 | 49 => 243 | 50 => 244 | 57 => 276 | n => n, fun | 22 => 53 | 24 => 58 | 25 => 59 | 3 => 3 | 39 => 174 | 0 => 0 | 53 => 228 | 55 => 230 | 4 => 4 | 46 => 222 | 45 => 221 | 50 => 204 | 5 => 5 | 9 => 9 | 66 => 256 | 70 => 260 | 76 => 284 | 77 => 148 | n => n, fun n => n⟩
theorem sortPt_lays : SlLaysF0.n6 Tryz.prog sortPt_ren where
 mixed := by kernel_rfl
 f6 := ⟨Tryz.f87.name, by kernel_rfl, Tryz.func87.trans (congrArg some (by kernel_rfl))⟩
 f14 := ⟨Tryz.f139.name, by kernel_rfl, Tryz.func139.trans (congrArg some (by kernel_rfl))⟩
 f15 := Tryz.func133.trans (congrArg some (by kernel_rfl))
 f20 := ⟨Tryz.f203.name, by kernel_rfl, Tryz.func203.trans (congrArg some (by kernel_rfl))⟩
 f21 := ⟨Tryz.f204.name, by kernel_rfl, Tryz.func204.trans (congrArg some (by kernel_rfl))⟩
 f22 := ⟨Tryz.f205.name, by kernel_rfl, Tryz.func205.trans (congrArg some (by kernel_rfl))⟩
 f23 := ⟨Tryz.f206.name, by kernel_rfl, Tryz.func206.trans (congrArg some (by kernel_rfl))⟩
 f24 := ⟨Tryz.f207.name, by kernel_rfl, Tryz.func207.trans (congrArg some (by kernel_rfl))⟩
 f25 := ⟨Tryz.f208.name, by kernel_rfl, Tryz.func208.trans (congrArg some (by kernel_rfl))⟩
 f26 := ⟨Tryz.f209.name, by kernel_rfl, Tryz.func209.trans (congrArg some (by kernel_rfl))⟩
 f27 := ⟨Tryz.f210.name, by kernel_rfl, Tryz.func210.trans (congrArg some (by kernel_rfl))⟩
 f28 := Tryz.func191.trans (congrArg some (by kernel_rfl))
 f29 := Tryz.func192.trans (congrArg some (by kernel_rfl))
 f46 := ⟨Tryz.f242.name, by kernel_rfl, Tryz.func242.trans (congrArg some (by kernel_rfl))⟩
 f47 := Tryz.func234.trans (congrArg some (by kernel_rfl))
 f48 := Tryz.func235.trans (congrArg some (by kernel_rfl))
 f49 := ⟨Tryz.f243.name, by kernel_rfl, Tryz.func243.trans (congrArg some (by kernel_rfl))⟩
 f50 := ⟨Tryz.f244.name, by kernel_rfl, Tryz.func244.trans (congrArg some (by kernel_rfl))⟩
 f57 := ⟨Tryz.f276.name, by kernel_rfl, Tryz.func276.trans (congrArg some (by kernel_rfl))⟩
 t0 := Tryz.underlying0
 a0 := Tryz.isAgg0
 z0 := Tryz.sizeOf0
 v0 := Tryz.zeroValue0
 t3 := Tryz.underlying3
 a3 := Tryz.isAgg3
 z3 := Tryz.sizeOf3
 v3 := Tryz.zeroValue3
 t4 := Tryz.underlying4
 a4 := Tryz.isAgg4
 z4 := Tryz.sizeOf4
 v4 := Tryz.zeroValue4
 t5 := Tryz.underlying5
 a5 := Tryz.isAgg5
 z5 := Tryz.sizeOf5
 v5 := Tryz.zeroValue5
 t9 := Tryz.underlying9
 a9 := Tryz.isAgg9
 z9 := Tryz.sizeOf9
 v9 := Tryz.zeroValue9
 t22 := Tryz.underlying53
 a22 := Tryz.isAgg53
 z22 := Tryz.sizeOf53
 v22 := Tryz.zeroValue53
 t25 := Tryz.underlying59
 a25 := Tryz.isAgg59
 z25 := Tryz.sizeOf59
 v25 := Tryz.zeroValue59
 t39 := Tryz.underlying174
 a39 := Tryz.isAgg174
 z39 := Tryz.sizeOf174
 v39 := Tryz.zeroValue174
 t45 := Tryz.underlying221
 a45 := Tryz.isAgg221
 z45 := Tryz.sizeOf221
 v45 := Tryz.zeroValue221
 t46 := Tryz.underlying222
 a46 := Tryz.isAgg222
 z46 := Tryz.sizeOf222
 v46 := Tryz.zeroValue222
 t50 := Tryz.underlying204
 a50 := Tryz.isAgg204
 z50 := Tryz.sizeOf204
 v50 := Tryz.zeroValue204
 t53 := Tryz.underlying228
 a53 := Tryz.isAgg228
 z53 := Tryz.sizeOf228
 v53 := Tryz.zeroValue228
 t55 := Tryz.underlying230
 a55 := Tryz.isAgg230
 z55 := Tryz.sizeOf230
 v55 := Tryz.zeroValue230
 t66 := Tryz.underlying256
 a66 := Tryz.isAgg256
 z66 := Tryz.sizeOf256
 v66 := Tryz.zeroValue256
 t70 := Tryz.underlying260
 a70 := Tryz.isAgg260
 z70 := Tryz.sizeOf260
 v70 := Tryz.zeroValue260
 t76 := Tryz.underlying284
 a76 := Tryz.isAgg284
 z76 := Tryz.sizeOf284
 v76 := Tryz.zeroValue284
 t77 := Tryz.underlying148
 a77 := Tryz.isAgg148
 z77 := Tryz.sizeOf148
 v77 := Tryz.zeroValue148
def cfP : List D -> List D -> Int
 | [.int _ ax, .int _ ay], [.int _ bx, .int _ by'] => if ay ≠ by' then ay - by' else ax - bx
 | _, _ => 0
def nearC (c : ze) : Prop := -100000 <= c.x /\ c.x <= 100000 /\ -100000 <= c.y /\ c.y <= 100000
def VP (r : List D) : Prop := ∃ c : ze, r = c.row /\ nearC c
set_option maxHeartbeats 1000000 in
theorem cmpP_ok : CmpOk Tryz.prog 88 VP cfP := by
 rintro ro w a b va vb hro ⟨⟨ax, ay⟩, rfl, h1⟩ ⟨⟨bx, by'⟩, rfl, h2⟩ ha hb _ _;simp only [nearC] at h1 h2;simp only [ze.row, zq, zr] at ha hb;obtain ⟨_, _, rfl, rfl, _, _, rfl, rfl, rfl⟩ := ha;obtain ⟨_, _, rfl, rfl, _, _, rfl, rfl, rfl⟩ := hb;have w1 : IntKind.i64.wrap (ax - bx) = ax - bx := wrap_i64 (by omega) (by omega);have w2 : IntKind.i64.wrap (ay - by') = ay - by' := wrap_i64 (by omega) (by omega)
 go_enter Tryz.func88, Tryz.ntmps88
 go_wp2
 ·rename_i h
  go_ret
  refine ⟨?_, 0, _, by rw [alloc_eq_grow, alloc_eq_grow, grow_grow]; rfl⟩;simp at h;simp [cfP, h]
 ·rename_i h
  go_ret
  refine ⟨?_, 0, _, by rw [alloc_eq_grow, alloc_eq_grow, grow_grow]; rfl⟩;simp at h;simp [cfP, h]
theorem cfP_ord : CmpOrd VP cfP where
 irrefl := by rintro _ ⟨⟨ax, ay⟩, rfl, _⟩; simp [cfP, ze.row]
 trans := by
  rintro _ _ _ ⟨⟨ax, ay⟩, rfl, _⟩ ⟨⟨bx, by'⟩, rfl, _⟩ ⟨⟨dx, dy⟩, rfl, _⟩;simp only [cfP, ze.row];intro h1 h2;split at h1 <;> split at h2 <;> split <;> omega
 ntrans := by
  rintro _ _ _ ⟨⟨ax, ay⟩, rfl, _⟩ ⟨⟨bx, by'⟩, rfl, _⟩ ⟨⟨dx, dy⟩, rfl, _⟩;simp only [cfP, ze.row];intro h1 h2;split at h1 <;> split at h2 <;> split <;> omega
theorem cfP_cells (a b : ze) : cfP a.row b.row < 0 ↔ zdq a b := by
 obtain ⟨ax, ay⟩ := a;obtain ⟨bx, by'⟩ := b;simp only [cfP, ze.row, zdq];split <;> omega
theorem sortPt_px (l s : List ze) (hp : s.Perm l) (hs : s.Pairwise zdq) (hon : ∀ c ∈ l, nearC c) (hl : l.length <= 100000000) : PX Tryz.prog 87 [.hs 0 0 l.length, .d (.fn (.func 88) [])] [(0, ⟨58, 2, dr (l.map ze.row)⟩)] [(0, 0)] [(0, ⟨58, 2, dr (s.map ze.row)⟩)] (.tup []) := by
 have h := zjl (P := Tryz.prog) sortPt_lays (k := 2) (by decide) (fun w => by kernel_rfl) (fun w => by kernel_rfl) ⟨_, Tryz.func87, by kernel_rfl, by kernel_rfl⟩ (cg := 88) (fun args w => by kernel_rfl) cmpP_ok cfP_ord 58 (rows := l.map ze.row) (rows' := s.map ze.row)
  (fun r hr => by obtain ⟨c, hc, rfl⟩ := List.mem_map.1 hr; exact ⟨c, rfl, hon c hc⟩)
  (fun a ha b hb h1 h2 => by
   obtain ⟨c, hc, rfl⟩ := List.mem_map.1 ha;obtain ⟨d, hd, rfl⟩ := List.mem_map.1 hb;rw [cfP_cells] at h1 h2;rcases zqb c d with h | h | h
   ·exact absurd h h2
   ·rw [h]
   ·exact absurd h h1)
  (hp.map _) (by
   rw [List.pairwise_map];refine hs.imp fun {a b} h => ?_;rw [cfP_cells];exact zet h) (by simp; omega)
 simp only [List.length_map] at h;exact h
theorem pw_of_lowC : ∀ {l : List ze}, l.Nodup -> ∃ s : List ze, s.Perm l /\ s.Pairwise zdq := fun {l} hd => by
 let le : ze -> ze -> Bool := fun a b => decide (a.y < b.y) || (decide (a.y = b.y) && decide (a.x <= b.x))
 have h1 : (l.mergeSort le).Pairwise fun a b => le a b = true := List.pairwise_mergeSort (fun a b c h1 h2 => by simp [le] at *; omega) (fun a b => by simp [le]; omega) l;have h2 : (l.mergeSort le).Nodup := (List.mergeSort_perm l le).nodup_iff.2 hd;refine ⟨_, List.mergeSort_perm l le, ?_⟩;refine (h1.and h2).imp fun {a b} h => ?_;obtain ⟨ha, hb⟩ := h;simp [le] at ha;rcases zqb a b with h | h | h
 ·exact h
 ·exact absurd h hb
 ·unfold zdq at *; omega
end Go.Proofs.YtdddknniooimmaaGreat

namespace Go.Proofs.YtdddknniooimmaaGreat
open Go.Abs Go.Shelf

local instance (priority := 5000) nav_stop5 {P : Program} {l : Array Oper} {b : Bool} {c : Code} {Q : Exit -> St -> Prop} {s : St} : Nav (AWp P (.seq (.region 5 l b) c) Q s) (AWp P (.seq (.region 5 l b) c) Q s) := ⟨id⟩
theorem offIds_ds {id : Nat} : ∀ l : List D, zgk id (l.map AV.d) = true
 | [] => rfl
 | d :: l => by
  show zgk id (.d d :: l.map AV.d) = true
  simp only [zgk, ziq, offIds_ds l, Bool.and_self]
theorem offIds_dr {id : Nat} (R : List (List D)) {r : List AV} (h : r ∈ dr R) : zgk id r = true := by
 unfold dr at h;obtain ⟨l, _, rfl⟩ := List.mem_map.1 h;exact offIds_ds l
theorem zip_rows : ∀ A : List (ze × List Hd), List.zipWith (fun (k : ze) (v : D) => [D.agg k.row, v]) (A.map (·.1)) (A.map fun p => zdm p.2) = zei A
 | [] => rfl
 | p :: A => by
  simp only [List.map_cons, List.zipWith_cons_cons, zip_rows A];rfl
set_option maxHeartbeats 8000000 in
theorem trace_ok (R : List Row) (hR : zdi R) (hbig : zo R = true -> (zbk R).length <= 1000000) (Ls : List (List Crk)) (hL : zo R = true -> Lps (Sof R) Ls) : PC Tryz.prog 32 [.agg (zt R)] (.p (.sl (if zo R then Ls.map fun L => [zai (zay L)] else []))) := by
 have c1 := zpj R hR;have hv0 : zo R = zo R := rfl;generalize hv : zo R = v at c1 hL hbig;refine pw cx Tryz.func32 Tryz.ntmps32 ?_;refine rg cx ?_;refine rx cx [(1, .p (.bool v))] (fun K hK => by simp [push_cast, c1]; (repeat refine ob ?_); exact hK) ?_;refine awp_cd (!v) (fun hb => ?_) fun hb => ?_
 ·simp at hb;subst hb;refine rg cx ?_;simp [push_cast]
 ·simp at hb;subst hb;have hbig := hbig rfl;have hL := hL rfl;have c2 := collect_px R hv hR (by omega);refine rx cx [(1, .x ⟨[], [.d (.agg (zt R))], [], [], some 0, [(0, ⟨118, mapM, dr (zei (addAll [] (zbk R)))⟩)], .hm 0⟩)] (fun K hK => by simp [push_cast, c2]; (repeat refine ob ?_); exact hK) ?_;refine rg cx ?_;generalize hA : addAll [] (zbk R) = A at *;have hnk := (collect_map hv).keys;rw [hA] at hnk;have h16 : ∀ xs : List ze, xs.length < (A.map (·.1)).length -> (xs.length + 1) * 16 <= 140737488355328 := fun xs h => by
   have := (zqw (zbk R)).1;rw [hA] at this;simp at h; omega
  refine awp_maprange cx [] _ _ _ _ _ _ _ rfl rfl rfl rfl rfl rfl rfl rfl rfl rfl rfl rfl rfl rfl rfl rfl rfl rfl rfl (by decide) rfl rfl (A.map (·.1)) (fun c => .agg c.row) (A.map fun p => zdm p.2) (id := 6) (o := ⟨118, mapM, dr (zei A)⟩) rfl rfl (lB rfl) (by rw [zip_rows]) (by simp) (by simp [push_cast]) (fun u v xs => ⟨45, [(15, .lit u), (3, .lit v), (4, .hs 7 0 xs.length)], [(7, some ⟨58, 2, dr (xs.map ze.row)⟩)], 8⟩) ?_ ?_ ?_ ?_
  ·intro u v xs;refine ⟨⟨fun t => ?_, ?_, ?_⟩, rfl, rfl, by simp [push_cast], rfl⟩
   ·simp [push_cast, ziq]
    (repeat' split) <;> simp [ziq]
   ·simp [push_cast, ziq]
   ·intro x o ho i r hr;simp [push_cast] at ho;split at ho
    ·simp at ho;subst ho;exact offIds_dr _ (List.mem_of_getElem? hr)
    ·simp at ho
  ·intro u v;refine wk [(7, none)]
  ·intro u v xs k hk hx K hK;have h16 := h16 xs hx;simp [push_cast, entSt];refine hK _ ?_;refine rx cx [] (fun K hK => by simp [push_cast, h16]; (repeat refine ob ?_); exact hK) ?_;refine wk [(7, some 13)]
  ·intro u v xs hxs;obtain ⟨P, hP1, hP2⟩ := pw_of_lowC (l := xs) (hxs.nodup_iff.2 hnk);have hmap := collect_map hv;rw [hA] at hmap;have hC := zcx hv;have hbd : ∀ d ∈ zbk R, -100000 <= d.p.x /\ d.p.x <= 100000 /\ -100000 <= d.p.y /\ d.p.y <= 100000 := fun d hd => by
    have := zoo hv hd; omega
   have hnear : ∀ c ∈ xs, nearC c := fun c hc => by
    obtain ⟨d, hd, rfl⟩ := heads_near hC hmap (hxs.mem_iff.1 hc);have := zoo hv hd;simp only [nearC]; omega
   have hAl := (zqw (zbk R)).1;rw [hA] at hAl;have hxl := hxs.length_eq;rw [List.length_map] at hxl;have c3 := sortPt_px xs P hP1 hP2 hnear (by omega);have hPl := hP1.length_eq;refine Nav.imp ?_;refine rx cx [(1, .x ⟨[(0, 7)], [.hs 0 0 xs.length, .d (.fn (.func 88) [])], [(0, ⟨58, 2, dr (xs.map ze.row)⟩)], [(0, 0)], none, [(0, ⟨58, 2, dr (P.map ze.row)⟩)], .tup []⟩)] (fun K hK => by simp [push_cast, c3]; (repeat refine ob ?_); exact hK) ?_;rw [<- hPl];refine zaf 7 (P.map ze.row) rfl (by simp [push_cast]) fun K hK => ?_;simp [push_cast, St.fz, fzT, fzH, fzO, fz, fzL, fzR, zbc, zat, zas, zaq];refine nx hK ?_; clear hK K;refine rg cx ?_;refine rg cx ?_;have hP63 : P.length <= 1000000 := by omega
   refine zz (β := Nat × List (List Crk) × List (ze × List Hd)) (fun s => ⟨45, [(3, .hm 6), (26, .d (zai P)), (27, .d (.int .i64 P.length)), (28, .d (.int .i64 s.1)), (6, .hs 7 0 s.2.1.length)], [(6, some ⟨118, mapM, dr (zei s.2.2)⟩), (7, some ⟨55, 1, dr (s.2.1.map fun L => [zai (zay L)])⟩)], 8⟩)
    (fun s => s.1 <= P.length /\ TInv (Sof R) P s.1 s.2.1 s.2.2) (fun s => P.length - s.1) (0, [], A) ?_ ⟨Nat.zero_le _, TInv.init hmap (hP1.trans hxs)⟩ ?_
   ·refine wk [(6, some 6), (7, none)]
   ·rintro ⟨j, Fs, A⟩ ⟨hj, hI⟩;simp only at hj hI;have hFl := hI.len;refine Nav.imp ?_;refine rg cx ?_;refine awp_cd (decide ((j : Int) < P.length)) (fun hb => ?_) fun hb => ?_
    ·have hlt : j < P.length := by simpa using hb
     obtain ⟨p, hp⟩ := zak hlt;have e0 := wI ((j : Int) + 1);have l0 := look_c p A;refine rx cx [] (fun K hK => by simp [push_cast, hp]; (repeat refine ob ?_); exact hK) ?_;cases hh : zac A p with
     | nil =>
      rw [hh] at l0;have l1 : zic .nl false (zhd (.agg [.int .i64 p.x, .int .i64 p.y]) (dr (zei A))) (zdm []) = True := l0;refine rx cx [(2, .p (zdm []))] (fun K hK => by simp [push_cast, l1]; (repeat refine ob ?_); exact hK) ?_;refine awp_cd false (fun hb => ?_) fun hb => ?_
      ·simp at hb
      ·refine rx cx [] (fun K hK => by simp [push_cast, e0]; (repeat refine ob ?_); exact hK) ?_;refine ⟨(j + 1, Fs, A), ⟨hlt, hI.skip hp hh⟩, by simp only; omega, ?_⟩;refine wk [(6, some 6), (7, some 7)]
     | cons k hs0 =>
      rw [hh] at l0;obtain ⟨n, pn, hnl, hr, lc, hI2⟩ := hI.go hC hP2 hp hh;have c4 := walk_px hC hbd hI.map (fun d hd => hd.1) pn (by omega) hr lc hh;have l1 : zic .nl false (zhd (.agg [.int .i64 p.x, .int .i64 p.y]) (dr (zei A))) (zdm (k :: hs0)) = True := l0;generalize orb (suc (Sof R)) n ⟨p, k⟩ = L at *;unfold walkO at c4;have h8 : (Fs.length + 1) * 8 <= 140737488355328 := by omega
      have h24 : (Fs.length + 1) * 24 <= 140737488355328 := by omega
      refine rx cx [(2, .p (zdm (k :: hs0)))] (fun K hK => by simp [push_cast, l1]; (repeat refine ob ?_); exact hK) ?_;refine awp_cd true (fun hb => ?_) fun hb => ?_
      ·refine rx cx [(3, .x ⟨[(0, 6)], [.hm 0, .d (.agg [.int .i64 p.x, .int .i64 p.y])], [(0, ⟨118, mapM, dr (zei A)⟩)], [(0, 0)], none, [(0, ⟨118, mapM, dr (zei (zde A L))⟩)], .d (.agg [zai (zay L)])⟩)] (fun K hK => by simp [push_cast, c4, h8, h24]; (repeat refine ob ?_); exact hK) ?_;refine rx cx [] (fun K hK => by simp [push_cast, e0]; (repeat refine ob ?_); exact hK) ?_;refine ⟨(j + 1, Fs ++ [L], zde A L), ⟨hlt, hI2⟩, by simp only; omega, ?_⟩;refine wk [(6, some 6), (7, some 23)]
      ·simp at hb
    ·have hje : P.length <= j := by simp at hb; omega
     have := lps_uniq hC (hI.done hje) hL;rw [<- this];refine zaf 7 (Fs.map fun L => [zai (zay L)]) rfl (by simp [push_cast]) fun K hK => ?_;simp [push_cast, St.fz, fzT, fzH, fzO, fz, fzL, fzR, zbc, zat, zas, zaq];refine nx hK ?_; clear hK K;refine rg cx ?_;simp [push_cast]
end Go.Proofs.YtdddknniooimmaaGreat

namespace Go.Proofs.YtdddknniooimmaaGreat
open Go.Abs

def lenN (l : List Run) : Nat := (l.flatMap (zaa 0)).length
theorem lenN_take {l : List Run} {k : Nat} {r : Run} (h : l[k]? = some r) : lenN (l.take (k + 1)) = lenN (l.take k) + (r.b - r.a).toNat := by
 unfold lenN;rw [zdr _ h, List.length_append, zbr]
theorem zum (w : Row) : (zcj w).length = lenN w.runs := by
 unfold zcj lenN;rw [List.length_flatMap, List.length_flatMap];simp only [zbr]
theorem ztl {l : List Run} (h : zar l = true) : ∀ k, k <= l.length -> lenN (l.take k) <= k * 2097152
 | 0, _ => by simp [lenN]
 | k + 1, hk => by
  obtain ⟨r, hr⟩ := zak (show k < l.length by omega);have h1 := ztl h k (by omega);have h2 := zqk (zer h hr).2;rw [lenN_take hr, Nat.succ_mul];omega

def zkv (R : List Row) : Nat := if zo R then (zk R).length else 0
theorem rows_bound {R : List Row} (h : zo R = true) (hR : zdi R) : ∀ i, i <= R.length -> (zlt R i).length <= i * 2097152000000
 | 0, _ => by simp [zlt]
 | i + 1, hi => by
  obtain ⟨w, hw⟩ := zak (show i < R.length by omega);have h1 := rows_bound h hR i (by omega);have h2 := ztl (zhg (zcq h hw).2) w.runs.length (Nat.le_refl _);have h3 := hR.2 w (List.mem_of_getElem? hw);rw [rowsTo_next hw, List.length_append, zum, Nat.succ_mul];rw [List.take_length] at h2;have := Nat.mul_le_mul_right 2097152 h3;omega
theorem rows_big {R : List Row} (h : zo R = true) (hR : zdi R) {i : Nat} (hi : i <= R.length) : (zlt R i).length <= 2097152000000000000 := by
 have h1 := rows_bound h hR i hi;have h2 := hR.1;have := Nat.mul_le_mul_right 2097152000000 (show i <= 1000000 by omega);omega

theorem rcount_big (R : List Row) (hR0 : zoq R) (hR1 : zo R = true -> zdi R) : PC Tryz.prog 16 [.agg (zt R)] (.p (.int .i64 (zkv R))) := by
 have c1 := zss R hR0;have hC : zkv R = if zo R then (zk R).length else 0 := rfl
 generalize hv : zo R = v at *;refine pw cx Tryz.func16 Tryz.ntmps16 ?_;refine rg cx ?_;refine rg cx ?_;refine rx cx [(1, .p (.bool v))] (fun K hK => by simp [push_cast, c1]; (repeat refine ob ?_); exact hK) ?_;refine awp_cd (!v) (fun hb => ?_) fun hb => ?_
 ·simp at hb;rw [hC, hb];refine rg cx ?_;simp [push_cast]
 ·simp at hb;rw [hb] at hv hC;rw [hC, if_pos rfl];clear hC;have hR := hR1 hb;have hl := hR.1;refine rg cx ?_;refine zz (β := Nat × Nat) (fun b => ⟨52, [(1, .ptr 0 0 0), (3, .d (.int .i64 b.2)), (4, .d (.int .i64 b.1))], [(0, some ⟨24, 1, [(zt R).map .d]⟩)], 1⟩) (fun b => b.1 <= R.length /\ b.2 = (zlt R b.1).length) (fun b => R.length - b.1) (0, 0) ?_ ⟨Nat.zero_le _, by simp [zlt]⟩ ?_
  ·refine wk [(0, some 0)]
  ·rintro ⟨k, n0⟩ ⟨hk, hn⟩;simp only at hk hn;refine Nav.imp ?_;refine rg cx ?_;refine awp_cd (decide ((k : Int) < R.length)) (fun hb => ?_) fun hb => ?_
   ·have hlt : k < R.length := by simpa using hb
    obtain ⟨w, hw⟩ := zak hlt;have hs : (zlt R (k + 1)).length = n0 + lenN w.runs := by rw [rowsTo_next hw, List.length_append, zum, hn]
    have hbd := rows_big hv hR (i := k + 1) hlt;have hwl := hR.2 w (List.mem_of_getElem? hw);have hfi := (zcq hv hw).2;have e0 := wI ((k : Int) + 1);refine rg cx ?_;refine zz (β := Nat × Nat) (fun b => ⟨52, [(1, .ptr 0 0 0), (3, .d (.int .i64 b.2)), (4, .d (.int .i64 k)), (5, .d (.int .i64 b.1))], [(0, some ⟨24, 1, [(zt R).map .d]⟩)], 1⟩) (fun b => b.1 <= w.runs.length /\ b.2 = n0 + lenN (w.runs.take b.1)) (fun b => w.runs.length - b.1) (0, n0) ?_ ⟨Nat.zero_le _, by simp [lenN]⟩ ?_
    ·refine wk [(0, some 0)]
    ·rintro ⟨j, n1⟩ ⟨hj, hn1⟩;simp only at hj hn1;refine Nav.imp ?_;refine rx cx [] (fun K hK => by simp [push_cast, hw, Row.row]; (repeat refine ob ?_); exact hK) ?_;refine awp_cd (decide ((j : Int) < w.runs.length)) (fun hb => ?_) fun hb => ?_
     ·have hjl : j < w.runs.length := by simpa using hb
      obtain ⟨r, hr⟩ := zak hjl;have hs2 := lenN_take hr;have hbj := ztl (zhg hfi) j (by omega);have hbig := rows_big hv hR hk;have hrf := zhh hfi hr;obtain ⟨ra, rb⟩ := r;simp only at hs2 hrf;have e1 := wI ((j : Int) + 1);have e4 := wI (rb - ra);have e2 := wI ((n1 : Int) + (rb - ra));have e3 : (n1 : Int) + (rb - ra) = ((n0 + lenN (w.runs.take (j + 1)) : Nat) : Int) := by rw [hs2]; omega
      generalize hn2 : n0 + lenN (w.runs.take (j + 1)) = n2 at *;rw [e3] at e2;refine rd cx mixed [] (fun K hK => by simp [push_cast, hw, hr, e4, e2, e3, Row.row, Run.row]; (repeat refine ob ?_); exact hK) ?_;refine rx cx [] (fun K hK => by simp [push_cast, e1]; (repeat refine ob ?_); exact hK) ?_;refine ⟨(j + 1, n2), ⟨hjl, hn2.symm⟩, by simp only; omega, ?_⟩;refine wk [(0, some 0)]
     ·have hjn : j = w.runs.length := by simp at hb; omega
      subst hjn;rw [List.take_length] at hn1;rw [<- hn1] at hs;refine rx cx [] (fun K hK => by simp [push_cast, e0]; (repeat refine ob ?_); exact hK) ?_;refine ⟨(k + 1, n1), ⟨hlt, hs.symm⟩, by simp only; omega, ?_⟩;refine wk [(0, some 0)]
   ·have hge : k = R.length := by simp at hb; omega
    subst hge;rw [rowsTo_all] at hn;subst hn;refine rg cx ?_;simp [push_cast]

theorem rcount_ok (R : List Row) (hR : zdi R) : PC Tryz.prog 16 [.agg (zt R)] (.p (.int .i64 (zkv R))) := rcount_big R (zqt hR) fun _ => hR



theorem poly_near {R : List Row} (hv : zo R = true) {L : List Crk} (hL : zsh (Sof R) L) : ∀ p ∈ zay L, (-4096 <= p.x /\ p.x <= 4096) /\ -4096 <= p.y /\ p.y <= 4096 := by
 have hC : ∀ d ∈ L, d ∈ zbk R := fun d hd => by
  obtain ⟨c, n, hc, pc, rfl, _⟩ := hL;exact (ziw hv d).2 (znu hc hd)
 intro p hp;have : ∃ d ∈ L, d.p = p := by
  cases L with
  | nil => cases hp
  | cons c t =>
   rcases List.mem_cons.1 hp with rfl | hp
   ·exact ⟨c, by simp, rfl⟩
   ·obtain ⟨d, hd, e⟩ := zra hp; exact ⟨d, by simp [hd], e⟩
 obtain ⟨d, hd, rfl⟩ := this;exact zoo hv (hC d hd)
theorem zvo : ∀ Ls : List (List Crk), ((Ls.map zay).map List.length).sum <= Ls.flatten.length
 | [] => by simp
 | L :: Ls => by
  have h1 := zvo Ls;have h2 := polyOf_len L;simp only [List.map_cons, List.sum_cons, List.flatten_cons, List.length_append];omega
theorem mem_sum_le : ∀ {l : List (List ze)} {P : List ze}, P ∈ l -> P.length <= (l.map List.length).sum
 | Q :: l, P, h => by
  rw [List.map_cons, List.sum_cons];rcases List.mem_cons.1 h with rfl | h
  ·omega
  ·have := mem_sum_le h; omega
theorem len_le_flat {S : ze -> Bool} : ∀ {Ls : List (List Crk)}, (∀ L ∈ Ls, zsh S L) -> Ls.length <= Ls.flatten.length
 | [], _ => by simp
 | L :: Ls, h => by
  have h1 := len_le_flat fun M hM => h M (List.mem_cons_of_mem L hM);obtain ⟨c, n, hc, pc, rfl, _⟩ := h L (by simp);have := pc.pos;rw [List.flatten_cons, List.length_append, zdj, List.length_cons];omega
theorem trace_sizes {R : List Row} (hv : zo R = true) {Ls : List (List Crk)} (h : Lps (Sof R) Ls) : Ls.length <= (zbk R).length /\ ((Ls.map zay).map List.length).sum <= (zbk R).length := by
 have hp := (zvc (zcx hv) (zeu hv) h).length_eq;have h1 := len_le_flat h.each;have h2 := zvo Ls;omega
def R0 : List Row := [⟨1, [⟨2, 3⟩]⟩]

theorem cF_len : ∀ (l : List Crk) (out : List ze), (cF l out).length <= out.length + 2 * l.length
 | [], out => by simp [cF]
 | [x], out => by simp [cF]
 | x :: y :: t, out => by
  have h1 := cF_len (y :: t) (zhp (adC out (zae x.h x.p)) x.h y.h y.p);have h2 := turnF_len (adC out (zae x.h x.p)) x.h y.h y.p;have h3 := adC_len out (zae x.h x.p);simp only [cF, List.length_cons] at *;omega
theorem finF_len (out : List ze) : (zvr out).length <= out.length := by
 unfold zvr; split <;> simp
theorem walkW_len (L : List Crk) : (zcm L).length <= 2 * L.length + 2 := by
 unfold zcm seqW;have h1 := finF_len;cases L with
 | nil => simp [zvr]
 | cons c t =>
  have h2 := cF_len (c :: t ++ [c]) [];have h3 := h1 (cF (c :: t ++ [c]) []);simp only [List.length_append, List.length_cons, List.length_nil] at h2;simp only [List.length_cons];omega
def zjz (L : List Crk) : zm := ⟨1, true, zcm L⟩
theorem zvp {Ls : List (List Crk)} {L : List Crk} (h : L ∈ Ls) : L.length <= Ls.flatten.length := by
 induction Ls with
 | nil => cases h
 | cons M Ls ih =>
  rw [List.flatten_cons, List.length_append];rcases List.mem_cons.1 h with rfl | h
  ·omega
  ·have := ih h; omega
set_option maxHeartbeats 8000000 in
theorem rWalk_ok (X : List Row) (hv : zo X = true) (hX : zdi X) (hbig : (zbk X).length <= 10000) (Ls : List (List Crk)) (hL : Lps (Sof X) Ls) : PC Tryz.prog 69 [.agg (zt X)] (.p (.sl ((Ls.map zjz).map zm.row))) := by
 have c1 := trace_ok X hX (fun _ => by omega) Ls fun _ => hL;rw [if_pos hv] at c1;obtain ⟨s1, s2⟩ := trace_sizes hv hL;have hfl := (zvc (zcx hv) (zeu hv) hL).length_eq;have hlen : ∀ L ∈ Ls, (zcm L).length <= 65536 := fun L h => by
  have h1 := walkW_len L;have h2 := zvp h;omega
 have hw : ∀ L ∈ Ls, PC Tryz.prog 127 [zai (zay L)] (.p (zai (zcm L))) := fun L h => by
  have hi := hL.each L h;obtain ⟨c, K, e1, e2, e3⟩ := loop_walk (zcx hv) hi;have hn := poly_near hv hi;have hpl : (zay L).length <= (zbk X).length := by
   have := mem_sum_le (List.mem_map_of_mem (f := zay) h);omega
  have := rwalk_ok c K e2 (by rw [e1, List.length_map] at hpl; omega) fun x hx => by
   have := hn x.p (by rw [e1]; exact List.mem_map_of_mem hx);omega
  rw [e3, <- e1] at this;exact this
 have hLl : Ls.length <= 10000 := by omega
 have hg : ∀ (i : Nat) (L : List Crk), Ls[i]? = some L -> (Ls.map fun L => [zai (zay L)])[i]? = some [zai (zay L)] := fun i L h => by rw [List.getElem?_map, h]; rfl
 have hgl : (Ls.map fun L => [zai (zay L)]).length = Ls.length := List.length_map ..;clear s1 s2 hfl hbig hL;generalize (Ls.map fun L => [zai (zay L)]) = ps at *;refine pw cx Tryz.func69 Tryz.ntmps69 ?_;refine rg cx ?_;refine rg cx ?_;refine rx cx [(1, .p (.sl ps))] (fun K hK => by simp [push_cast, c1, hgl]; (repeat refine ob ?_); exact hK) ?_;refine zz (β := Nat × List zm) (fun s => ⟨27, [(3, .hs 0 0 s.2.length), (8, .d (.sl ps)), (9, .d (.int .i64 Ls.length)), (10, .d (.int .i64 s.1))], [(0, some ⟨94, 3, dr (s.2.map zm.row)⟩)], 1⟩) (fun s => s.1 <= Ls.length /\ s.2 = (Ls.take s.1).map zjz) (fun s => Ls.length - s.1) (0, []) ?_ ⟨Nat.zero_le _, by simp⟩ ?_
 ·refine wq [(0, none)] (by simp [upT, upH, upR, upL, up, push_cast, hgl])
 ·rintro ⟨i, out⟩ ⟨hi, hout⟩;simp only at hi hout;refine Nav.imp ?_;refine rg cx ?_;refine awp_cd (decide ((i : Int) < Ls.length)) (fun hb => ?_) fun hb => ?_
  ·have hlt : i < Ls.length := by simpa using hb
   obtain ⟨L, hLi⟩ := zak hlt;have hm := List.mem_of_getElem? hLi;have a1 := hg i L hLi;have c2 := hw L hm;have hl := hlen L hm;have e0 := wI ((i : Int) + 1);have hnx : (Ls.take (i + 1)).map zjz = out ++ [zjz L] := by rw [zbm hLi, hout]; simp
   have hW : zjz L = ⟨1, true, zcm L⟩ := rfl;have hol : out.length <= 10000 := by rw [hout]; simp; omega
   have h40 : (out.length + 1) * 40 <= 140737488355328 := by omega
   have hl2 : ((zcm L).length : Int) <= 65536 := by omega
   rw [hW] at hnx;generalize zcm L = cs at *;generalize zay L = P at *;refine rx cx [] (fun K hK => by simp [push_cast, a1]; (repeat refine ob ?_); exact hK) ?_;refine rx cx [(2, .p (zai cs))] (fun K hK => by simp [push_cast, c2]; (repeat refine ob ?_); exact hK) ?_;refine rx cx [] (fun K hK => by simp [push_cast, hl, hl2]; (repeat refine ob ?_); exact hK) ?_;refine awp_cn true (by simp [push_cast, hl, hl2]) (fun hb => ?_) fun hb => ?_
   ·refine rx cx [] (fun K hK => by simp [push_cast, h40, zm.row]; (repeat refine ob ?_); exact hK) ?_;refine rx cx [] (fun K hK => by simp [push_cast, e0]; (repeat refine ob ?_); exact hK) ?_;refine ⟨(i + 1, out ++ [⟨1, true, cs⟩]), ⟨hlt, hnx.symm⟩, by simp only; omega, ?_⟩;refine wq [(0, some 17)] (by simp [upT, upH, upR, upL, up, push_cast, zm.row])
   ·simp at hb
  ·have hie : i = Ls.length := by simp at hb; omega
   subst hie;rw [List.take_length] at hout;rw [<- hout];clear hout;refine zaf 0 (out.map zm.row) rfl (by simp [push_cast]) fun K hK => ?_;simp [push_cast, St.fz, fzT, fzH, fzO, fz, fzL, fzR, zbc, zat, zas, zaq];refine nx hK ?_; clear hK K;refine rg cx ?_;simp [push_cast]
end Go.Proofs.YtdddknniooimmaaGreat
