/-
  Texts of this seat put together: M2, N0, M3, N1, N2, M4, M5, M6.
-/
import Derived.Test.YtdddknniooimmaaGreatJT10
import Derived.Test.YtdddknniooimmaaGreatJT6
import Derived.Test.YtdddknniooimmaaGreatJT5
import Derived.Test.YtdddknniooimmaaGreatJT9
set_option linter.unusedVariables false
set_option linter.unusedSimpArgs false
set_option maxRecDepth 100000
namespace Go.Proofs.YtdddknniooimmaaGreat
open Go.Abs

def zkl (out : List Run) (r : Run) : List Run := match out.getLast? with
 | some q => if r.a <= q.b then out.dropLast ++ [⟨q.a, max q.b r.b⟩] else out ++ [r]
 | none => [r]
def zeu (l : List Run) : List Run := l.foldl zkl []
theorem zrq (r : Run) : zkl [] r = [r] := rfl
theorem zrr (o : List Run) (q r : Run) : zkl (o ++ [q]) r = if r.a <= q.b then o ++ [⟨q.a, max q.b r.b⟩] else o ++ [q] ++ [r] := by simp [zkl]
theorem joinL_take {l : List Run} {k : Nat} {r : Run} (h : l[k]? = some r) : zeu (l.take (k + 1)) = zkl (zeu (l.take k)) r := by
 unfold zeu; rw [zat h, List.foldl_append]; rfl
theorem joinOne_len (out : List Run) (r : Run) : (zkl out r).length <= out.length + 1 := by
 rcases List.eq_nil_or_concat out with rfl | ⟨o, q, rfl⟩
 ·simp [zrq]
 ·rw [List.concat_eq_append, zrr]; split <;> simp

set_option maxHeartbeats 2000000 in
theorem join_ok (l : List Run) (hl : l.length <= 1000000) : PC Tryz.prog 125 [zm l] (.p (zm (zeu l))) := by
 refine pw cx Tryz.func125 Tryz.ntmps125 ?_;iterate 3 refine rg cx ?_
 refine zu (β := Nat × List Run) (fun s => ⟨46, [(3, .hs 0 0 s.2.length), (7, .d (zm l)), (8, .d (.int .i64 l.length)), (9, .d (.int .i64 s.1))], [(0, some ⟨85, 2, dr (s.2.map Run.row)⟩)], 1⟩) (fun s => s.1 <= l.length /\ s.2.length <= s.1 /\ s.2 = zeu (l.take s.1)) (fun s => l.length - s.1) (0, []) ?_ ⟨Nat.zero_le _, by simp, by simp [zeu]⟩ ?_
 ·refine wk [(0, none)]
 ·rintro ⟨i, out⟩ ⟨hi, hol, hZ⟩;simp only at hi hol hZ;refine Nav.imp ?_;refine rg cx ?_;refine awp_cd (decide ((i : Int) < l.length)) (fun hb => ?_) fun hb => ?_
  ·have hlt : i < l.length := by simpa using hb
   obtain ⟨r, hr⟩ := zap hlt;have e0 := wI ((i : Int) + 1);have hnx : zeu (l.take (i + 1)) = zkl out r := by rw [joinL_take hr, hZ]
   have hnl : (zkl out r).length <= i + 1 := Nat.le_trans (joinOne_len out r) (by omega);have hO16 : (out.length + 1) * 16 <= 140737488355328 := by omega
   clear hZ;obtain ⟨ra, rb⟩ := r;rcases List.eq_nil_or_concat out with rfl | ⟨o, q, rfl⟩
   ·rw [zrq] at hnx hnl;have e1 := wI ((((0 : Nat)) : Int) - 1);refine rx cx [] (fun K hK => by simp [push_cast, hr, Run.row]; (repeat refine ob ?_); exact hK) ?_;refine rx cx [] (fun K hK => by simp [push_cast, e1]; (repeat refine ob ?_); exact hK) ?_;refine rd cx mixed [] (fun K hK => by simp [push_cast]; (repeat refine ob ?_); exact hK) ?_;refine awp_cd false (fun hb => ?_) fun hb => ?_
    ·simp at hb
    ·refine rg cx ?_;refine rx cx [] (fun K hK => by simp [push_cast, e0]; (repeat refine ob ?_); exact hK) ?_;refine ⟨(i + 1, [⟨ra, rb⟩]), ⟨hlt, hnl, hnx.symm⟩, by simp only; omega, ?_⟩;refine wq [(0, some 25)] (by simp [upT, upH, upR, upL, up, push_cast, Run.row])
   ·rw [List.concat_eq_append] at *;rw [zrr] at hnx hnl;have hz : (o ++ [q])[o.length]? = some q := by simp
    have hlen : (o ++ [q]).length = o.length + 1 := by simp
    obtain ⟨qa, qb⟩ := q;simp only at hnx hnl;have hset : ∀ Y : Int, (dr ((o ++ [(⟨qa, qb⟩ : Run)]).map Run.row)).set o.length [.d (.int .i64 qa), .d (.int .i64 Y)] = dr ((o ++ [(⟨qa, Y⟩ : Run)]).map Run.row) := fun Y => by simp [dr, List.map_set, Run.row]
    have hset := hset (max qb rb);have e1 := wI (((o.length + 1 : Nat) : Int) - 1);have e2 : (((o.length + 1 : Nat) : Int) - 1) = o.length := by omega
    rw [e2] at e1;have e3 : (0 : Int) <= (o.length : Int) := by omega
    have hjl : (o ++ [(⟨qa, max qb rb⟩ : Run)]).length = o.length + 1 := by simp
    generalize hJ : o ++ [(⟨qa, max qb rb⟩ : Run)] = J at *;generalize hA : o ++ [(⟨qa, qb⟩ : Run)] = A at *;rw [hlen];refine rx cx [] (fun K hK => by simp [push_cast, hr, Run.row]; (repeat refine ob ?_); exact hK) ?_;refine rx cx [] (fun K hK => by simp [push_cast, e1, e2]; (repeat refine ob ?_); exact hK) ?_;refine rd cx mixed [] (fun K hK => by simp [push_cast, hz, e1, e2, e3, Run.row]; (repeat refine ob ?_); exact hK) ?_;refine awp_cn (decide (ra <= qb)) (by simp [push_cast, e3]) (fun hb => ?_) fun hb => ?_
    ·have hq : ra <= qb := by simpa using hb
     rw [if_pos hq] at hnx hnl;refine rd cx mixed [] (fun K hK => by simp [push_cast, hz, e1, e2, e3, Run.row, hset]; (repeat refine ob ?_); exact hK) ?_;refine rx cx [] (fun K hK => by simp [push_cast, e0]; (repeat refine ob ?_); exact hK) ?_;refine ⟨(i + 1, J), ⟨hlt, hnl, hnx.symm⟩, by simp only; omega, ?_⟩;refine wq [(0, some 0)] (by simp [upT, upH, upR, upL, up, push_cast, Run.row, hjl])
    ·have hq : ¬ ra <= qb := by simpa using hb
     rw [if_neg hq] at hnx hnl;rw [<- hlen];refine rx cx [] (fun K hK => by simp [push_cast, hO16]; (repeat refine ob ?_); exact hK) ?_;refine rx cx [] (fun K hK => by simp [push_cast, e0]; (repeat refine ob ?_); exact hK) ?_;refine ⟨(i + 1, A ++ [⟨ra, rb⟩]), ⟨hlt, hnl, hnx.symm⟩, by simp only; omega, ?_⟩;refine wq [(0, some 25)] (by simp [upT, upH, upR, upL, up, push_cast, Run.row])
  ·have hge : i = l.length := by simp at hb; omega
   subst hge;rw [List.take_length] at hZ;rw [<- hZ];refine rg cx ?_;have ht : List.take out.length (out.map Run.row) = out.map Run.row := List.take_of_length_le (by simp);simp [push_cast, ht]

theorem zin (C D : List Run) (y : Int) : inR (C ++ D) y = (inR C y || inR D y) := by simp [inR]
theorem inR_one (r : Run) (y : Int) : inR [r] y = (decide (r.a <= y) && decide (y < r.b)) := by simp [inR]

theorem joinL_app (l : List Run) (r : Run) : zeu (l ++ [r]) = zkl (zeu l) r := by simp [zeu]
theorem zrs : ∀ (n : Nat) (l : List Run), l.length = n -> (∀ r ∈ l, r.a < r.b) -> l.Pairwise (fun p r => p.a <= r.a) -> zfn (zeu l) /\ (∀ x, inR (zeu l) x = inR l x) /\ ∀ q ∈ zeu l, ∃ r ∈ l, q.a = r.a
 | 0, l, hn, _, _ => by
  have : l = [] := List.eq_nil_of_length_eq_zero hn;subst this;exact ⟨⟨by simp [zeu], by simp [zeu]⟩, fun x => rfl, by simp [zeu]⟩
 | n + 1, l, hn, hlt, hs => by
  obtain ⟨m, r, rfl⟩ : ∃ m r, l = m ++ [r] := ⟨l.dropLast, l.getLast (by intro e; simp [e] at hn), (List.dropLast_concat_getLast _).symm⟩
  have hs' := List.pairwise_append.1 hs;obtain ⟨i1, i2, i3⟩ := zrs n m (by simpa using hn) (fun q hq => hlt q (by simp [hq])) hs'.1;have hr := hlt r (by simp);rw [joinL_app];by_cases h0 : zeu m = []
  ·rw [h0, zrq];refine ⟨⟨by simpa using hr, by simp⟩, fun x => ?_, fun q hq => ⟨r, by simp, by simp at hq; rw [hq]⟩⟩;rw [zin, <- i2, h0]; simp [inR]
  ·obtain ⟨o, q, hq⟩ : ∃ o q, zeu m = o ++ [q] := ⟨(zeu m).dropLast, (zeu m).getLast h0, (List.dropLast_concat_getLast h0).symm⟩
   rw [hq] at i1 i2 i3 ⊢;rw [zrr];have hqa : q.a <= r.a := by
    obtain ⟨p, hp, e⟩ := i3 q (by simp);rw [e]; exact hs'.2.2 p hp r (by simp)
   have hqb := i1.1 q (by simp);have ipw := List.pairwise_append.1 i1.2;split
   ·rename_i hle;refine ⟨⟨fun p hp => ?_, ?_⟩, fun x => ?_, fun p hp => ?_⟩
    ·simp only [List.mem_append, List.mem_singleton] at hp;rcases hp with hp | rfl
     ·exact i1.1 p (by simp [hp])
     ·simp only; omega
    ·refine List.pairwise_append.2 ⟨ipw.1, by simp, fun p hp s hs => ?_⟩;simp only [List.mem_singleton] at hs;subst hs;exact ipw.2.2 p hp q (by simp)
    ·rw [zin, zin, <- i2, zin, inR_one, inR_one, inR_one, Bool.or_assoc]
     congr 1
     rw [Bool.eq_iff_iff];simp only [Bool.or_eq_true, Bool.and_eq_true, decide_eq_true_eq];omega
    ·simp only [List.mem_append, List.mem_singleton] at hp;rcases hp with hp | rfl
     ·obtain ⟨s, hs, e⟩ := i3 p (by simp [hp]); exact ⟨s, by simp [hs], e⟩
     ·obtain ⟨s, hs, e⟩ := i3 q (by simp); exact ⟨s, by simp [hs], e⟩
   ·rename_i hgt;refine ⟨⟨fun p hp => ?_, ?_⟩, fun x => ?_, fun p hp => ?_⟩
    ·simp only [List.mem_append, List.mem_singleton] at hp;rcases hp with (hp | rfl) | rfl
     ·exact i1.1 p (by simp [hp])
     ·exact hqb
     ·exact hr
    ·refine List.pairwise_append.2 ⟨i1.2, by simp, fun p hp s hs => ?_⟩;simp only [List.mem_singleton] at hs;subst hs;simp only [List.mem_append, List.mem_singleton] at hp;rcases hp with hp | rfl
     ·have := ipw.2.2 p hp q (by simp); have := i1.1 q (by simp); omega
     ·omega
    ·rw [zin, i2, zin]
    ·simp only [List.mem_append, List.mem_singleton] at hp;rcases hp with (hp | rfl) | rfl
     ·obtain ⟨s, hs, e⟩ := i3 p (by simp [hp]); exact ⟨s, by simp [hs], e⟩
     ·obtain ⟨s, hs, e⟩ := i3 p (by simp); exact ⟨s, by simp [hs], e⟩
     ·exact ⟨p, by simp, rfl⟩

def zpl (k : Int) (r : Run) : Run := ⟨r.a - k, r.b + k⟩
def groL (l : List Run) (k : Int) : List Run := zeu (l.map (zpl k))
theorem groL_facts {l : List Run} (hf : zfm l = true) {k : Int} (hk : 0 <= k /\ k <= 64) : zfn (groL l k) /\ (∀ r ∈ groL l k, -4160 <= r.a /\ r.b <= 4160) /\ ∀ x, inR (groL l k) x = true ↔ ∃ r ∈ l, r.a - k <= x /\ x < r.b + k := by
 obtain ⟨_, ha, hb⟩ := zfd.1 hf;obtain ⟨h1, h2, _⟩ := zrs _ (l.map (zpl k)) rfl (fun r hr => by
  obtain ⟨q, hq, rfl⟩ := List.mem_map.1 hr;have := ha.1 q hq;simp only [zpl]; omega) (by
  rw [List.pairwise_map];refine ha.2.imp_of_mem fun {p r} hp hr h => ?_;have := ha.1 p hp;simp only [zpl]; omega)
 have hm : ∀ x, inR (groL l k) x = true ↔ ∃ r ∈ l, r.a - k <= x /\ x < r.b + k := fun x => by
  unfold groL;rw [h2, zai];constructor
  ·rintro ⟨r, hr, h⟩;obtain ⟨q, hq, rfl⟩ := List.mem_map.1 hr;exact ⟨q, hq, h⟩
  ·rintro ⟨q, hq, h⟩;exact ⟨zpl k q, List.mem_map.2 ⟨q, hq, rfl⟩, h⟩
 refine ⟨h1, zfi h1 fun y hy => ?_, hm⟩;obtain ⟨r, hr, h3, h4⟩ := (hm y).1 hy;have := hb r hr;omega
theorem apart_rv {l : List Run} (h : zfn l) (hb : ∀ r ∈ l, -4160 <= r.a /\ r.b <= 4160) : zal l = true :=
 zox.2 ⟨h, fun r hr => by have := hb r hr; have := h.1 r hr; simp [zjn]; omega⟩
theorem apart_small {l : List Run} (h : zfn l) (hb : ∀ r ∈ l, -4160 <= r.a /\ r.b <= 4160) : l.length <= 8320 := by
 have := zte h hb; omega

def zmr (M : List (Int × List Run)) : List (List D) := zmo (fun y => .int .i64 y) zm M
def zij (M : List (Int × List Run)) (y : Int) : List Run := (zan M y).getD []
theorem eqK_int (a b : Int) : eqK (.int .i64 a) (.int .i64 b) = some (decide (a = b)) := by
 simp only [eqK, if_true, Option.some.injEq];by_cases h : a = b <;> simp [h]
theorem putR_mp (y : Int) (b : List Run) (M : List (Int × List Run)) : zlw (.int .i64 y) (.d (.sl (b.map Run.row))) (dr (zmr M)) = some (dr (zmr (zcz M y b))) :=
 putR_row (kd := fun y => D.int .i64 y) (vd := zm) eqK_int y b M
theorem look_mp (y : Int) (M : List (Int × List Run)) : zgx .nl false (zhg (.int .i64 y) (dr (zmr M))) (.sl ((zij M y).map Run.row)) = True := by
 rw [show dr (zmr M) = dr (zmo (fun y => D.int .i64 y) zm M) from rfl, zsx (kd := fun y => D.int .i64 y) (vd := zm) eqK_int y M];unfold zij;cases zan M y <;> simp [zgx, outD, zm]
theorem mp_nil : ([] : List (List AV)) = dr (zmr []) := rfl
theorem mget_put (M : List (Int × List Run)) (y z : Int) (l : List Run) : zij (zcz M y l) z = if z = y then l else zij M z := by
 unfold zij; rw [zdc]; split <;> rfl


set_option maxHeartbeats 1000000 in
theorem grow_ok (l : List Run) (d : Int) (hf : zfm l = true) (hl : l.length <= 1000000) (hd : 0 <= d /\ d <= 64) : PC Tryz.prog 63 [zm l, .int .i64 d] (.p (.tup [zm (groL l d), .int .i64 0])) := by
 have c1 := zne l hl;have c2 := join_ok (l.map (zpl d)) (by simpa using hl);have hG : groL l d = zeu (l.map (zpl d)) := rfl;rw [<- hG] at c2;generalize groL l d = res at *;clear hG;rw [zfc hf] at c1;obtain ⟨f, z, hf0, hz, q1, q2, q3⟩ := znu hf;have hm1 : 16 * (l.length : Int) <= 281474976710656 := by omega
 have hm2 : (l.length : Int) <= 9223372036854775807 := by omega
 have e1 := wI ((l.length : Int) - 1);have e2 : ((l.length : Int) - 1).toNat = l.length - 1 := by omega
 have e3 : (0 : Int) <= (l.length : Int) - 1 := by omega
 have e4 : ((l.length : Int) == 0) = false := by simp; rintro rfl; simp at q3
 obtain ⟨fa, fb⟩ := f;obtain ⟨za, zb⟩ := z;simp only at q1 q2;have d1 := wI (fa - d);have d2 := wI (zb + d);have n1 : ¬ d < 0 := by omega
 have n2 : ¬ (65536 : Int) < d := by omega
 have n3 : ¬ fa - d < -1048576 := by omega
 have n4 : ¬ (1048576 : Int) < zb + d := by omega
 refine pw cx Tryz.func63 Tryz.ntmps63 ?_;refine rg cx ?_;refine rx cx [(1, .p (.bool true))] (fun K hK => by simp [push_cast, c1, n1, n2]; (repeat refine ob ?_); exact hK) ?_;refine awp_cn false (by simp [push_cast, n1, n2]) (fun hb => ?_) fun hb => ?_
 ·simp at hb
 ·refine rg cx ?_;refine awp_cn false (by simp [push_cast, e4]) (fun hb => ?_) fun hb => ?_
  ·simp at hb
  ·refine rx cx [] (fun K hK => by simp [push_cast, hf0, hz, e1, e2, e3, d1, d2, n3, n4, Run.row]; (repeat refine ob ?_); exact hK) ?_;refine awp_cn false (by simp [push_cast, n3, n4]) (fun hb => ?_) fun hb => ?_
   ·simp at hb
   ·refine rx cx [] (fun K hK => by simp [push_cast, hm1, hm2]; (repeat refine ob ?_); exact hK) ?_;refine rg cx ?_;refine zu (β := Nat × List Run) (fun b => ⟨70, [(1, .d (.int .i64 d)), (6, .hs 0 0 b.2.length), (48, .d (zm l)), (49, .d (.int .i64 l.length)), (50, .d (.int .i64 b.1))], [(0, some ⟨85, 2, dr (b.2.map Run.row)⟩)], 1⟩) (fun b => b.1 <= l.length /\ b.2.length = l.length /\ b.2.take b.1 = (l.take b.1).map (zpl d)) (fun b => l.length - b.1) (0, List.replicate l.length ⟨0, 0⟩) ?_ ⟨Nat.zero_le _, by simp, by simp⟩ ?_
    ·have hrep : List.replicate l.length [AV.d (.int .i64 0), AV.d (.int .i64 0)] = dr ((List.replicate l.length (⟨0, 0⟩ : Run)).map Run.row) := by simp [dr, Run.row]
     refine wq [(0, some 40)] (by simp [upT, upH, upR, upL, up, push_cast, hrep])
    ·rintro ⟨k, Z⟩ ⟨hk, hZl, hZ⟩;simp only at hk hZl hZ;refine Nav.imp ?_;refine rg cx ?_;refine awp_cd (decide ((k : Int) < l.length)) (fun hb => ?_) fun hb => ?_
     ·have hlt : k < l.length := by simpa using hb
      obtain ⟨r, hr⟩ := zap hlt;have hrb := ziy hf hr;have e0 := wI ((k : Int) + 1);obtain ⟨ra, rb⟩ := r;simp only at hrb;have s1 := wI (ra - d);have s2 := wI (rb + d);obtain ⟨y, hy⟩ : ∃ y, Z[k]? = some y := zap (by omega);obtain ⟨Y, hY⟩ : ∃ Y, Y = Z.set k ⟨ra - d, rb + d⟩ := ⟨_, rfl⟩
      have hset : (dr (Z.map Run.row)).set k [.d (.int .i64 (ra - d)), .d (.int .i64 (rb + d))] = dr (Y.map Run.row) := by rw [hY]; simp [dr, List.map_set]
      have hYl : Y.length = Z.length := by rw [hY]; simp
      have hYt : Y.take (k + 1) = (l.take (k + 1)).map (zpl d) := by
       rw [hY, zat hr, List.map_append, <- hZ, zat (x := ⟨ra - d, rb + d⟩) (by rw [List.getElem?_set_self (by omega)]), List.take_set_of_le (by omega)];rfl
      clear hY;refine rx cx [] (fun K hK => by simp [push_cast, hr, Run.row]; (repeat refine ob ?_); exact hK) ?_;refine rx cx [] (fun K hK => by simp [push_cast, hy, s1, s2, hset, Run.row]; (repeat refine ob ?_); exact hK) ?_;refine rx cx [] (fun K hK => by simp [push_cast, e0]; (repeat refine ob ?_); exact hK) ?_;rw [<- hYl];refine ⟨(k + 1, Y), ⟨hlt, by simp only; omega, hYt⟩, by simp only; omega, ?_⟩;refine wk [(0, some 0)]
     ·have hge : k = l.length := by simp at hb; omega
      subst hge;rw [List.take_length, <- hZl, List.take_length] at hZ;rw [<- hZ] at c2;have ht : List.take Z.length (Z.map Run.row) = Z.map Run.row := List.take_of_length_le (by simp);refine zaq 0 (Z.map Run.row) rfl (by simp [push_cast, Run.row, ht]) fun K hK => ?_;simp [push_cast, St.fz, fzT, fzH, fzO, fz, fzL, fzR, zbx, zbo, zbn, zbm, Run.row, ht];refine nx hK ?_; clear hK K;refine rx cx [(1, .p (zm res))] (fun K hK => by simp [push_cast, c2, ht]; (repeat refine ob ?_); exact hK) ?_;simp [push_cast, ht]

def nearStep (g : List Run) (M : List (Int × List Run)) (y : Int) : List (Int × List Run) := zcz M y (sweep fU (zij M y) g)
def NI (P : Int -> Int -> Prop) (M : List (Int × List Run)) : Prop := ∀ y, zfn (zij M y) /\ (∀ r ∈ zij M y, -4160 <= r.a /\ r.b <= 4160) /\ ∀ x, inR (zij M y) x = true ↔ P y x
theorem NI.nil : NI (fun _ _ => False) [] := fun y => ⟨⟨by simp [zij, zan], by simp [zij, zan]⟩, by simp [zij, zan], by simp [zij, zan, inR]⟩
theorem NI.congr {P Q : Int -> Int -> Prop} {M : List (Int × List Run)} (h : NI P M) (he : ∀ y x, P y x ↔ Q y x) : NI Q M := fun y => ⟨(h y).1, (h y).2.1, fun x => ((h y).2.2 x).trans (he y x)⟩
theorem NI.step {P : Int -> Int -> Prop} {M : List (Int × List Run)} (h : NI P M) {g : List Run} (hg : zfn g) (hb : ∀ r ∈ g, -4160 <= r.a /\ r.b <= 4160) (z : Int) : NI (fun y x => P y x \/ (y = z /\ inR g x = true)) (nearStep g M z) := by
 intro y;have h1 := h z;have hs := zda (f := fU) rfl (apart_rv h1.1 h1.2.1) (apart_rv hg hb);unfold nearStep;rw [mget_put];split
 ·rename_i e;subst e;refine ⟨hs.1, zfi hs.1 fun x hx => ?_, fun x => ?_⟩
  ·rw [hs.2] at hx;simp only [fU, Bool.or_eq_true] at hx;rcases hx with hx | hx
   ·obtain ⟨r, hr, h3, h4⟩ := zai.1 hx; have := h1.2.1 r hr; omega
   ·obtain ⟨r, hr, h3, h4⟩ := zai.1 hx; have := hb r hr; omega
  ·rw [hs.2];simp only [fU, Bool.or_eq_true, true_and, h1.2.2]
 ·rename_i e;refine ⟨(h y).1, (h y).2.1, fun x => ?_⟩;rw [(h y).2.2];simp [e]
def nearP (R : List Row) (K : Nat) (y x : Int) : Prop := ∃ w ∈ R, w.y - K <= y /\ y <= w.y + K /\ ∃ r ∈ w.runs, r.a - K <= x /\ x < r.b + K

theorem flat_pw {α β : Type} {P : α -> α -> Prop} {Q : β -> β -> Prop} {f : α -> List β} (h1 : ∀ a, (f a).length <= 1) (h2 : ∀ a b x y, P a b -> x ∈ f a -> y ∈ f b -> Q x y) : ∀ {l : List α}, l.Pairwise P -> (l.flatMap f).Pairwise Q
 | [], _ => by simp
 | a :: l, h => by
  obtain ⟨ha, hl⟩ := List.pairwise_cons.1 h;rw [List.flatMap_cons];refine List.pairwise_append.2 ⟨?_, flat_pw h1 h2 hl, fun x hx y hy => ?_⟩
  ·have := h1 a
   match h : f a, this with
   | [], _ => simp
   | [x], _ => simp
  ·obtain ⟨b, hb, hy⟩ := List.mem_flatMap.1 hy;exact h2 a b x y (ha b hb) hx hy

def OkL (l : List Run) : Prop := zfn l /\ ∀ r ∈ l, -4160 <= r.a /\ r.b <= 4160
theorem OkL.nil : OkL [] := ⟨⟨by simp, by simp⟩, by simp⟩
theorem OkL.rv {l : List Run} (h : OkL l) : zal l = true := apart_rv h.1 h.2
theorem OkL.len {l : List Run} (h : OkL l) : l.length <= 8320 := apart_small h.1 h.2
theorem OkL.sweep {f : Bool -> Bool -> Bool} (hf : f false false = false) {a b : List Run} (ha : OkL a) (hb : OkL b) : OkL (sweep f a b) := by
 obtain ⟨h1, h2⟩ := zda hf ha.rv hb.rv;refine ⟨h1, zfi h1 fun x hx => ?_⟩;rw [h2] at hx;cases q1 : inR a x with
 | true => obtain ⟨r, hr, h3, h4⟩ := zai.1 q1; have := ha.2 r hr; omega
 | false =>
  cases q2 : inR b x with
  | true => obtain ⟨r, hr, h3, h4⟩ := zai.1 q2; have := hb.2 r hr; omega
  | false => rw [q1, q2, hf] at hx; cases hx
def OkM (M : List (Int × List Run)) : Prop := ∀ y, OkL (zij M y)
def wj (f : Bool -> Bool -> Bool) (M : List (Int × List Run)) (y : Int) : Nat -> List Run
 | 0 => zij M y
 | j + 1 => sweep f (wj f M y j) (zij M (y + 1 + j))
theorem wj_ok {f : Bool -> Bool -> Bool} (hf : f false false = false) {M : List (Int × List Run)} (hM : OkM M) (y : Int) : ∀ j, OkL (wj f M y j)
 | 0 => hM y
 | j + 1 => (wj_ok hf hM y j).sweep hf (hM _)
theorem wj_U {M : List (Int × List Run)} (hM : OkM M) (y x : Int) : ∀ j : Nat, inR (wj fU M y j) x = true ↔ ∃ i : Nat, i <= j /\ inR (zij M (y + i)) x = true
 | 0 => by
  simp only [wj, Nat.le_zero];constructor
  ·intro h; exact ⟨0, rfl, by simpa using h⟩
  ·rintro ⟨i, rfl, h⟩; simpa using h
 | j + 1 => by
  have ih := wj_U hM y x j;simp only [wj, (zda (f := fU) rfl (wj_ok (f := fU) rfl hM y j).rv (hM (y + 1 + j)).rv).2, fU, Bool.or_eq_true, ih];constructor
  ·rintro (⟨i, hi, h⟩ | h)
   ·exact ⟨i, by omega, h⟩
   ·exact ⟨j + 1, Nat.le_refl _, by rw [show y + ((j + 1 : Nat) : Int) = y + 1 + j by omega]; exact h⟩
  ·rintro ⟨i, hi, h⟩;by_cases e : i = j + 1
   ·subst e; right; rw [show y + ((j + 1 : Nat) : Int) = y + 1 + j by omega] at h; exact h
   ·exact .inl ⟨i, by omega, h⟩
def rowW (f : Bool -> Bool -> Bool) (M : List (Int × List Run)) (y : Int) (K : Nat) : List Run := wj f M (y - K) (2 * K)

set_option maxHeartbeats 2000000 in
theorem wrow_ok (f : Bool -> Bool -> Bool) (hf : f false false = false) (g : FuncId) (hg : ∀ a b : List Run, a.length <= 1000000 -> b.length <= 1000000 -> zal a = true -> zal b = true -> PC Tryz.prog g [zm a, zm b] (.p (zm (sweep f a b))))
  (M : List (Int × List Run)) (hM : OkM M) (y : Int) (K : Nat) (hy : -10000 <= y /\ y <= 10000) (hK : K <= 64) :
  PC Tryz.prog 64 [.agg [.mp (zmr M), .fn (.func g) []], .int .i64 y, .int .i64 K] (.p (zm (rowW f M y K))) := by
 have hok := fun j => wj_ok hf hM (y - K) j;have h0 : wj f M (y - K) 0 = zij M (y - K) := rfl;have hs : ∀ j : Nat, wj f M (y - K) (j + 1) = sweep f (wj f M (y - K) j) (zij M (y - K + 1 + j)) := fun j => rfl;have hr : rowW f M y K = wj f M (y - K) (2 * K) := rfl;rw [hr];clear hr;generalize wj f M (y - K) = W at *;have e1 := wI (y - (K : Int));have e2 := wI (y - (K : Int) + 1);have e3 := wI (y + (K : Int));have hl0 := look_mp (y - K) M;refine pw cx Tryz.func64 Tryz.ntmps64 ?_;refine rg cx ?_;refine rx cx [(5, .p (zm (zij M (y - K))))] (fun K hK => by simp [push_cast, e1, hl0]; (repeat refine ob ?_); exact hK) ?_;rw [<- h0];refine rx cx [] (fun K hK => by simp [push_cast, e1, e2]; (repeat refine ob ?_); exact hK) ?_;refine zu (β := Nat) (fun j => ⟨35, [(1, .d (.int .i64 y)), (2, .d (.int .i64 K)), (3, .ptr 0 0 0), (7, .d (zm (W j))), (8, .d (.int .i64 (y - K + 1 + j)))], [(0, some ⟨89, 2, [[.d (.mp (zmr M)), .d (.fn (.func g) [])]]⟩)], 1⟩) (fun j => j <= 2 * K) (fun j => 2 * K - j) 0 ?_ (Nat.zero_le _) ?_
 ·refine wk [(0, some 0)]
 ·intro j hj
  replace hj : j <= 2 * K := hj
  refine Nav.imp ?_;by_cases hlt : j < 2 * K
  ·have q1 : y - (K : Int) + 1 + j <= y + K := by omega
   have e4 := wI (y - (K : Int) + 1 + j + 1);have hl := look_mp (y - K + 1 + j) M;have hA := hok j;have hB := hM (y - K + 1 + j);have c1 := hg (W j) (zij M (y - K + 1 + j)) (by have := hA.len; omega) (by have := hB.len; omega) hA.rv hB.rv;rw [<- hs j] at c1;refine rx cx [] (fun K hK => by simp [push_cast, e3]; (repeat refine ob ?_); exact hK) ?_;refine awp_cn true (by simp [push_cast, q1]) (fun hb => ?_) fun hb => ?_
   ·refine rx cx [(6, .p (zm (zij M (y - K + 1 + j)))), (7, .p (zm (W (j + 1))))] (fun K hK => by simp [push_cast, hl, c1]; (repeat refine ob ?_); exact hK) ?_;refine rx cx [] (fun K hK => by simp [push_cast, e4]; (repeat refine ob ?_); exact hK) ?_;refine ⟨j + 1, by show j + 1 <= 2 * K; omega, by show 2 * K - (j + 1) < 2 * K - j; omega, ?_⟩;refine wq [(0, some 0)] (by simp [upT, upH, upR, upL, up, push_cast, Int.add_assoc])
   ·simp at hb
  ·have hje : j = 2 * K := by omega
   subst hje;have q1 : y + (K : Int) < y - K + 1 + 2 * K := by omega
   refine rx cx [] (fun K hK => by simp [push_cast, e3]; (repeat refine ob ?_); exact hK) ?_;refine awp_cn false (by simp [push_cast, q1]) (fun hb => ?_) fun hb => ?_
   ·simp at hb
   ·refine rg cx ?_;simp [push_cast]

def zgu (F : List Run -> List Run) (R : List Row) : List (Int × List Run) := R.foldl (fun M w => zcz M w.y (F w.runs)) []
theorem rowMap_take {F : List Run -> List Run} {R : List Row} {i : Nat} {w : Row} (h : R[i]? = some w) : zgu F (R.take (i + 1)) = zcz (zgu F (R.take i)) w.y (F w.runs) := by simp [zgu, zat h]
theorem rowOf_cons (w : Row) (R : List Row) (y : Int) : zy (w :: R) y = if w.y = y then w.runs else zy R y := by
 unfold zy;rw [List.find?_cons];by_cases h : w.y = y <;> simp [h]
theorem rowMap_from (F : List Run -> List Run) : ∀ (R : List Row) (M : List (Int × List Run)) (y : Int), (R.Pairwise fun a b => a.y < b.y) ->
  zij (R.foldl (fun M w => zcz M w.y (F w.runs)) M) y = if (∃ w ∈ R, w.y = y) then F (zy R y) else zij M y
 | [], M, y, _ => by simp
 | w :: R, M, y, h => by
  obtain ⟨h1, h2⟩ := List.pairwise_cons.1 h;rw [List.foldl_cons, rowMap_from F R _ y h2, rowOf_cons, mget_put];by_cases hr : ∃ v ∈ R, v.y = y
  ·obtain ⟨v, hv, e⟩ := hr;have hne : w.y ≠ y := by have := h1 v hv; omega
   rw [if_pos ⟨v, hv, e⟩, if_pos ⟨v, by simp [hv], e⟩, if_neg hne]
  ·rw [if_neg hr];by_cases e : w.y = y
   ·rw [if_pos e.symm, if_pos ⟨w, by simp, e⟩, if_pos e]
   ·rw [if_neg (Ne.symm e), if_neg];rintro ⟨v, hv, e'⟩;rcases List.mem_cons.1 hv with rfl | hv
    ·exact e e'
    ·exact hr ⟨v, hv, e'⟩
theorem rowMap_get {F : List Run -> List Run} (h0 : F [] = []) {R : List Row} (hv : R.Pairwise fun a b => a.y < b.y) (y : Int) : zij (zgu F R) y = F (zy R y) := by
 unfold zgu;rw [rowMap_from F R [] y hv];split
 ·rfl
 ·rename_i h;rw [zih (fun w hw e => h ⟨w, hw, e⟩), h0];rfl


def zwa (K : Nat) (l : List Run) : List Run := groL l K
theorem groF_nil (K : Nat) : zwa K [] = [] := rfl
theorem dilM_get {R : List Row} (hv : zo R = true) {K : Nat} (y : Int) : zij (zgu (zwa K) R) y = groL (zy R y) K := rowMap_get (groF_nil K) (zsm.1 hv).2 y
theorem dilM_ok {R : List Row} (hv : zo R = true) {K : Nat} (hK : K <= 64) : OkM (zgu (zwa K) R) := fun y => by
 rw [dilM_get hv];rcases zdn hv y with ⟨w, hw, _, e⟩ | ⟨_, e⟩
 ·rw [e];obtain ⟨g1, g2, _⟩ := groL_facts (zbs hv hw).2 (k := K) (by omega);exact ⟨g1, g2⟩
 ·rw [e]; exact OkL.nil
theorem dilM_in {R : List Row} (hv : zo R = true) {K : Nat} (hK : K <= 64) (y x : Int) : inR (zij (zgu (zwa K) R) y) x = true ↔ ∃ w ∈ R, w.y = y /\ ∃ r ∈ w.runs, r.a - K <= x /\ x < r.b + K := by
 rw [dilM_get hv];rcases zdn hv y with ⟨w, hw, hy, e⟩ | ⟨hn, e⟩
 ·rw [e];obtain ⟨_, _, g3⟩ := groL_facts (zbs hv hw).2 (k := K) (by omega);rw [g3];constructor
  ·intro h; exact ⟨w, hw, hy, h⟩
  ·rintro ⟨v, hv', hy', h⟩;have : v = w := rows_eq hv hv' hw (by omega);rw [<- this]; exact h
 ·rw [e];constructor
  ·intro h; simp [groL, zeu, inR] at h
  ·rintro ⟨v, hv', hy', _⟩; exact absurd hy' (hn v hv')
def zpz (R : List Row) (K : Nat) (y : Int) : List Run := rowW fU (zgu (zwa K) R) y K
theorem dilRun_ok {R : List Row} (hv : zo R = true) {K : Nat} (hK : K <= 64) (y : Int) : OkL (zpz R K y) := wj_ok rfl (dilM_ok hv hK) _ _
theorem dilRun_in {R : List Row} (hv : zo R = true) {K : Nat} (hK : K <= 64) (y x : Int) : inR (zpz R K y) x = true ↔ nearP R K y x := by
 unfold zpz rowW nearP;rw [wj_U (dilM_ok hv hK)];constructor
 ·rintro ⟨i, hi, h⟩;obtain ⟨w, hw, hy, hr⟩ := (dilM_in hv hK _ _).1 h;exact ⟨w, hw, by omega, by omega, hr⟩
 ·rintro ⟨w, hw, h1, h2, hr⟩;exact ⟨(w.y - (y - K)).toNat, by omega, (dilM_in hv hK _ _).2 ⟨w, hw, by omega, hr⟩⟩
def ysD (lo : Int) (n : Nat) : List Int := (List.range n).map fun i : Nat => lo + i
theorem zuq {lo : Int} {n : Nat} {y : Int} : y ∈ ysD lo n ↔ lo <= y /\ y < lo + n := by
 simp only [ysD, List.mem_map, List.mem_range];constructor
 ·rintro ⟨i, hi, rfl⟩; omega
 ·intro h; exact ⟨(y - lo).toNat, by omega, by omega⟩
theorem ysD_pw (lo : Int) (n : Nat) : (ysD lo n).Pairwise (· < ·) := by
 simp only [ysD, List.pairwise_map];exact List.pairwise_lt_range.imp (fun {a b} h => by omega)
def zqb (F : Int -> List Run) (y : Int) : List Row := if F y = [] then [] else [⟨y, F y⟩]
def rowsF (F : Int -> List Run) (ys : List Int) : List Row := ys.flatMap (zqb F)
theorem dilRow_len (F : Int -> List Run) (y : Int) : (zqb F y).length <= 1 := by unfold zqb; split <;> simp
theorem zqa {F : Int -> List Run} {y : Int} {w : Row} (h : w ∈ zqb F y) : w = ⟨y, F y⟩ /\ F y ≠ [] := by
 unfold zqb at h;split at h
 ·simp at h
 ·rename_i e; simp at h; exact ⟨h, e⟩
theorem rowsF_facts {F : Int -> List Run} {ys : List Int} (hp : ys.Pairwise (· < ·)) (hF : ∀ y ∈ ys, F y ≠ [] -> (-4096 <= y /\ y < 4096) /\ zfm (F y) = true) : zo (rowsF F ys) = true /\ ∀ c, c ∈ zl (rowsF F ys) ↔ c.y ∈ ys /\ inR (F c.y) c.x = true := by
 refine ⟨zsm.2 ⟨fun w hw => ?_, flat_pw (dilRow_len F) (fun a b x y hab hx hy => ?_) hp⟩, fun c => ?_⟩
 ·obtain ⟨y, hy, hw⟩ := List.mem_flatMap.1 hw;obtain ⟨rfl, hne⟩ := zqa hw;exact hF y hy hne
 ·rw [(zqa hx).1, (zqa hy).1]; exact hab
 ·rw [zdk];constructor
  ·rintro ⟨w, hw, hy, hr⟩;obtain ⟨y, hy', hw⟩ := List.mem_flatMap.1 hw;obtain ⟨rfl, _⟩ := zqa hw;simp only at hy hr;rw [hy];exact ⟨hy', zai.2 hr⟩
  ·rintro ⟨hy, hr⟩;refine ⟨⟨c.y, F c.y⟩, List.mem_flatMap.2 ⟨c.y, hy, ?_⟩, rfl, zai.1 hr⟩;unfold zqb;rw [if_neg (by intro e; rw [e] at hr; simp [inR] at hr)];simp
def dilN (R : List Row) (K : Nat) : Nat := (zdl R + K - (zbv R - K) + 1).toNat
def dilL (R : List Row) (K : Nat) : List Row := rowsF (zpz R K) (ysD (zbv R - K) (dilN R K))
def rngB (R : List Row) (k : Int) : Bool := !decide (min (zbd R) (zbv R) - k < -4096) && !decide (4096 <= max (zbe R) (zdl R) + k)
def zgz (R : List Row) (k : Int) : List Row := if zmp R k && decide (0 < R.length) && rngB R k then dilL R k.toNat else []
def zsa (R : List Row) (k : Int) : Int := if zmp R k then (if 0 < R.length then (if rngB R k then 0 else 8) else 0) else 1
theorem dilL_facts {R : List Row} (hv : zo R = true) (h0 : 0 < R.length) {K : Nat} (hK : K <= 64) (hr : rngB R K = true) : zo (dilL R K) = true /\ ∀ c, c ∈ zl (dilL R K) ↔ nearP R K c.y c.x := by
 simp only [rngB, Bool.and_eq_true, Bool.not_eq_true', decide_eq_false_iff_not] at hr;have hlow := fun w hw => (zpo zlm R 4096).2.1 w hw;have hhigh := fun w hw => (zpp (fun w => zkk w - 1) R (-4096)).2.1 w hw;have hfit : ∀ y x, nearP R K y x -> (-4096 <= y /\ y < 4096) /\ (-4096 <= x /\ x < 4096) /\ zbv R - K <= y /\ y <= zdl R + K := by
  rintro y x ⟨w, hw, h1, h2, r, hr', h3, h4⟩;have e1 := zso hv hw;have e2 := (zig (zbs hv hw).2).1 r hr';have e3 := hlow w hw;have e4 := hhigh w hw;simp only [zbd, zbe] at hr;omega
 obtain ⟨q1, q2⟩ := rowsF_facts (F := zpz R K) (ysD_pw (zbv R - K) (dilN R K)) fun y hy hne => by
  have hok := dilRun_ok hv hK y;have hm : ∀ x, inR (zpz R K y) x = true -> -4096 <= x /\ x < 4096 := fun x hx => (hfit y x ((dilRun_in hv hK y x).1 hx)).2.1;obtain ⟨r, hr'⟩ := List.exists_mem_of_ne_nil _ hne;have hin := (dilRun_in hv hK y r.a).1 (zai.2 ⟨r, hr', Int.le_refl _, hok.1.1 r hr'⟩);exact ⟨(hfit y _ hin).1, zfd.2 ⟨hne, hok.1, zfi hok.1 hm⟩⟩
 refine ⟨q1, fun c => ?_⟩;unfold dilL;rw [q2, dilRun_in hv hK, zuq];constructor
 ·exact fun h => h.2
 ·intro h;have := hfit _ _ h;refine ⟨⟨this.2.2.1, ?_⟩, h⟩;unfold dilN;have h5 := this.2.2;omega
theorem zta {R : List Row} {k : Int} (h : zsa R k = 0) : zmp R k = true /\ zo (zgz R k) = true /\ ∀ c, c ∈ zl (zgz R k) ↔ nearP R k.toNat c.y c.x := by
 unfold zsa at h;split at h
 ·rename_i hq;have hq' := hq;simp only [zmp, Bool.and_eq_true, decide_eq_true_eq] at hq';obtain ⟨⟨k1, k2⟩, hv⟩ := hq';refine ⟨hq, ?_⟩;split at h
  ·rename_i h0;split at h
   ·rename_i hr;have e : zgz R k = dilL R k.toNat := by unfold zgz; rw [if_pos (by rw [hq, hr]; simp [h0])]
    rw [e];exact dilL_facts hv h0 (by omega) (by rw [show ((k.toNat : Nat) : Int) = k by omega]; exact hr)
   ·omega
  ·rename_i h0;have e : zgz R k = [] := by unfold zgz; rw [if_neg (by simp [h0])]
   have eR : R = [] := List.eq_nil_of_length_eq_zero (by omega);rw [e, eR];exact ⟨rfl, fun c => by simp [zl, nearP]⟩
 ·omega
set_option maxHeartbeats 4000000 in
theorem dilate_ok (R : List Row) (k : Int) (hR : zqd R) : PC Tryz.prog 18 [.agg (zp R), .int .i64 k] (.p (.tup [.agg (zp (zgz R k)), .int .i64 (zsa R k)])) := by
 have c0 := mvalid_big R k hR;cases hq : zmp R k with
 | false =>
  have hE : zsa R k = 1 := by unfold zsa; rw [hq]; rfl
  have hD : zgz R k = [] := by unfold zgz; rw [hq]; rfl
  rw [hq] at c0;rw [hE, hD];refine pw cx Tryz.func18 Tryz.ntmps18 ?_;refine rg cx ?_;refine rx cx [(2, .p (.bool false))] (fun K hK => by simp [push_cast, c0]; (repeat refine ob ?_); exact hK) ?_;refine awp_cd true (fun hb => ?_) fun hb => ?_
  ·refine rg cx ?_;simp [push_cast]
  ·simp at hb
 | true =>
  rw [hq] at c0;have hq' := hq;simp only [zmp, Bool.and_eq_true, decide_eq_true_eq] at hq';obtain ⟨⟨k1, k2⟩, hv⟩ := hq'
  replace hR := zbg hv
  have hl := hR.1;have c1 := box_ok R hR;by_cases h0 : 0 < R.length
  ·have hs : some? R = true := by simp [some?, hv, h0]
   have hbx : boxD R = .tup [.agg (zf.row ⟨zbd R, zbv R⟩), .agg (zf.row ⟨zbe R, zdl R⟩), .bool true] := by simp [boxD, zgm, zgn, hs]
   rw [hbx] at c1;clear hbx;obtain ⟨w0, hw0⟩ : ∃ w, R[0]? = some w := zap h0;obtain ⟨w1, hw1⟩ : ∃ w, R[R.length - 1]? = some w := zap (by omega);have b1 := (zbs hv (List.mem_of_getElem? hw0)).1;have b2 := (zbs hv (List.mem_of_getElem? hw1)).1;have y1 : zbv R = w0.y := by simp [zbv, hw0]
   have y2 : zdl R = w1.y := by simp [zdl, hw1]
   have y3 := zso hv (List.mem_of_getElem? hw0);have lx1 : zbd R <= 4096 := (zpo zlm R 4096).1;have lx2 : -4096 <= zbd R := (zpo zlm R 4096).2.2 (-4096) (by omega) fun w hw => (zig (zbs hv hw).2).2.1;have hx1 : -4096 <= zbe R := (zpp (fun w => zkk w - 1) R (-4096)).1;have hx2 : zbe R <= 4096 := (zpp (fun w => zkk w - 1) R (-4096)).2.2 4096 (by omega) fun w hw => by have := (zig (zbs hv hw).2).2.2.2; show zkk w - 1 <= 4096; omega
   have e1 := wI (min (zbd R) (zbv R) - k);have e2 := wI (max (zbe R) (zdl R) + k);by_cases p1 : min (zbd R) (zbv R) - k < -4096
   ·have hrg : rngB R k = false := by simp [rngB, p1]
    have hE : zsa R k = 8 := by unfold zsa; rw [hq, hrg]; simp [h0]
    have hD : zgz R k = [] := by unfold zgz; rw [hq, hrg]; simp
    rw [hE, hD];generalize zbd R = lx at *;generalize zbe R = hx at *;generalize zbv R = fy at *;generalize zdl R = ly at *;refine pw cx Tryz.func18 Tryz.ntmps18 ?_;refine rg cx ?_;refine rx cx [(2, .p (.bool true))] (fun K hK => by simp [push_cast, c0]; (repeat refine ob ?_); exact hK) ?_;refine awp_cd false (fun hb => ?_) fun hb => ?_
    ·simp at hb
    ·refine rx cx [(1, .p (.tup [.agg (zf.row ⟨lx, fy⟩), .agg (zf.row ⟨hx, ly⟩), .bool true]))] (fun K hK => by simp [push_cast, c1, zf.row]; (repeat refine ob ?_); exact hK) ?_;refine rg cx ?_;refine awp_cd false (fun hb => ?_) fun hb => ?_
     ·simp at hb
     ·refine rx cx [] (fun K hK => by simp [push_cast, e1, p1, zf.row]; (repeat refine ob ?_); exact hK) ?_;refine awp_cn true (by simp [push_cast, p1]) (fun hb => ?_) fun hb => ?_
      ·refine rg cx ?_;simp [push_cast]
      ·simp at hb
   ·by_cases p2 : 4096 <= max (zbe R) (zdl R) + k
    ·have hrg : rngB R k = false := by simp [rngB, p2]
     have hE : zsa R k = 8 := by unfold zsa; rw [hq, hrg]; simp [h0]
     have hD : zgz R k = [] := by unfold zgz; rw [hq, hrg]; simp
     rw [hE, hD];generalize zbd R = lx at *;generalize zbe R = hx at *;generalize zbv R = fy at *;generalize zdl R = ly at *;refine pw cx Tryz.func18 Tryz.ntmps18 ?_;refine rg cx ?_;refine rx cx [(2, .p (.bool true))] (fun K hK => by simp [push_cast, c0]; (repeat refine ob ?_); exact hK) ?_;refine awp_cd false (fun hb => ?_) fun hb => ?_
     ·simp at hb
     ·refine rx cx [(1, .p (.tup [.agg (zf.row ⟨lx, fy⟩), .agg (zf.row ⟨hx, ly⟩), .bool true]))] (fun K hK => by simp [push_cast, c1, zf.row]; (repeat refine ob ?_); exact hK) ?_;refine rg cx ?_;refine awp_cd false (fun hb => ?_) fun hb => ?_
      ·simp at hb
      ·refine rx cx [] (fun K hK => by simp [push_cast, e1, e2, p1, p2, zf.row]; (repeat refine ob ?_); exact hK) ?_;refine awp_cn true (by simp [push_cast, p1, p2]) (fun hb => ?_) fun hb => ?_
       ·refine rg cx ?_;simp [push_cast]
       ·simp at hb
    ·have hrg : rngB R k = true := by simp [rngB, p1, p2]
     have hE : zsa R k = 0 := by unfold zsa; rw [hq, hrg]; simp [h0]
     have hD : zgz R k = dilL R k.toNat := by unfold zgz; rw [hq, hrg]; simp [h0]
     rw [hE, hD];clear hE hD hrg hs;obtain ⟨K, rfl⟩ : ∃ K : Nat, k = K := ⟨k.toNat, by omega⟩
     have hK : K <= 64 := by omega
     rw [Int.toNat_natCast];have hLd : dilL R K = rowsF (zpz R K) (ysD (zbv R - K) (dilN R K)) := rfl;have hFd : ∀ y, zpz R K y = rowW fU (zgu (zwa K) R) y K := fun y => rfl;have hFok := fun y => dilRun_ok hv hK y;have hMok := dilM_ok hv hK;have hMt := fun i w => @rowMap_take (zwa K) R i w;have hM0 : zgu (zwa K) (R.take 0) = [] := rfl;have hMe : zgu (zwa K) (R.take R.length) = zgu (zwa K) R := by rw [List.take_length]
     have hN : (dilN R K : Int) = zdl R + K - (zbv R - K) + 1 := by unfold dilN; omega
     have hyl : (ysD (zbv R - K) (dilN R K)).length = dilN R K := by simp [ysD]
     have hyt : ∀ j : Nat, j < dilN R K -> (ysD (zbv R - K) (dilN R K))[j]? = some (zbv R - K + j) := fun j hj => by simp [ysD, hj]
     rw [hLd];clear hLd;generalize hys : ysD (zbv R - K) (dilN R K) = ys at *;have hNl : dilN R K <= 100000 := by omega
     generalize zpz R K = F at *;have hFr : ∀ y, zqb F y = if F y = [] then [] else [⟨y, F y⟩] := fun y => rfl
     generalize hMM : zgu (zwa K) R = MM at *;generalize zbd R = lx at *;generalize zbe R = hx at *;generalize zbv R = fy at *;generalize zdl R = ly at *;generalize dilN R K = n at *;clear hys;have u1 := wI (fy - (K : Int));have u2 := wI (ly + (K : Int));refine pw cx Tryz.func18 Tryz.ntmps18 ?_;refine rg cx ?_;refine rx cx [(2, .p (.bool true))] (fun K hK => by simp [push_cast, c0]; (repeat refine ob ?_); exact hK) ?_;refine awp_cd false (fun hb => ?_) fun hb => ?_
     ·simp at hb
     ·refine rx cx [(1, .p (.tup [.agg (zf.row ⟨lx, fy⟩), .agg (zf.row ⟨hx, ly⟩), .bool true]))] (fun K hK => by simp [push_cast, c1, zf.row]; (repeat refine ob ?_); exact hK) ?_;refine rg cx ?_;refine awp_cd false (fun hb => ?_) fun hb => ?_
      ·simp at hb
      ·refine rx cx [] (fun K hK => by simp [push_cast, e1, e2, p1, p2, zf.row]; (repeat refine ob ?_); exact hK) ?_;refine awp_cn false (by simp [push_cast, p1, p2]) (fun hb => ?_) fun hb => ?_
       ·simp at hb
       ·refine rx cx [] (fun K hK => by simp [push_cast, mp_nil]; (repeat refine ob ?_); exact hK) ?_;refine rg cx ?_;refine zu (β := Nat × List (Int × List Run)) (fun b => ⟨99, [(1, .d (.int .i64 K)), (2, .ptr 0 0 0), (4, .ptr 1 0 0), (6, .ptr 2 0 0), (7, .ptr 3 0 0), (9, .ptr 5 0 0), (51, .d (zz R)), (52, .d (.int .i64 R.length)), (53, .d (.int .i64 b.1))], [(0, some ⟨24, 1, [(zp R).map .d]⟩), (1, some ⟨24, 1, [[.nl]]⟩), (2, some ⟨67, 2, [(zf.row ⟨lx, fy⟩).map .d]⟩), (3, some ⟨67, 2, [(zf.row ⟨hx, ly⟩).map .d]⟩), (4, some ⟨87, mapM, dr (zmr b.2)⟩), (5, some ⟨89, 2, [[.hm 4, .d (.fn (.func 62) [])]]⟩)], 6⟩) (fun b => b.1 <= R.length /\ b.2 = zgu (zwa K) (R.take b.1)) (fun b => R.length - b.1) (0, []) ?_ ⟨Nat.zero_le _, hM0.symm⟩ ?_
        ·refine wq [(0, some 0), (1, some 1), (2, some 13), (3, some 14), (4, some 38), (5, some 40)] (by simp [upT, upH, upR, upL, up, push_cast, mp_nil, zf.row])
        ·rintro ⟨i, M⟩ ⟨hi, hM⟩;simp only at hi hM;refine Nav.imp ?_;refine rg cx ?_;refine awp_cd (decide ((i : Int) < R.length)) (fun hb => ?_) fun hb => ?_
         ·have hlt : i < R.length := by simpa using hb
          obtain ⟨w, hw⟩ := zap hlt;have e0 := wI ((i : Int) + 1);have hwl := hR.2 w (List.mem_of_getElem? hw);have c2 := grow_ok w.runs K (zdv hv hw).2 hwl (by omega);have hsf : groL w.runs K = zwa K w.runs := rfl;rw [hsf] at c2;have hnx := hMt i w hw;rw [<- hM] at hnx;clear hsf;generalize zwa K w.runs = s at *;have hput := putR_mp w.y s M;refine rx cx [] (fun K hK => by simp [push_cast, hw, Row.row]; (repeat refine ob ?_); exact hK) ?_;refine rd cx mixed [(7, .p (.tup [zm s, .int .i64 0]))] (fun K hK => by simp [push_cast, c2, hput, Row.row]; (repeat refine ob ?_); exact hK) ?_;refine rx cx [] (fun K hK => by simp [push_cast, e0]; (repeat refine ob ?_); exact hK) ?_;refine ⟨(i + 1, zcz M w.y s), ⟨hlt, hnx.symm⟩, by simp only; omega, ?_⟩;refine wq [(0, some 0), (1, some 1), (2, some 2), (3, some 3), (4, some 4), (5, some 5)] (by simp [upT, upH, upR, upL, up, push_cast, zf.row])
         ·have hge : i = R.length := by simp at hb; omega
          subst hge;rw [hMe] at hM;subst hM;refine zaq 4 (zmr M) rfl (by simp [push_cast]) fun K hK => ?_;simp [push_cast, St.fz, fzT, fzH, fzO, fz, fzL, fzR, zbx, zbo, zbn, zbm];refine nx hK ?_; clear hK K;refine rg cx ?_;refine rx cx [] (fun K hK => by simp [push_cast, u1, zf.row]; (repeat refine ob ?_); exact hK) ?_;refine zu (β := Nat × List Row) (fun s => ⟨99, [(1, .d (.int .i64 K)), (4, .ptr 1 0 0), (7, .ptr 3 0 0), (9, .ptr 5 0 0), (12, .ptr 6 0 0), (13, .d (.int .i64 (fy - K + s.1)))], [(1, some ⟨24, 1, [[.nl]]⟩), (3, some ⟨67, 2, [(zf.row ⟨hx, ly⟩).map .d]⟩), (5, some ⟨89, 2, [[.d (.mp (zmr M)), .d (.fn (.func 62) [])]]⟩), (6, some ⟨24, 1, [[.hs 7 0 s.2.length]]⟩), (7, some ⟨65, 2, dr (s.2.map Row.row)⟩)], 8⟩) (fun s => s.1 <= n /\ s.2 = rowsF F (ys.take s.1)) (fun s => n - s.1) (0, []) ?_ ⟨Nat.zero_le _, by simp [rowsF]⟩ ?_
          ·refine wq [(1, some 1), (3, some 3), (5, some 5), (6, some 7), (7, none)] (by simp [upT, upH, upR, upL, up, push_cast, zf.row])
          ·rintro ⟨j, Z⟩ ⟨hj, hZ⟩;simp only at hj hZ;refine Nav.imp ?_;refine rx cx [] (fun K hK => by simp [push_cast, u2, zf.row]; (repeat refine ob ?_); exact hK) ?_;by_cases hlt : j < n
           ·have q1 : fy - (K : Int) + j <= ly + K := by omega
            have e0 := wI (fy - (K : Int) + j + 1);have c3 := wrow_ok fU rfl 62 (fun a b h1 h2 h3 h4 => union_ok a b h1 h2 h3 h4) M hMok (fy - K + j) K (by omega) hK;rw [<- hFd] at c3;have hul := (hFok (fy - K + j)).len;have hnx : rowsF F (ys.take (j + 1)) = Z ++ zqb F (fy - K + j) := by rw [hZ]; exact zhi _ (hyt j hlt)
            rw [hFr] at hnx;have hZl : Z.length <= 1000000 := by
             have := zwd (dilRow_len F) (ys.take j);have h6 : Z.length = ((ys.take j).flatMap (zqb F)).length := by rw [hZ]; rfl
             have h7 : (ys.take j).length <= j := by simp; omega
             omega
            have hZ32 : (Z.length + 1) * 32 <= 140737488355328 := by omega
            have hu16 : (0 + (F (fy - K + j)).length) * 16 <= 140737488355328 := by omega
            generalize F (fy - K + j) = u at *;refine awp_cn true (by simp [push_cast, q1]) (fun hb => ?_) fun hb => ?_
            ·refine rx cx [(3, .p (zm u))] (fun K hK => by simp [push_cast, c3]; (repeat refine ob ?_); exact hK) ?_;refine rg cx ?_;cases hu : u with
             | nil =>
              rw [hu] at hnx;simp only [if_true, List.append_nil] at hnx;refine awp_cn false (by simp [push_cast, hu]) (fun hb => ?_) fun hb => ?_
              ·simp at hb
              ·refine rx cx [] (fun K hK => by simp [push_cast, e0]; (repeat refine ob ?_); exact hK) ?_;refine ⟨(j + 1, Z), ⟨hlt, hnx.symm⟩, by simp only; omega, ?_⟩;refine wq [(1, some 1), (3, some 3), (5, some 5), (6, some 6), (7, some 7)] (by simp [upT, upH, upR, upL, up, push_cast, zf.row, Int.add_assoc])
             | cons q u' =>
              have hne : ¬ u = [] := by rw [hu]; simp
              have hpos : 0 < u.length := by rw [hu]; simp
              rw [if_neg hne] at hnx;rw [<- hu];clear hu;refine awp_cn true (by simp [push_cast, hpos]) (fun hb => ?_) fun hb => ?_
              ·refine rd cx mixed [] (fun K hK => by simp [push_cast, hZ32, hu16]; (repeat refine ob ?_); exact hK) ?_;refine zaq 27 (u.map Run.row) rfl (by simp [push_cast]) fun K hK => ?_;simp [push_cast, St.fz, fzT, fzH, fzO, fz, fzL, fzR, zbx, zbo, zbn, zbm];refine nx hK ?_; clear hK K;refine rx cx [] (fun K hK => by simp [push_cast, e0]; (repeat refine ob ?_); exact hK) ?_;refine ⟨(j + 1, Z ++ [⟨fy - K + j, u⟩]), ⟨hlt, hnx.symm⟩, by simp only; omega, ?_⟩;refine wq [(1, some 1), (3, some 3), (5, some 5), (6, some 6), (7, some 30)] (by simp [upT, upH, upR, upL, up, push_cast, Row.row, zf.row, Int.add_assoc])
              ·simp at hb
            ·simp at hb
           ·have hje : j = n := by omega
            subst hje;have q1 : ¬ fy - (K : Int) + j <= ly + K := by omega
            rw [<- hyl, List.take_length] at hZ;rw [<- hZ];have ht2 : List.take Z.length (Z.map Row.row) = Z.map Row.row := List.take_of_length_le (by simp);refine awp_cn false (by simp [push_cast, q1]) (fun hb => ?_) fun hb => ?_
            ·simp at hb
            ·refine zaq 7 (Z.map Row.row) rfl (by simp [push_cast, Row.row, ht2]) fun K hK => ?_;simp [push_cast, St.fz, fzT, fzH, fzO, fz, fzL, fzR, zbx, zbo, zbn, zbm, Row.row, ht2];refine nx hK ?_; clear hK K;refine rg cx ?_;simp [push_cast]
  ·have hs : some? R = false := by simp [some?, h0]
   have eR : R = [] := List.eq_nil_of_length_eq_zero (by omega);have hE : zsa R k = 0 := by unfold zsa; rw [hq]; simp [h0]
   have hD : zgz R k = [] := by unfold zgz; rw [hq]; simp [h0]
   have hbx : boxD R = .tup [.agg (zf.row ⟨0, 0⟩), .agg (zf.row ⟨0, 0⟩), .bool false] := by simp [boxD, zgm, zgn, hs]
   rw [hbx] at c1;rw [hE, hD];refine pw cx Tryz.func18 Tryz.ntmps18 ?_;refine rg cx ?_;refine rx cx [(2, .p (.bool true))] (fun K hK => by simp [push_cast, c0]; (repeat refine ob ?_); exact hK) ?_;refine awp_cd false (fun hb => ?_) fun hb => ?_
   ·simp at hb
   ·refine rx cx [(1, .p (.tup [.agg (zf.row ⟨0, 0⟩), .agg (zf.row ⟨0, 0⟩), .bool false]))] (fun K hK => by simp [push_cast, c1, zf.row]; (repeat refine ob ?_); exact hK) ?_;refine rg cx ?_;refine awp_cd true (fun hb => ?_) fun hb => ?_
    ·refine rg cx ?_;simp [push_cast]
    ·simp at hb
end Go.Proofs.YtdddknniooimmaaGreat
