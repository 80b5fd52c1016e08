/-
  Texts of this seat put together: M1, M2, N0, M3, AbsE, AbsF, H1, AbsK.
-/
import Derived.Test.YtdddknniooimmaaGreatJF5
import Derived.Test.YtdddknniooimmaaGreatJF9
import Derived.Test.YtdddknniooimmaaGreatJF8
import Derived.Test.YtdddknniooimmaaGreatJF6
import Derived.Shelf.SlSortCmp.NoneTotal
import Derived.Lib.QuietBelow
set_option linter.unusedVariables false
set_option linter.unusedSimpArgs false
set_option maxRecDepth 100000
set_option linter.unusedSectionVars false
namespace Go.Proofs.YtdddknniooimmaaGreat
open Go.Abs

def zcy (R : List Row) (k : Int) : Bool := decide (0 <= k) && decide (k <= 64) && zo R
theorem mvalid_big (R : List Row) (k : Int) (hR : zoq R) : PC Tryz.prog 61 [.agg (zt R), .int .i64 k] (.p (.bool (zcy R k))) := by
 have c1 := zqy R hR;unfold zcy;generalize zo R = v at *;by_cases h : 0 <= k /\ k <= 64
 ·have e1 : (0 : Int) <= k := h.1;have e2 : k <= 64 := h.2;refine pw cx Tryz.func61 Tryz.ntmps61 ?_;refine rg cx ?_;refine rx cx [(8, .p (.bool v))] (fun K hK => by simp [push_cast, c1, e1, e2]; (repeat refine ob ?_); exact hK) ?_;simp [push_cast, e1, e2]
 ·have e : (decide (0 <= k) && decide (k <= 64)) = false := by simp; omega
  rw [e];by_cases h0 : 0 <= k
  ·have e2 : ¬ k <= 64 := by omega
   refine pw cx Tryz.func61 Tryz.ntmps61 ?_;refine rg cx ?_;refine rx cx [(8, .skip)] (fun K hK => by simp [push_cast, h0, e2]; (repeat refine ob ?_); exact hK) ?_;simp [push_cast, h0, e2]
  ·refine pw cx Tryz.func61 Tryz.ntmps61 ?_;refine rg cx ?_;refine rx cx [(8, .skip)] (fun K hK => by simp [push_cast, h0]; (repeat refine ob ?_); exact hK) ?_;simp [push_cast, h0]

def zsx (k : Int) (r : Run) : List Run := if r.a + k < r.b - k then [⟨r.a + k, r.b - k⟩] else []
def zuk (k : Int) (l : List Run) : List Run := l.flatMap (zsx k)
def shrB (l : List Run) (k : Int) : List Run := if zar l && decide (0 <= k) && decide (k <= 1048576) then zuk k l else []
theorem shrRun_len (k : Int) (r : Run) : (zsx k r).length <= 1 := by unfold zsx; split <;> simp
theorem zjp {α β : Type} {f : α -> List β} (h : ∀ x, (f x).length <= 1) : ∀ m : List α, (m.flatMap f).length <= m.length
 | [] => by simp
 | x :: m => by have := h x; have := zjp h m; rw [List.flatMap_cons, List.length_append, List.length_cons]; omega

set_option maxHeartbeats 1000000 in
theorem shrink_ok (l : List Run) (k : Int) (hl : l.length <= 1000000) : PC Tryz.prog 129 [zn l, .int .i64 k] (.p (zn (shrB l k))) := by
 have c1 := zre l hl;have hB : shrB l k = if zar l && decide (0 <= k) && decide (k <= 1048576) then zuk k l else [] := rfl
 cases hv : zar l with
 | false =>
  rw [hv] at c1 hB;rw [if_neg (by simp)] at hB;rw [hB];refine pw cx Tryz.func129 Tryz.ntmps129 ?_;refine rg cx ?_;refine rx cx [(1, .p (.bool false))] (fun K hK => by simp [push_cast, c1]; (repeat refine ob ?_); exact hK) ?_;refine awp_cd true (fun hb => ?_) fun hb => ?_
  ·refine rg cx ?_;simp [push_cast]
  ·simp at hb
 | true =>
  rw [hv] at c1 hB;by_cases hk : 0 <= k /\ k <= 1048576
  ·rw [if_pos (by simp; omega)] at hB;rw [hB];clear hB;have e1 : ¬ k < 0 := by omega
   have e2 : ¬ 1048576 < k := by omega
   refine pw cx Tryz.func129 Tryz.ntmps129 ?_;refine rg cx ?_;refine rx cx [(1, .p (.bool true))] (fun K hK => by simp [push_cast, c1]; (repeat refine ob ?_); exact hK) ?_;refine awp_cn false (by simp [push_cast, e1, e2]) (fun hb => ?_) fun hb => ?_
   ·simp at hb
   ·refine rg cx ?_;refine rg cx ?_;refine zz (β := Nat × List Run) (fun s => ⟨48, [(1, .d (.int .i64 k)), (5, .hs 0 0 s.2.length), (19, .d (zn l)), (20, .d (.int .i64 l.length)), (21, .d (.int .i64 s.1))], [(0, some ⟨85, 2, dr (s.2.map Run.row)⟩)], 1⟩) (fun s => s.1 <= l.length /\ s.2 = zuk k (l.take s.1)) (fun s => l.length - s.1) (0, []) ?_ ⟨Nat.zero_le _, by simp [zuk]⟩ ?_
    ·refine wk [(0, none)]
    ·rintro ⟨i, Z⟩ ⟨hi, hZ⟩;simp only at hi hZ;refine Nav.imp ?_;refine rg cx ?_;refine awp_cd (decide ((i : Int) < l.length)) (fun hb => ?_) fun hb => ?_
     ·have hlt : i < l.length := by simpa using hb
      obtain ⟨r, hr⟩ := zak hlt;have e0 := wI ((i : Int) + 1);have hbd := zqk (zer hv hr).2;have hZl : Z.length <= 1000000 := by
       have := zjp (shrRun_len k) (l.take i);rw [hZ]; unfold zuk; rw [List.length_take] at this; omega
      have hZ16 : (Z.length + 1) * 16 <= 140737488355328 := by omega
      have hnx : zuk k (l.take (i + 1)) = Z ++ zsx k r := by rw [hZ]; exact zdr _ hr
      obtain ⟨ra, rb⟩ := r;simp only [zsx] at hnx hbd;have w1 := wI (ra + k);have w2 := wI (rb - k);refine rx cx [] (fun K hK => by simp [push_cast, hr, Run.row]; (repeat refine ob ?_); exact hK) ?_;refine rx cx [] (fun K hK => by simp [push_cast, w1, w2]; (repeat refine ob ?_); exact hK) ?_;refine awp_cd (decide (ra + k < rb - k)) (fun hb => ?_) fun hb => ?_
      ·have hb : ra + k < rb - k := by simpa using hb
       rw [if_pos hb] at hnx;refine rx cx [] (fun K hK => by simp [push_cast, w1, w2, hZ16]; (repeat refine ob ?_); exact hK) ?_;refine rx cx [] (fun K hK => by simp [push_cast, e0]; (repeat refine ob ?_); exact hK) ?_;refine ⟨(i + 1, Z ++ [⟨ra + k, rb - k⟩]), ⟨hlt, hnx.symm⟩, by simp only; omega, ?_⟩;refine wq [(0, some 26)] (by simp [upT, upH, upR, upL, up, push_cast, Run.row])
      ·have hb : ¬ ra + k < rb - k := by simpa using hb
       rw [if_neg hb, List.append_nil] at hnx;refine rx cx [] (fun K hK => by simp [push_cast, e0]; (repeat refine ob ?_); exact hK) ?_;refine ⟨(i + 1, Z), ⟨hlt, hnx.symm⟩, by simp only; omega, ?_⟩;refine wk [(0, some 0)]
     ·have hge : i = l.length := by simp at hb; omega
      subst hge;rw [List.take_length] at hZ;rw [<- hZ];refine rg cx ?_;have ht : List.take Z.length (Z.map Run.row) = Z.map Run.row := List.take_of_length_le (by simp);simp [push_cast, ht]
  ·rw [if_neg (by simp; omega)] at hB;rw [hB];have e : (decide (k < 0) || decide (1048576 < k)) = true := by simp; omega
   refine pw cx Tryz.func129 Tryz.ntmps129 ?_;refine rg cx ?_;refine rx cx [(1, .p (.bool true))] (fun K hK => by simp [push_cast, c1]; (repeat refine ob ?_); exact hK) ?_;refine awp_cn true (by simp [push_cast, e]) (fun hb => ?_) fun hb => ?_
   ·refine rg cx ?_;simp [push_cast]
   ·simp at hb

def zjn (out : List Run) (r : Run) : List Run := match out.getLast? with
 | some q => if r.a <= q.b then out.dropLast ++ [⟨q.a, max q.b r.b⟩] else out ++ [r]
 | none => [r]
def zfi (l : List Run) : List Run := l.foldl zjn []
theorem zqg (r : Run) : zjn [] r = [r] := rfl
theorem zqh (o : List Run) (q r : Run) : zjn (o ++ [q]) r = if r.a <= q.b then o ++ [⟨q.a, max q.b r.b⟩] else o ++ [q] ++ [r] := by simp [zjn]
theorem joinL_take {l : List Run} {k : Nat} {r : Run} (h : l[k]? = some r) : zfi (l.take (k + 1)) = zjn (zfi (l.take k)) r := by
 unfold zfi; rw [zbm h, List.foldl_append]; rfl
theorem joinOne_len (out : List Run) (r : Run) : (zjn out r).length <= out.length + 1 := by
 rcases List.eq_nil_or_concat out with rfl | ⟨o, q, rfl⟩
 ·simp [zqg]
 ·rw [List.concat_eq_append, zqh]; split <;> simp

set_option maxHeartbeats 2000000 in
theorem join_ok (l : List Run) (hl : l.length <= 1000000) : PC Tryz.prog 125 [zn l] (.p (zn (zfi l))) := by
 refine pw cx Tryz.func125 Tryz.ntmps125 ?_;iterate 3 refine rg cx ?_
 refine zz (β := Nat × List Run) (fun s => ⟨46, [(3, .hs 0 0 s.2.length), (7, .d (zn l)), (8, .d (.int .i64 l.length)), (9, .d (.int .i64 s.1))], [(0, some ⟨85, 2, dr (s.2.map Run.row)⟩)], 1⟩) (fun s => s.1 <= l.length /\ s.2.length <= s.1 /\ s.2 = zfi (l.take s.1)) (fun s => l.length - s.1) (0, []) ?_ ⟨Nat.zero_le _, by simp, by simp [zfi]⟩ ?_
 ·refine wk [(0, none)]
 ·rintro ⟨i, out⟩ ⟨hi, hol, hZ⟩;simp only at hi hol hZ;refine Nav.imp ?_;refine rg cx ?_;refine awp_cd (decide ((i : Int) < l.length)) (fun hb => ?_) fun hb => ?_
  ·have hlt : i < l.length := by simpa using hb
   obtain ⟨r, hr⟩ := zak hlt;have e0 := wI ((i : Int) + 1);have hnx : zfi (l.take (i + 1)) = zjn out r := by rw [joinL_take hr, hZ]
   have hnl : (zjn out r).length <= i + 1 := Nat.le_trans (joinOne_len out r) (by omega);have hO16 : (out.length + 1) * 16 <= 140737488355328 := by omega
   clear hZ;obtain ⟨ra, rb⟩ := r;rcases List.eq_nil_or_concat out with rfl | ⟨o, q, rfl⟩
   ·rw [zqg] at hnx hnl;have e1 := wI ((((0 : Nat)) : Int) - 1);refine rx cx [] (fun K hK => by simp [push_cast, hr, Run.row]; (repeat refine ob ?_); exact hK) ?_;refine rx cx [] (fun K hK => by simp [push_cast, e1]; (repeat refine ob ?_); exact hK) ?_;refine rd cx mixed [] (fun K hK => by simp [push_cast]; (repeat refine ob ?_); exact hK) ?_;refine awp_cd false (fun hb => ?_) fun hb => ?_
    ·simp at hb
    ·refine rg cx ?_;refine rx cx [] (fun K hK => by simp [push_cast, e0]; (repeat refine ob ?_); exact hK) ?_;refine ⟨(i + 1, [⟨ra, rb⟩]), ⟨hlt, hnl, hnx.symm⟩, by simp only; omega, ?_⟩;refine wq [(0, some 25)] (by simp [upT, upH, upR, upL, up, push_cast, Run.row])
   ·rw [List.concat_eq_append] at *;rw [zqh] at hnx hnl;have hz : (o ++ [q])[o.length]? = some q := by simp
    have hlen : (o ++ [q]).length = o.length + 1 := by simp
    obtain ⟨qa, qb⟩ := q;simp only at hnx hnl;have hset : ∀ Y : Int, (dr ((o ++ [(⟨qa, qb⟩ : Run)]).map Run.row)).set o.length [.d (.int .i64 qa), .d (.int .i64 Y)] = dr ((o ++ [(⟨qa, Y⟩ : Run)]).map Run.row) := fun Y => by simp [dr, List.map_set, Run.row]
    have hset := hset (max qb rb);have e1 := wI (((o.length + 1 : Nat) : Int) - 1);have e2 : (((o.length + 1 : Nat) : Int) - 1) = o.length := by omega
    rw [e2] at e1;have e3 : (0 : Int) <= (o.length : Int) := by omega
    have hjl : (o ++ [(⟨qa, max qb rb⟩ : Run)]).length = o.length + 1 := by simp
    generalize hJ : o ++ [(⟨qa, max qb rb⟩ : Run)] = J at *;generalize hA : o ++ [(⟨qa, qb⟩ : Run)] = A at *;rw [hlen];refine rx cx [] (fun K hK => by simp [push_cast, hr, Run.row]; (repeat refine ob ?_); exact hK) ?_;refine rx cx [] (fun K hK => by simp [push_cast, e1, e2]; (repeat refine ob ?_); exact hK) ?_;refine rd cx mixed [] (fun K hK => by simp [push_cast, hz, e1, e2, e3, Run.row]; (repeat refine ob ?_); exact hK) ?_;refine awp_cn (decide (ra <= qb)) (by simp [push_cast, e3]) (fun hb => ?_) fun hb => ?_
    ·have hq : ra <= qb := by simpa using hb
     rw [if_pos hq] at hnx hnl;refine rd cx mixed [] (fun K hK => by simp [push_cast, hz, e1, e2, e3, Run.row, hset]; (repeat refine ob ?_); exact hK) ?_;refine rx cx [] (fun K hK => by simp [push_cast, e0]; (repeat refine ob ?_); exact hK) ?_;refine ⟨(i + 1, J), ⟨hlt, hnl, hnx.symm⟩, by simp only; omega, ?_⟩;refine wq [(0, some 0)] (by simp [upT, upH, upR, upL, up, push_cast, Run.row, hjl])
    ·have hq : ¬ ra <= qb := by simpa using hb
     rw [if_neg hq] at hnx hnl;rw [<- hlen];refine rx cx [] (fun K hK => by simp [push_cast, hO16]; (repeat refine ob ?_); exact hK) ?_;refine rx cx [] (fun K hK => by simp [push_cast, e0]; (repeat refine ob ?_); exact hK) ?_;refine ⟨(i + 1, A ++ [⟨ra, rb⟩]), ⟨hlt, hnl, hnx.symm⟩, by simp only; omega, ?_⟩;refine wq [(0, some 25)] (by simp [upT, upH, upR, upL, up, push_cast, Run.row])
  ·have hge : i = l.length := by simp at hb; omega
   subst hge;rw [List.take_length] at hZ;rw [<- hZ];refine rg cx ?_;have ht : List.take out.length (out.map Run.row) = out.map Run.row := List.take_of_length_le (by simp);simp [push_cast, ht]

theorem zid (C D : List Run) (y : Int) : inR (C ++ D) y = (inR C y || inR D y) := by simp [inR]
theorem inR_one (r : Run) (y : Int) : inR [r] y = (decide (r.a <= y) && decide (y < r.b)) := by simp [inR]

theorem joinL_app (l : List Run) (r : Run) : zfi (l ++ [r]) = zjn (zfi l) r := by simp [zfi]
theorem joinL_facts : ∀ (n : Nat) (l : List Run), l.length = n -> (∀ r ∈ l, r.a < r.b) -> l.Pairwise (fun p r => p.a <= r.a) -> zfm (zfi l) /\ (∀ x, inR (zfi l) x = inR l x) /\ ∀ q ∈ zfi l, ∃ r ∈ l, q.a = r.a
 | 0, l, hn, _, _ => by
  have : l = [] := List.eq_nil_of_length_eq_zero hn;subst this;exact ⟨⟨by simp [zfi], by simp [zfi]⟩, fun x => rfl, by simp [zfi]⟩
 | n + 1, l, hn, hlt, hs => by
  obtain ⟨m, r, rfl⟩ : ∃ m r, l = m ++ [r] := ⟨l.dropLast, l.getLast (by intro e; simp [e] at hn), (List.dropLast_concat_getLast _).symm⟩
  have hs' := List.pairwise_append.1 hs;obtain ⟨i1, i2, i3⟩ := joinL_facts n m (by simpa using hn) (fun q hq => hlt q (by simp [hq])) hs'.1;have hr := hlt r (by simp);rw [joinL_app];by_cases h0 : zfi m = []
  ·rw [h0, zqg];refine ⟨⟨by simpa using hr, by simp⟩, fun x => ?_, fun q hq => ⟨r, by simp, by simp at hq; rw [hq]⟩⟩;rw [zid, <- i2, h0]; simp [inR]
  ·obtain ⟨o, q, hq⟩ : ∃ o q, zfi m = o ++ [q] := ⟨(zfi m).dropLast, (zfi m).getLast h0, (List.dropLast_concat_getLast h0).symm⟩
   rw [hq] at i1 i2 i3 ⊢;rw [zqh];have hqa : q.a <= r.a := by
    obtain ⟨p, hp, e⟩ := i3 q (by simp);rw [e]; exact hs'.2.2 p hp r (by simp)
   have hqb := i1.1 q (by simp);have ipw := List.pairwise_append.1 i1.2;split
   ·rename_i hle;refine ⟨⟨fun p hp => ?_, ?_⟩, fun x => ?_, fun p hp => ?_⟩
    ·simp only [List.mem_append, List.mem_singleton] at hp;rcases hp with hp | rfl
     ·exact i1.1 p (by simp [hp])
     ·simp only; omega
    ·refine List.pairwise_append.2 ⟨ipw.1, by simp, fun p hp s hs => ?_⟩;simp only [List.mem_singleton] at hs;subst hs;exact ipw.2.2 p hp q (by simp)
    ·rw [zid, zid, <- i2, zid, inR_one, inR_one, inR_one, Bool.or_assoc]
     congr 1
     rw [Bool.eq_iff_iff];simp only [Bool.or_eq_true, Bool.and_eq_true, decide_eq_true_eq];omega
    ·simp only [List.mem_append, List.mem_singleton] at hp;rcases hp with hp | rfl
     ·obtain ⟨s, hs, e⟩ := i3 p (by simp [hp]); exact ⟨s, by simp [hs], e⟩
     ·obtain ⟨s, hs, e⟩ := i3 q (by simp); exact ⟨s, by simp [hs], e⟩
   ·rename_i hgt;refine ⟨⟨fun p hp => ?_, ?_⟩, fun x => ?_, fun p hp => ?_⟩
    ·simp only [List.mem_append, List.mem_singleton] at hp;rcases hp with (hp | rfl) | rfl
     ·exact i1.1 p (by simp [hp])
     ·exact hqb
     ·exact hr
    ·refine List.pairwise_append.2 ⟨i1.2, by simp, fun p hp s hs => ?_⟩;simp only [List.mem_singleton] at hs;subst hs;simp only [List.mem_append, List.mem_singleton] at hp;rcases hp with hp | rfl
     ·have := ipw.2.2 p hp q (by simp); have := i1.1 q (by simp); omega
     ·omega
    ·rw [zid, i2, zid]
    ·simp only [List.mem_append, List.mem_singleton] at hp;rcases hp with (hp | rfl) | rfl
     ·obtain ⟨s, hs, e⟩ := i3 p (by simp [hp]); exact ⟨s, by simp [hs], e⟩
     ·obtain ⟨s, hs, e⟩ := i3 p (by simp); exact ⟨s, by simp [hs], e⟩
     ·exact ⟨p, by simp, rfl⟩

def zoc (k : Int) (r : Run) : Run := ⟨r.a - k, r.b + k⟩
def groL (l : List Run) (k : Int) : List Run := zfi (l.map (zoc k))
theorem groL_facts {l : List Run} (hf : zel l = true) {k : Int} (hk : 0 <= k /\ k <= 64) : zfm (groL l k) /\ (∀ r ∈ groL l k, -4160 <= r.a /\ r.b <= 4160) /\ ∀ x, inR (groL l k) x = true ↔ ∃ r ∈ l, r.a - k <= x /\ x < r.b + k := by
 obtain ⟨_, ha, hb⟩ := zdl.1 hf;obtain ⟨h1, h2, _⟩ := joinL_facts _ (l.map (zoc k)) rfl (fun r hr => by
  obtain ⟨q, hq, rfl⟩ := List.mem_map.1 hr;have := ha.1 q hq;simp only [zoc]; omega) (by
  rw [List.pairwise_map];refine ha.2.imp_of_mem fun {p r} hp hr h => ?_;have := ha.1 p hp;simp only [zoc]; omega)
 have hm : ∀ x, inR (groL l k) x = true ↔ ∃ r ∈ l, r.a - k <= x /\ x < r.b + k := fun x => by
  unfold groL;rw [h2, zbe];constructor
  ·rintro ⟨r, hr, h⟩;obtain ⟨q, hq, rfl⟩ := List.mem_map.1 hr;exact ⟨q, hq, h⟩
  ·rintro ⟨q, hq, h⟩;exact ⟨zoc k q, List.mem_map.2 ⟨q, hq, rfl⟩, h⟩
 refine ⟨h1, zeq h1 fun y hy => ?_, hm⟩;obtain ⟨r, hr, h3, h4⟩ := (hm y).1 hy;have := hb r hr;omega
theorem apart_rv {l : List Run} (h : zfm l) (hb : ∀ r ∈ l, -4160 <= r.a /\ r.b <= 4160) : zar l = true :=
 zsz.2 ⟨h, fun r hr => by have := hb r hr; have := h.1 r hr; simp [zmu]; omega⟩
theorem apart_small {l : List Run} (h : zfm l) (hb : ∀ r ∈ l, -4160 <= r.a /\ r.b <= 4160) : l.length <= 8320 := by
 have := zrz h hb; omega

def zhz (M : List (Int × List Run)) : List (List D) := zmh (fun y => .int .i64 y) zn M
def zhc (M : List (Int × List Run)) (y : Int) : List Run := (zdp M y).getD []
theorem eqK_int (a b : Int) : eqK (.int .i64 a) (.int .i64 b) = some (decide (a = b)) := by
 simp only [eqK, if_true, Option.some.injEq];by_cases h : a = b <;> simp [h]
theorem putR_mp (y : Int) (b : List Run) (M : List (Int × List Run)) : zky (.int .i64 y) (.d (.sl (b.map Run.row))) (dr (zhz M)) = some (dr (zhz (zgj M y b))) :=
 putR_row (kd := fun y => D.int .i64 y) (vd := zn) eqK_int y b M
theorem look_mp (y : Int) (M : List (Int × List Run)) : zic .nl false (zhd (.int .i64 y) (dr (zhz M))) (.sl ((zhc M y).map Run.row)) = True := by
 rw [show dr (zhz M) = dr (zmh (fun y => D.int .i64 y) zn M) from rfl, lookA_row (kd := fun y => D.int .i64 y) (vd := zn) eqK_int y M];unfold zhc;cases zdp M y <;> simp [zic, outD, zn]
theorem mp_nil : ([] : List (List AV)) = dr (zhz []) := rfl
theorem mget_put (M : List (Int × List Run)) (y z : Int) (l : List Run) : zhc (zgj M y l) z = if z = y then l else zhc M z := by
 unfold zhc; rw [zjw]; split <;> rfl


set_option maxHeartbeats 1000000 in
theorem grow_ok (l : List Run) (d : Int) (hf : zel l = true) (hl : l.length <= 1000000) (hd : 0 <= d /\ d <= 64) : PC Tryz.prog 63 [zn l, .int .i64 d] (.p (.tup [zn (groL l d), .int .i64 0])) := by
 have c1 := zre l hl;have c2 := join_ok (l.map (zoc d)) (by simpa using hl);have hG : groL l d = zfi (l.map (zoc d)) := rfl;rw [<- hG] at c2;generalize groL l d = res at *;clear hG;rw [zhg hf] at c1;obtain ⟨f, z, hf0, hz, q1, q2, q3⟩ := zmv hf;have hm1 : 16 * (l.length : Int) <= 281474976710656 := by omega
 have hm2 : (l.length : Int) <= 9223372036854775807 := by omega
 have e1 := wI ((l.length : Int) - 1);have e2 : ((l.length : Int) - 1).toNat = l.length - 1 := by omega
 have e3 : (0 : Int) <= (l.length : Int) - 1 := by omega
 have e4 : ((l.length : Int) == 0) = false := by simp; rintro rfl; simp at q3
 obtain ⟨fa, fb⟩ := f;obtain ⟨za, zb⟩ := z;simp only at q1 q2;have d1 := wI (fa - d);have d2 := wI (zb + d);have n1 : ¬ d < 0 := by omega
 have n2 : ¬ (65536 : Int) < d := by omega
 have n3 : ¬ fa - d < -1048576 := by omega
 have n4 : ¬ (1048576 : Int) < zb + d := by omega
 refine pw cx Tryz.func63 Tryz.ntmps63 ?_;refine rg cx ?_;refine rx cx [(1, .p (.bool true))] (fun K hK => by simp [push_cast, c1, n1, n2]; (repeat refine ob ?_); exact hK) ?_;refine awp_cn false (by simp [push_cast, n1, n2]) (fun hb => ?_) fun hb => ?_
 ·simp at hb
 ·refine rg cx ?_;refine awp_cn false (by simp [push_cast, e4]) (fun hb => ?_) fun hb => ?_
  ·simp at hb
  ·refine rx cx [] (fun K hK => by simp [push_cast, hf0, hz, e1, e2, e3, d1, d2, n3, n4, Run.row]; (repeat refine ob ?_); exact hK) ?_;refine awp_cn false (by simp [push_cast, n3, n4]) (fun hb => ?_) fun hb => ?_
   ·simp at hb
   ·refine rx cx [] (fun K hK => by simp [push_cast, hm1, hm2]; (repeat refine ob ?_); exact hK) ?_;refine rg cx ?_;refine zz (β := Nat × List Run) (fun b => ⟨70, [(1, .d (.int .i64 d)), (6, .hs 0 0 b.2.length), (48, .d (zn l)), (49, .d (.int .i64 l.length)), (50, .d (.int .i64 b.1))], [(0, some ⟨85, 2, dr (b.2.map Run.row)⟩)], 1⟩) (fun b => b.1 <= l.length /\ b.2.length = l.length /\ b.2.take b.1 = (l.take b.1).map (zoc d)) (fun b => l.length - b.1) (0, List.replicate l.length ⟨0, 0⟩) ?_ ⟨Nat.zero_le _, by simp, by simp⟩ ?_
    ·have hrep : List.replicate l.length [AV.d (.int .i64 0), AV.d (.int .i64 0)] = dr ((List.replicate l.length (⟨0, 0⟩ : Run)).map Run.row) := by simp [dr, Run.row]
     refine wq [(0, some 40)] (by simp [upT, upH, upR, upL, up, push_cast, hrep])
    ·rintro ⟨k, Z⟩ ⟨hk, hZl, hZ⟩;simp only at hk hZl hZ;refine Nav.imp ?_;refine rg cx ?_;refine awp_cd (decide ((k : Int) < l.length)) (fun hb => ?_) fun hb => ?_
     ·have hlt : k < l.length := by simpa using hb
      obtain ⟨r, hr⟩ := zak hlt;have hrb := zhh hf hr;have e0 := wI ((k : Int) + 1);obtain ⟨ra, rb⟩ := r;simp only at hrb;have s1 := wI (ra - d);have s2 := wI (rb + d);obtain ⟨y, hy⟩ : ∃ y, Z[k]? = some y := zak (by omega);obtain ⟨Y, hY⟩ : ∃ Y, Y = Z.set k ⟨ra - d, rb + d⟩ := ⟨_, rfl⟩
      have hset : (dr (Z.map Run.row)).set k [.d (.int .i64 (ra - d)), .d (.int .i64 (rb + d))] = dr (Y.map Run.row) := by rw [hY]; simp [dr, List.map_set]
      have hYl : Y.length = Z.length := by rw [hY]; simp
      have hYt : Y.take (k + 1) = (l.take (k + 1)).map (zoc d) := by
       rw [hY, zbm hr, List.map_append, <- hZ, zbm (x := ⟨ra - d, rb + d⟩) (by rw [List.getElem?_set_self (by omega)]), List.take_set_of_le (by omega)];rfl
      clear hY;refine rx cx [] (fun K hK => by simp [push_cast, hr, Run.row]; (repeat refine ob ?_); exact hK) ?_;refine rx cx [] (fun K hK => by simp [push_cast, hy, s1, s2, hset, Run.row]; (repeat refine ob ?_); exact hK) ?_;refine rx cx [] (fun K hK => by simp [push_cast, e0]; (repeat refine ob ?_); exact hK) ?_;rw [<- hYl];refine ⟨(k + 1, Y), ⟨hlt, by simp only; omega, hYt⟩, by simp only; omega, ?_⟩;refine wk [(0, some 0)]
     ·have hge : k = l.length := by simp at hb; omega
      subst hge;rw [List.take_length, <- hZl, List.take_length] at hZ;rw [<- hZ] at c2;have ht : List.take Z.length (Z.map Run.row) = Z.map Run.row := List.take_of_length_le (by simp);refine zaf 0 (Z.map Run.row) rfl (by simp [push_cast, Run.row, ht]) fun K hK => ?_;simp [push_cast, St.fz, fzT, fzH, fzO, fz, fzL, fzR, zbc, zat, zas, zaq, Run.row, ht];refine nx hK ?_; clear hK K;refine rx cx [(1, .p (zn res))] (fun K hK => by simp [push_cast, c2, ht]; (repeat refine ob ?_); exact hK) ?_;simp [push_cast, ht]
end Go.Proofs.YtdddknniooimmaaGreat

namespace Go.Abs
variable [Flag]

end Go.Abs

namespace Go.Abs
variable [Flag]
open Go.Shelf Go.RowKit Go.Lib Go.Sort Go.Proofs

end Go.Abs

namespace Go.Proofs.YtdddknniooimmaaGreat
open Go.Abs

end Go.Proofs.YtdddknniooimmaaGreat

namespace Go.Abs
variable [Flag]
open Go.RowKit

end Go.Abs
