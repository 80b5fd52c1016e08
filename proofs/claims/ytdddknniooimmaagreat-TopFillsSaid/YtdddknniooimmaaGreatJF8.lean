/-
  Texts of this seat put together: ON3, BD1, BD2, BW1, AbsZ, AbsI, BW2, AbsY.
-/
import Derived.Test.YtdddknniooimmaaGreatJF5
import Derived.Test.YtdddknniooimmaaGreatJF7
import Derived.Test.YtdddknniooimmaaGreatJF1
import Derived.Test.YtdddknniooimmaaGreatJF4
import Derived.Test.YtdddknniooimmaaGreatJF3
import Derived.Shelf.Sort.Plain
import Derived.Shelf.Slices.In.SortNone
import Derived.Shelf.Slices.CompactI
import Derived.Lib.RowBridge
import Derived.Shelf.SlicesE.Delete
import Derived.Test.YtdddknniooimmaaGreatChecked
set_option linter.unusedVariables false
set_option linter.unusedSimpArgs false
set_option maxRecDepth 100000
set_option linter.unusedSectionVars false
namespace Go.Proofs.YtdddknniooimmaaGreat
open Go.Abs

abbrev zwl := List (ze × Bool)
def zkc (M : zwl) : List (List D) := zmh (fun c => D.agg (ze.row c)) (fun v => D.bool v) M
def zcl (M : zwl) (c : ze) : Bool := (zdp M c).getD false
theorem eqK_seen (a b : ze) : eqK (.agg (ze.row a)) (.agg (ze.row b)) = some (decide (a = b)) := by
 obtain ⟨ax, ay⟩ := a;obtain ⟨bx, bz⟩ := b;simp only [eqK, ze.row, eqD, if_true, true_and, Option.map_some, and_self];by_cases h1 : ax = bx
 ·by_cases h2 : ay = bz
  ·simp [h1, h2]
  ·simp [h1, h2]
 ·simp [h1]
theorem putR_seen (c : ze) (v : Bool) (M : zwl) : zky (.agg [.int .i64 c.x, .int .i64 c.y]) (.d (.bool v)) (dr (zkc M)) = some (dr (zkc (zgj M c v))) :=
 putR_row (kd := fun c => D.agg (ze.row c)) (vd := fun v => D.bool v) eqK_seen c v M
theorem look_seen (c : ze) (M : zwl) : zic (.d (.bool false)) false (zhd (.agg [.int .i64 c.x, .int .i64 c.y]) (dr (zkc M))) (.bool (zcl M c)) = True := by
 rw [show dr (zkc M) = dr (zmh (fun c => D.agg (ze.row c)) (fun v => D.bool v) M) from rfl, show D.agg [.int .i64 c.x, .int .i64 c.y] = (fun c => D.agg (ze.row c)) c from rfl, lookA_row (kd := fun c => D.agg (ze.row c)) (vd := fun v => D.bool v) eqK_seen c M];unfold zcl;cases zdp M c <;> simp [zic, outD]
theorem seen_nil : ([] : List (List AV)) = dr (zkc []) := rfl
def zeb (cs : List ze) (M : zwl) : Nat -> zwl × List Bool
 | 0 => (M, [])
 | k + 1 => match cs[k]? with
  | some c => (zgj (zeb cs M k).1 c true, (zeb cs M k).2 ++ [!zcl (zeb cs M k).1 c])
  | none => zeb cs M k
theorem znq {cs : List ze} {M : zwl} {k : Nat} {c : ze} (h : cs[k]? = some c) : zeb cs M (k + 1) = (zgj (zeb cs M k).1 c true, (zeb cs M k).2 ++ [!zcl (zeb cs M k).1 c]) := by
 simp only [zeb, h]
theorem zrd {cs : List ze} {M : zwl} : ∀ k, k <= cs.length -> (zeb cs M k).2.length = k
 | 0, _ => rfl
 | k + 1, hk => by
  obtain ⟨c, hc⟩ := zak (show k < cs.length by omega);rw [znq hc, List.length_append, zrd k (by omega)]; rfl
def onceT (t : zm) (ks : List Bool) : List zm := if ks.all id then [t] else pcR t.role t.cells ks
def zck : List zm -> List zm × zwl
 | l => l.foldl (fun s t => if zap t then (s.1 ++ onceT t (zeb t.cells s.2 t.cells.length).2, (zeb t.cells s.2 t.cells.length).1) else s) ([], [])
theorem ztf {l : List zm} {k : Nat} {t : zm} (h : l[k]? = some t) : zck (l.take (k + 1)) = if zap t then ((zck (l.take k)).1 ++ onceT t (zeb t.cells (zck (l.take k)).2 t.cells.length).2, (zeb t.cells (zck (l.take k)).2 t.cells.length).1) else zck (l.take k) := by
 unfold zck;rw [zbm h, List.foldl_append]; rfl
def ktR (ks : List Bool) (n : Nat) : List (List D) := (ks ++ List.replicate (n - ks.length) false).map fun b => [.bool b]
theorem ktR_set {ks : List Bool} {n : Nat} (h : ks.length < n) (b : Bool) : (ktR ks n).set ks.length [.bool b] = ktR (ks ++ [b]) n := by
 unfold ktR;obtain ⟨m, hm⟩ : ∃ m, n - ks.length = m + 1 := ⟨n - ks.length - 1, by omega⟩
 have h2 : n - (ks ++ [b]).length = m := by simp; omega
 rw [hm, h2, List.replicate_succ, List.map_append, List.set_append_right _ _ (by simp)];simp
theorem ktR_get {ks : List Bool} {n : Nat} (h : ks.length < n) (b : Bool) : (ktR (ks ++ [b]) n)[ks.length]? = some [.bool b] := by
 unfold ktR;simp
theorem ktR_at {ks : List Bool} {n : Nat} (h : ks.length < n) : (ktR ks n)[ks.length]? = some [.bool false] := by
 unfold ktR;obtain ⟨m, hm⟩ : ∃ m, n - ks.length = m + 1 := ⟨n - ks.length - 1, by omega⟩
 rw [hm, List.replicate_succ];simp
theorem ktR_full {ks : List Bool} : ktR ks ks.length = ks.map fun b => [.bool b] := by
 simp [ktR]
set_option maxHeartbeats 8000000 in
theorem once_ok (l : List zm) (hc : ∀ t ∈ l, t.cells.length <= 65536) (hl : l.length <= 100000) (ho : ∀ k, (zck (l.take k)).1.length <= 10000000) (hm : ∀ k, (zck (l.take k)).2.length <= 10000000) : PC Tryz.prog 25 [zah l] (.p (zah (zck l).1)) := by
 have hend : zck (l.take l.length) = zck l := by rw [List.take_length]
 have hput := fun c v M => putR_seen c v M;have hlook := fun c M => look_seen c M;rw [<- hend];refine pw cx Tryz.func25 Tryz.ntmps25 ?_;refine rg cx ?_;refine rg cx ?_;refine rx cx [] (fun K hK => by simp [push_cast, seen_nil]; (repeat refine ob ?_); exact hK) ?_;refine rg cx ?_;refine zz (β := Nat × List zm × zwl) (fun s => ⟨70, [(3, .hs 0 0 s.2.1.length), (4, .hm 1), (12, .d (zah l)), (13, .d (.int .i64 l.length)), (14, .d (.int .i64 s.1))], [(0, some ⟨94, 3, dr (s.2.1.map zm.row)⟩), (1, some ⟨111, mapM, dr (zkc s.2.2)⟩)], 2⟩) (fun s => s.1 <= l.length /\ s.2 = zck (l.take s.1)) (fun s => l.length - s.1) (0, [], []) ?_ ⟨Nat.zero_le _, rfl⟩ ?_
 ·refine wq [(0, none), (1, some 2)] (by simp [upT, upH, upR, upL, up, push_cast, seen_nil])
 ·rintro ⟨i, out, M⟩ ⟨hi, hst⟩;simp only at hi hst;refine Nav.imp ?_;refine rg cx ?_;refine awp_cd (decide ((i : Int) < l.length)) (fun hb => ?_) fun hb => ?_
  ·have hlt : i < l.length := by simpa using hb
   obtain ⟨t, ht⟩ := zak hlt;have htl := hc t (List.mem_of_getElem? ht);have c1 := tvalid_ok t htl;have e0 := wI ((i : Int) + 1);have hnx := ztf ht;rw [<- hst] at hnx;simp only at hnx;have hol := ho i;have hol2 := ho (i + 1);rw [<- hst] at hol;simp only at hol;generalize zap t = v at *;refine rx cx [] (fun K hK => by simp [push_cast, ht, zm.row]; (repeat refine ob ?_); exact hK) ?_;refine rx cx [(1, .p (.bool v))] (fun K hK => by simp [push_cast, c1, zm.row]; (repeat refine ob ?_); exact hK) ?_;cases v with
   | false =>
    have hnx : zck (l.take (i + 1)) = (out, M) := by rw [hnx]; rfl
    refine awp_cd true (fun hb => ?_) fun hb => ?_
    ·refine rx cx [] (fun K hK => by simp [push_cast, e0]; (repeat refine ob ?_); exact hK) ?_;refine ⟨(i + 1, out, M), ⟨hlt, hnx.symm⟩, by simp only; omega, ?_⟩;refine wk [(0, some 0), (1, some 1)]
    ·simp at hb
   | true =>
    rw [if_pos rfl] at hnx;rw [hnx] at hol2;simp only at hol2;have hs0 : zeb t.cells M 0 = (M, []) := rfl;have hsl := fun k (h : k <= t.cells.length) => zrd (cs := t.cells) (M := M) k h;have hsn := fun k c (h : t.cells[k]? = some c) => znq (cs := t.cells) (M := M) h;have c2 := fun ks h => pieces_ok t ks htl h;obtain ⟨ro, cl, cs⟩ := t;simp only at htl hnx hol2 hs0 hsl hsn c2;have hk0 : ktR [] cs.length = List.replicate cs.length [D.bool false] := by simp [ktR]
    refine awp_cd false (fun hb => ?_) fun hb => ?_
    ·simp at hb
    ·refine rx cx [] (fun K hK => by simp [push_cast, zm.row]; (repeat refine ob ?_); exact hK) ?_;refine rg cx ?_;refine rx cx [] (fun K hK => by simp [push_cast, zm.row]; (repeat refine ob ?_); exact hK) ?_;refine zz (β := Nat × zwl × List Bool) (fun s => ⟨70, [(3, .hs 0 0 out.length), (4, .hm 1), (12, .d (zah l)), (13, .d (.int .i64 l.length)), (14, .d (.int .i64 i)), (6, .ptr 2 0 0), (7, .hs 3 0 cs.length), (8, .d (.bool (s.2.2.all id))), (26, .d (zai cs)), (27, .d (.int .i64 cs.length)), (28, .d (.int .i64 s.1))], [(0, some ⟨94, 3, dr (out.map zm.row)⟩), (1, some ⟨111, mapM, dr (zkc s.2.1)⟩), (2, some ⟨94, 3, [[.d (.int .i64 ro), .d (.bool cl), .d (zai cs)]]⟩), (3, some ⟨4, 1, dr (ktR s.2.2 cs.length)⟩)], 4⟩) (fun s => s.1 <= cs.length /\ s.2 = zeb cs M s.1) (fun s => cs.length - s.1) (0, M, []) ?_ ⟨Nat.zero_le _, rfl⟩ ?_
     ·have hk0d : dr (ktR [] cs.length) = List.replicate cs.length [AV.d (D.bool false)] := by rw [hk0]; simp [dr]
      refine wq [(0, some 0), (1, some 1), (2, some 5), (3, some 13)] (by simp [upT, upH, upR, upL, up, push_cast, <- hk0d])
     ·rintro ⟨k, M2, ks⟩ ⟨hk2, hs2⟩;simp only at hk2 hs2;have hksl : ks.length = k := by have := hsl k hk2; rw [<- hs2] at this; exact this
      refine Nav.imp ?_;refine rg cx ?_;refine awp_cd (decide ((k : Int) < cs.length)) (fun hb => ?_) fun hb => ?_
      ·have hkl : k < cs.length := by simpa using hb
       obtain ⟨c, hcc⟩ := zak hkl;have hsx := hsn k c hcc;rw [<- hs2] at hsx;simp only at hsx;have e1 := wI ((k : Int) + 1);have hset := ktR_set (ks := ks) (n := cs.length) (by omega) (!zcl M2 c);rw [hksl] at hset;have hset : (dr (ktR ks cs.length)).set k [AV.d (.bool !zcl M2 c)] = dr (ktR (ks ++ [!zcl M2 c]) cs.length) := by rw [<- hset, dr_set]; rfl
       have hget := ktR_get (ks := ks) (n := cs.length) (by omega) (!zcl M2 c);rw [hksl] at hget;have hkt := ktR_at (ks := ks) (n := cs.length) (by omega);rw [hksl] at hkt;refine rx cx [] (fun K hK => by simp [push_cast, hcc]; (repeat refine ob ?_); exact hK) ?_;have hlk := hlook c M2;have hpt := hput c true M2;obtain ⟨ux, uy⟩ := c;simp only at hlk hpt;generalize zcl M2 ⟨ux, uy⟩ = sn at *;refine rx cx [(4, .p (.bool sn))] (fun K hK => by simp [push_cast, hlk, hset, hkt]; (repeat refine ob ?_); exact hK) ?_;generalize hall : ks.all id = av at *;have hall2 : (ks ++ [!sn]).all id = (av && !sn) := by rw [List.all_append, hall]; simp
       refine rx cx [] (fun K hK => by simp [push_cast, hget]; (repeat refine ob ?_); exact hK) ?_;refine rx cx [] (fun K hK => by simp [push_cast, hpt]; (repeat refine ob ?_); exact hK) ?_;refine rx cx [] (fun K hK => by simp [push_cast, e1]; (repeat refine ob ?_); exact hK) ?_;refine ⟨(k + 1, zgj M2 ⟨ux, uy⟩ true, ks ++ [!sn]), ⟨hkl, hsx.symm⟩, by simp only; omega, ?_⟩;refine wq [(0, some 0), (1, some 1), (2, some 2), (3, some 3)] (by simp [upT, upH, upR, upL, up, push_cast, hall2])
      ·have hke : k = cs.length := by simp at hb; omega
       subst hke;have hM : M2 = (zeb cs M cs.length).1 := congrArg Prod.fst hs2;have hks : ks = (zeb cs M cs.length).2 := congrArg Prod.snd hs2;rw [<- hM, <- hks] at hnx;rw [<- hks] at hol2;have hfull : ktR ks cs.length = ks.map fun b => [D.bool b] := by rw [<- hksl]; exact ktR_full
       rw [hfull];have c3 := c2 ks hksl;simp only [onceT] at hnx hol2;generalize hall : ks.all id = av at *;refine rg cx ?_;cases av with
       | true =>
        rw [if_pos rfl] at hnx hol2;refine awp_cd true (fun hb => ?_) fun hb => ?_
        ·have hol3 : (out.length + 1) * 40 <= 140737488355328 := by simp at hol2; omega
         have hcl16 : cs.length * 16 <= 140737488355328 := by omega
         refine rd cx mixed [] (fun K hK => by simp [push_cast, hol3, hcl16]; (repeat refine ob ?_); exact hK) ?_;obtain ⟨A, hA⟩ : ∃ A, A = out ++ [(⟨ro, cl, cs⟩ : zm)] := ⟨_, rfl⟩
         have hfold : dr (out.map zm.row) ++ [[AV.d (.int .i64 ro), AV.d (.bool cl), AV.d (.sl (cs.map ze.row))]] = dr (A.map zm.row) := by rw [hA]; simp [dr, zm.row]
         have hAl : out.length + 1 = A.length := by rw [hA]; simp
         rw [<- hA] at hnx;refine zaf 14 (cs.map ze.row) rfl (by simp [push_cast, hfold]) fun K hK => ?_;simp [push_cast, St.fz, fzT, fzH, fzO, fz, fzL, fzR, zbc, zat, zas, zaq, hfold];refine nx hK ?_; clear hK K;rw [hAl];refine rx cx [] (fun K hK => by simp [push_cast, e0]; (repeat refine ob ?_); exact hK) ?_;refine ⟨(i + 1, A, M2), ⟨hlt, hnx.symm⟩, by simp only; omega, ?_⟩;refine wk [(0, some 17), (1, some 1)]
        ·simp at hb
       | false =>
        rw [if_neg (by simp)] at hnx hol2;refine awp_cd false (fun hb => ?_) fun hb => ?_
        ·simp at hb
        ·have htk : List.take cs.length (ks.map fun b => [D.bool b]) = ks.map fun b => [D.bool b] := List.take_of_length_le (by simp [hksl]);have hol3 : (out.length + (pcR ro cs ks).length) * 40 <= 140737488355328 := by simp at hol2; omega
         refine zaf 3 (ks.map fun b => [D.bool b]) rfl (by simp [push_cast, hksl, htk]) fun K hK => ?_;simp [push_cast, St.fz, fzT, fzH, fzO, fz, fzL, fzR, zbc, zat, zas, zaq, hksl, htk];refine nx hK ?_; clear hK K;generalize pcR ro cs ks = pp at *;refine rx cx [(3, .p (zah pp))] (fun K hK => by simp [push_cast, c3, hol3, zm.row]; (repeat refine ob ?_); exact hK) ?_;refine rx cx [] (fun K hK => by simp [push_cast, e0]; (repeat refine ob ?_); exact hK) ?_;refine ⟨(i + 1, out ++ pp, M2), ⟨hlt, hnx.symm⟩, by simp only; omega, ?_⟩;refine wk [(0, some 10), (1, some 1)]
  ·have hie : i = l.length := by simp at hb; omega
   subst hie;rw [<- hst];clear hst hend;refine zaf 0 (out.map zm.row) rfl (by simp [push_cast]) fun K hK => ?_;simp [push_cast, St.fz, fzT, fzH, fzO, fz, fzL, fzR, zbc, zat, zas, zaq];refine nx hK ?_; clear hK K;refine rg cx ?_;simp [push_cast]

inductive Hd where
 | e | n | w | s
 deriving DecidableEq, Repr
def Hd.l : Hd -> Hd | .e => .n | .n => .w | .w => .s | .s => .e
def Hd.r : Hd -> Hd | .e => .s | .n => .e | .w => .n | .s => .w
def Hd.int : Hd -> Int | .e => 0 | .n => 1 | .w => 2 | .s => 3
theorem Hd.int_inj {a b : Hd} (h : a.int = b.int) : a = b := by cases a <;> cases b <;> simp_all [Hd.int]
theorem Hd.l_ne (h : Hd) : h.l ≠ h := by cases h <;> simp [Hd.l]
theorem Hd.r_ne (h : Hd) : h.r ≠ h := by cases h <;> simp [Hd.r]
def stp : Hd -> ze -> ze
 | .e, p => ⟨p.x + 1, p.y⟩
 | .n, p => ⟨p.x, p.y + 1⟩
 | .w, p => ⟨p.x - 1, p.y⟩
 | .s, p => ⟨p.x, p.y - 1⟩
def zae : Hd -> ze -> ze
 | .e, p => p
 | .n, p => ⟨p.x - 1, p.y⟩
 | .w, p => ⟨p.x - 1, p.y - 1⟩
 | .s, p => ⟨p.x, p.y - 1⟩
def zfg : Hd -> ze -> ze
 | .e, p => ⟨p.x, p.y - 1⟩
 | .n, p => p
 | .w, p => ⟨p.x - 1, p.y⟩
 | .s, p => ⟨p.x - 1, p.y - 1⟩
structure Crk where
 p : ze
 h : Hd
 deriving DecidableEq
def isC (S : ze -> Bool) (c : Crk) : Bool := S (zae c.h c.p) && !S (zfg c.h c.p)
def nxH (S : ze -> Bool) (q : ze) (h : Hd) : Hd := if isC S ⟨q, h.l⟩ then h.l else if isC S ⟨q, h⟩ then h else h.r
def Crk.q (c : Crk) : ze := stp c.h c.p
def suc (S : ze -> Bool) (c : Crk) : Crk := ⟨c.q, nxH S c.q c.h⟩
def inQ (ne nw sw se : Bool) : Hd -> Bool | .e => nw && !sw | .n => sw && !se | .w => se && !ne | .s => ne && !nw
def outB (ne nw sw se : Bool) : Hd -> Bool | .e => ne && !se | .n => nw && !ne | .w => sw && !nw | .s => se && !sw
def nxB (ne nw sw se : Bool) (h : Hd) : Hd := if outB ne nw sw se h.l then h.l else if outB ne nw sw se h then h else h.r
theorem outB_of (S : ze -> Bool) (z : ze) (h : Hd) : isC S ⟨z, h⟩ = outB (S z) (S ⟨z.x - 1, z.y⟩) (S ⟨z.x - 1, z.y - 1⟩) (S ⟨z.x, z.y - 1⟩) h := by
 cases h <;> rfl
theorem inQ_of (S : ze -> Bool) (c : Crk) : isC S c = inQ (S c.q) (S ⟨c.q.x - 1, c.q.y⟩) (S ⟨c.q.x - 1, c.q.y - 1⟩) (S ⟨c.q.x, c.q.y - 1⟩) c.h := by
 obtain ⟨⟨x, y⟩, h⟩ := c;cases h <;> simp [isC, inQ, Crk.q, stp, zae, zfg]
theorem nxB_of (S : ze -> Bool) (z : ze) (h : Hd) : nxH S z h = nxB (S z) (S ⟨z.x - 1, z.y⟩) (S ⟨z.x - 1, z.y - 1⟩) (S ⟨z.x, z.y - 1⟩) h := by
 unfold nxH nxB;rw [outB_of, outB_of]
theorem nxB_out {ne nw sw se : Bool} {h : Hd} (hi : inQ ne nw sw se h = true) : outB ne nw sw se (nxB ne nw sw se h) = true := by
 revert hi; cases ne <;> cases nw <;> cases sw <;> cases se <;> cases h <;> decide
theorem nxB_inj {ne nw sw se : Bool} {h k : Hd} (hi : inQ ne nw sw se h = true) (hk : inQ ne nw sw se k = true) (e : nxB ne nw sw se h = nxB ne nw sw se k) : h = k := by
 revert hi hk e; cases ne <;> cases nw <;> cases sw <;> cases se <;> cases h <;> cases k <;> decide
theorem suc_is {S : ze -> Bool} {c : Crk} (h : isC S c = true) : isC S (suc S c) = true := by
 unfold suc;rw [outB_of, nxB_of];rw [inQ_of] at h;exact nxB_out h
theorem suc_inj {S : ze -> Bool} {a b : Crk} (ha : isC S a = true) (hb : isC S b = true) (e : suc S a = suc S b) : a = b := by
 unfold suc at e;have e1 : a.q = b.q := by injection e
 have e2 : nxH S a.q a.h = nxH S b.q b.h := by injection e
 rw [inQ_of] at ha hb;rw [e1] at ha;rw [e1, nxB_of, nxB_of] at e2;have e3 := nxB_inj ha hb e2;obtain ⟨⟨x, y⟩, h⟩ := a;obtain ⟨⟨x', y'⟩, h'⟩ := b;simp only at e3;subst e3;simp only [Crk.q] at e1;cases h <;> simp [stp] at e1 <;> simp <;> omega
section
variable {α : Type} (f : α -> α)
def itn : Nat -> α -> α
 | 0, c => c
 | n + 1, c => itn n (f c)
def orb : Nat -> α -> List α
 | 0, _ => []
 | n + 1, c => c :: orb n (f c)
end
section
variable {α : Type} {f : α -> α}
theorem zfs : ∀ (m n : Nat) (c : α), itn f (m + n) c = itn f n (itn f m c)
 | 0, n, c => by simp [itn]
 | m + 1, n, c => by rw [Nat.succ_add]; simp only [itn]; exact zfs m n (f c)
theorem zdk (n : Nat) (c : α) : itn f (n + 1) c = f (itn f n c) := by rw [zfs]; rfl
theorem zdj : ∀ (n : Nat) (c : α), (orb f n c).length = n
 | 0, _ => rfl
 | n + 1, c => by simp [orb, zdj n]
theorem zus : ∀ {n i : Nat} {c : α}, i < n -> (orb f n c)[i]? = some (itn f i c)
 | 0, _, _, h => absurd h (Nat.not_lt_zero _)
 | n + 1, 0, c, _ => rfl
 | n + 1, i + 1, c, h => by simp only [orb, List.getElem?_cons_succ, itn]; exact zus (by omega)
theorem zur : ∀ (n : Nat) (c : α), orb f (n + 1) c = orb f n c ++ [itn f n c]
 | 0, c => rfl
 | n + 1, c => by rw [orb, zur n (f c)]; rfl
theorem zli : ∀ (m n : Nat) (c : α), orb f (m + n) c = orb f m c ++ orb f n (itn f m c)
 | 0, n, c => by simp [orb, itn]
 | m + 1, n, c => by rw [Nat.succ_add]; simp only [orb, itn, List.cons_append]; rw [zli m n (f c)]
theorem zbt {n : Nat} {c x : α} : x ∈ orb f n c ↔ ∃ i, i < n /\ x = itn f i c := by
 rw [List.mem_iff_getElem?];constructor
 ·rintro ⟨i, h⟩;have hi := (List.getElem?_eq_some_iff.1 h).1;rw [zdj] at hi;rw [zus hi] at h;exact ⟨i, hi, by cases h; rfl⟩
 ·rintro ⟨i, hi, rfl⟩;exact ⟨i, zus hi⟩
structure Per (f : α -> α) (c : α) (n : Nat) : Prop where
 pos : 0 < n
 ret : itn f n c = c
 least : ∀ i, 0 < i -> i < n -> itn f i c ≠ c
theorem Per.eq {c : α} {m n : Nat} (h : Per f c m) (k : Per f c n) : m = n := by
 rcases Nat.lt_trichotomy m n with e | e | e
 ·exact absurd h.ret (k.least m h.pos e)
 ·exact e
 ·exact absurd k.ret (h.least n k.pos e)
theorem zlw [DecidableEq α] : ∀ {l m : List α}, l.Nodup -> (∀ x ∈ l, x ∈ m) -> l.length <= m.length
 | [], m, _, _ => Nat.zero_le _
 | a :: l, m, hn, hs => by
  obtain ⟨h1, h2⟩ := List.nodup_cons.1 hn;have ha := hs a (by simp);have := zlw (l := l) (m := m.erase a) h2 fun x hx => by
   have hne : x ≠ a := fun e => h1 (e ▸ hx);exact (List.mem_erase_of_ne hne).2 (hs x (by simp [hx]))
  rw [List.length_erase_of_mem ha] at this;have hp := List.length_pos_of_mem ha;simp only [List.length_cons];omega
section
variable [DecidableEq α] {C : List α} (hcl : ∀ c ∈ C, f c ∈ C) (hinj : ∀ a ∈ C, ∀ b ∈ C, f a = f b -> a = b)
include hcl in
theorem zrn {c : α} (hc : c ∈ C) : ∀ n, itn f n c ∈ C
 | 0 => hc
 | n + 1 => by rw [zdk]; exact hcl _ (zrn hc n)
include hcl hinj in
theorem itn_back {c : α} (hc : c ∈ C) : ∀ (i j : Nat), itn f (i + j) c = itn f i c -> itn f j c = c
 | 0, j, h => by rw [Nat.zero_add] at h; exact h
 | i + 1, j, h => by
  rw [show i + 1 + j = (i + j) + 1 by omega, zdk, zdk] at h;exact itn_back hc i j (hinj _ (zrn hcl hc _) _ (zrn hcl hc _) h)
theorem nodup_of_get {l : List α} (h : ∀ i j, i < j -> j < l.length -> l[i]? ≠ l[j]?) : l.Nodup := by
 induction l with
 | nil => exact List.nodup_nil
 | cons a l ih =>
  refine List.nodup_cons.2 ⟨fun ha => ?_, ih fun i j hij hj => by have := h (i + 1) (j + 1) (by omega) (by simp; omega); simpa using this⟩;obtain ⟨j, hj⟩ := List.mem_iff_getElem?.1 ha;have hl := (List.getElem?_eq_some_iff.1 hj).1;exact h 0 (j + 1) (by omega) (by simp; omega) (by simp [hj])
include hcl hinj in
theorem zmo {c : α} (hc : c ∈ C) {n : Nat} (h : ∀ i, 0 < i -> i < n -> itn f i c ≠ c) : (orb f n c).Nodup := by
 refine nodup_of_get fun i j hij hj => ?_;rw [zdj] at hj;rw [zus (by omega), zus hj];intro e;have e : itn f i c = itn f j c := by injection e
 have := itn_back hcl hinj hc i (j - i) (by rw [show i + (j - i) = j by omega]; exact e.symm);exact h (j - i) (by omega) (by omega) this
include hcl hinj in
theorem per_ex {c : α} (hc : c ∈ C) : ∃ n, Per f c n /\ n <= C.length := by
 have h1 : ∃ n, 0 < n /\ n <= C.length /\ itn f n c = c := by
  apply Classical.byContradiction
  intro hno;have hnd : (orb f (C.length + 1) c).Nodup := zmo hcl hinj hc fun i h0 hi e => hno ⟨i, h0, by omega, e⟩;have := zlw hnd (m := C) fun x hx => by
   obtain ⟨i, _, rfl⟩ := zbt.1 hx;exact zrn hcl hc i
  rw [zdj] at this;omega
 obtain ⟨n, h1⟩ := h1;induction n using Nat.strongRecOn with
 | _ n ih =>
  by_cases hl : ∃ i, 0 < i /\ i < n /\ itn f i c = c
  ·obtain ⟨i, a, b, e⟩ := hl;exact ih i b ⟨a, by omega, e⟩
  ·exact ⟨n, ⟨h1.1, h1.2.2, fun i a b e => hl ⟨i, a, b, e⟩⟩, h1.2.1⟩
include hcl hinj in
theorem Per.next {c : α} (hc : c ∈ C) {n : Nat} (h : Per f c n) : Per f (f c) n := by
 have comm : ∀ i, Go.Proofs.YtdddknniooimmaaGreat.itn f i (f c) = f (Go.Proofs.YtdddknniooimmaaGreat.itn f i c) := fun i => (zdk (f := f) i c).symm ▸ rfl;refine ⟨h.pos, by rw [comm, h.ret], fun i a b e => ?_⟩;rw [comm] at e;exact h.least i a b (hinj _ (zrn hcl hc i) _ hc e)
include hcl hinj in
theorem Per.itn {c : α} (hc : c ∈ C) {n : Nat} (h : Per f c n) : ∀ i, Per f (itn f i c) n
 | 0 => h
 | i + 1 => by rw [zdk]; exact (Per.itn hc h i).next hcl hinj (zrn hcl hc i)
theorem Per.mod {c : α} {n : Nat} (h : Per f c n) (i : Nat) : Go.Proofs.YtdddknniooimmaaGreat.itn f i c = Go.Proofs.YtdddknniooimmaaGreat.itn f (i % n) c := by
 have h1 : ∀ k, Go.Proofs.YtdddknniooimmaaGreat.itn f (n * k) c = c := by
  intro k;induction k with
  | zero => rfl
  | succ k ih => rw [Nat.mul_succ, zfs, ih, h.ret]
 conv => lhs; rw [<- Nat.div_add_mod i n, zfs, h1]
theorem Per.orb_mem {c d : α} {n : Nat} (h : Per f c n) (hd : d ∈ orb f n c) : ∀ x, x ∈ orb f n d ↔ x ∈ orb f n c := by
 obtain ⟨k, hk, rfl⟩ := zbt.1 hd;intro x;constructor
 ·intro hx;obtain ⟨i, hi, rfl⟩ := zbt.1 hx;rw [<- zfs, h.mod];exact zbt.2 ⟨_, Nat.mod_lt _ h.pos, rfl⟩
 ·intro hx;obtain ⟨i, hi, rfl⟩ := zbt.1 hx;refine zbt.2 ⟨(i + n - k) % n, Nat.mod_lt _ h.pos, ?_⟩;rw [<- zfs, h.mod i, h.mod (k + _)]
  congr 1
  rw [Nat.add_mod, Nat.mod_mod, <- Nat.add_mod, show k + (i + n - k) = i + n by omega, Nat.add_mod_right]
theorem Per.rot {c : α} {n k : Nat} (h : Per f c n) (hk : k <= n) : orb f n (Go.Proofs.YtdddknniooimmaaGreat.itn f k c) = (orb f n c).drop k ++ (orb f n c).take k := by
 have e1 : orb f n c = orb f k c ++ orb f (n - k) (Go.Proofs.YtdddknniooimmaaGreat.itn f k c) := by rw [<- zli]; congr 1; omega
 have e2 : orb f n (Go.Proofs.YtdddknniooimmaaGreat.itn f k c) = orb f (n - k) (Go.Proofs.YtdddknniooimmaaGreat.itn f k c) ++ orb f k c := by
  have : orb f n (Go.Proofs.YtdddknniooimmaaGreat.itn f k c) = orb f ((n - k) + k) (Go.Proofs.YtdddknniooimmaaGreat.itn f k c) := by congr 1; omega
  rw [this, zli, <- zfs, show k + (n - k) = n by omega, h.ret]
 rw [e2, e1, List.drop_left' (zdj ..), List.take_left' (zdj ..)]
end
end
def zdq (a b : ze) : Prop := a.y < b.y \/ (a.y = b.y /\ a.x < b.x)
theorem zms (a : ze) : ¬ zdq a a := by unfold zdq; omega
theorem zet {a b : ze} (h : zdq a b) : ¬ zdq b a := by unfold zdq at *; omega
theorem lowC_trans {a b c : ze} (h : zdq a b) (k : zdq b c) : zdq a c := by unfold zdq at *; omega
theorem zqb (a b : ze) : zdq a b \/ a = b \/ zdq b a := by
 obtain ⟨x, y⟩ := a; obtain ⟨u, v⟩ := b;unfold zdq; simp only [ze.mk.injEq]; omega
theorem lowC_step {c : Crk} (h : ¬ zdq c.q c.p) : c.h = .e \/ c.h = .n := by
 obtain ⟨⟨x, y⟩, k⟩ := c;cases k <;> simp [zdq, Crk.q, stp] at h ⊢ <;> omega
theorem lowC_step' {a : Crk} (h : ¬ zdq a.p a.q) : a.h = .w \/ a.h = .s := by
 obtain ⟨⟨x, y⟩, k⟩ := a;cases k <;> simp [zdq, Crk.q, stp] at h ⊢ <;> omega
theorem q_ne (c : Crk) : c.q ≠ c.p := by
 obtain ⟨⟨x, y⟩, k⟩ := c;intro h;cases k <;> simp [Crk.q, stp] at h <;> omega
theorem zrm {S : ze -> Bool} {c d : Crk} (hc : isC S c = true) (hd : isC S d = true) (e : c.p = d.p) (h1 : ¬ zdq c.q c.p) (h2 : ¬ zdq d.q d.p) : c = d := by
 have k1 := lowC_step h1;have k2 := lowC_step h2;obtain ⟨p, h⟩ := c;obtain ⟨p', k⟩ := d;simp only at e k1 k2;subst e;rw [outB_of] at hc hd;rcases k1 with rfl | rfl <;> rcases k2 with rfl | rfl <;> simp [outB] at hc hd ⊢ <;> simp_all

def zdg (S : ze -> Bool) (C : List Crk) : Prop := ∀ c, c ∈ C ↔ isC S c = true
theorem zdg.cl {S : ze -> Bool} {C : List Crk} (h : zdg S C) : ∀ c ∈ C, suc S c ∈ C := fun c hc => (h _).2 (suc_is ((h c).1 hc))
theorem zdg.inj {S : ze -> Bool} {C : List Crk} (h : zdg S C) : ∀ a ∈ C, ∀ b ∈ C, suc S a = suc S b -> a = b := fun a ha b hb e => suc_inj ((h a).1 ha) ((h b).1 hb) e
def zsh (S : ze -> Bool) (L : List Crk) : Prop := ∃ c n, isC S c = true /\ Per (suc S) c n /\ L = orb (suc S) n c /\ ∀ d ∈ L, d ≠ c -> zdq c.p d.p
def lowL (L M : List Crk) : Prop := ∃ c d, L.head? = some c /\ M.head? = some d /\ zdq c.p d.p
structure Lps (S : ze -> Bool) (Ls : List (List Crk)) : Prop where
 each : ∀ L ∈ Ls, zsh S L
 cover : ∀ c, isC S c = true -> ∃ L ∈ Ls, c ∈ L
 sorted : Ls.Pairwise lowL
theorem zki {α : Type} {f : α -> α} {n : Nat} {c : α} (h : 0 < n) : (orb f n c).head? = some c := by
 cases n with
 | zero => omega
 | succ n => rfl
theorem zfh {α : Type} {f : α -> α} {n : Nat} {c : α} (h : 0 < n) : c ∈ orb f n c := zbt.2 ⟨0, h, rfl⟩
theorem znu {S : ze -> Bool} {c d : Crk} (hc : isC S c = true) {n : Nat} (h : d ∈ orb (suc S) n c) : isC S d = true := by
 obtain ⟨i, hi, rfl⟩ := zbt.1 h;clear h hi;induction i generalizing c with
 | zero => exact hc
 | succ i ih => exact ih (suc_is hc)
theorem pw_uniq {α : Type} {R : α -> α -> Prop} : ∀ {l m : List α}, l.Pairwise R -> m.Pairwise R -> (∀ x, x ∈ l ↔ x ∈ m) -> (∀ a ∈ l, ∀ b ∈ l, R a b -> ¬ R b a) -> l = m
 | [], m, _, _, h, _ => by
  cases m with
  | nil => rfl
  | cons b m => have := (h b).2 (by simp); cases this
 | a :: l, [], _, _, h, _ => by have := (h a).1 (by simp); cases this
 | a :: l, b :: m, h1, h2, h, has => by
  obtain ⟨k1, k1'⟩ := List.pairwise_cons.1 h1;obtain ⟨k2, k2'⟩ := List.pairwise_cons.1 h2;have hab : a = b := by
   rcases List.mem_cons.1 ((h a).1 (by simp)) with e | ha
   ·exact e
   ·rcases List.mem_cons.1 ((h b).2 (by simp)) with e | hb
    ·exact e.symm
    ·exact absurd (k2 a ha) (has a (by simp) b (by simp [hb]) (k1 b hb))
  subst hab;have irr : ¬ R a a := fun hr => has a (by simp) a (by simp) hr hr
  congr 1
  refine pw_uniq k1' k2' (fun x => ?_) fun x hx y hy => has x (by simp [hx]) y (by simp [hy]);constructor
  ·intro hx;rcases List.mem_cons.1 ((h x).1 (by simp [hx])) with rfl | hm
   ·exact absurd (k1 x hx) irr
   ·exact hm
  ·intro hx;rcases List.mem_cons.1 ((h x).2 (by simp [hx])) with rfl | hm
   ·exact absurd (k2 x hx) irr
   ·exact hm
theorem lp_uniq {S : ze -> Bool} {L M : List Crk} (hL : zsh S L) (hM : zsh S M) {x : Crk} (h1 : x ∈ L) (h2 : x ∈ M) {C : List Crk} (hC : zdg S C) : L = M := by
 obtain ⟨c, n, hc, pc, rfl, lc⟩ := hL;obtain ⟨d, m, hd, pd, rfl, ld⟩ := hM;have e1 := pc.orb_mem h1;have e2 := pd.orb_mem h2;obtain ⟨i, hi, rfl⟩ := zbt.1 h1;have px : Per (suc S) (itn (suc S) i c) n := pc.itn hC.cl hC.inj ((hC c).2 hc) i;have px2 : Per (suc S) (itn (suc S) i c) m := by
  obtain ⟨j, hj, e⟩ := zbt.1 h2;rw [e];exact pd.itn hC.cl hC.inj ((hC d).2 hd) j
 have hnm := px.eq px2;subst hnm;have hcd : c = d := by
  apply Classical.byContradiction
  intro hne;have a1 : d ∈ orb (suc S) n c := (e1 d).1 ((e2 d).2 (zfh pd.pos));have a2 : c ∈ orb (suc S) n d := (e2 c).1 ((e1 c).2 (zfh pc.pos));exact zet (lc d a1 (Ne.symm hne)) (ld c a2 hne)
 rw [hcd]
theorem lps_uniq {S : ze -> Bool} {C : List Crk} (hC : zdg S C) {Ls Ms : List (List Crk)} (h : Lps S Ls) (k : Lps S Ms) : Ls = Ms := by
 refine pw_uniq h.sorted k.sorted (fun L => ?_) fun L _ M _ ⟨c, d, e1, e2, hlt⟩ ⟨d', c', e3, e4, hlt'⟩ => by
  rw [e1] at e4; rw [e2] at e3;cases e3; cases e4;exact zet hlt hlt'
 have key : ∀ {Ls Ms : List (List Crk)}, Lps S Ls -> Lps S Ms -> ∀ L, L ∈ Ls -> L ∈ Ms := by
  intro Ls Ms h k L hL;have hl := h.each L hL;obtain ⟨c, n, hc, pc, rfl, lc⟩ := hl;obtain ⟨M, hM, hm⟩ := k.cover c hc;have := lp_uniq (h.each _ hL) (k.each M hM) (zfh pc.pos) hm hC;rw [this]; exact hM
 exact ⟨key h k L, key k h L⟩

def zfw (h : Hd) : List Crk -> List ze
 | [] => []
 | d :: t => if d.h = h then zfw d.h t else d.p :: zfw d.h t
def zay : List Crk -> List ze
 | [] => []
 | c :: t => c.p :: zfw c.h t
def zqc (h : Hd) : List Crk -> Hd
 | [] => h
 | d :: t => zqc d.h t
theorem zjk : ∀ (h : Hd) (A B : List Crk), zfw h (A ++ B) = zfw h A ++ zfw (zqc h A) B
 | h, [], B => rfl
 | h, d :: A, B => by
  simp only [List.cons_append, zfw, zqc];rw [zjk d.h A B];split <;> rfl
theorem zra : ∀ {h : Hd} {A : List Crk} {p : ze}, p ∈ zfw h A -> ∃ d ∈ A, d.p = p
 | h, [], p, hp => by cases hp
 | h, d :: A, p, hp => by
  simp only [zfw] at hp;split at hp
  ·obtain ⟨x, hx, e⟩ := zra hp; exact ⟨x, by simp [hx], e⟩
  ·rcases List.mem_cons.1 hp with rfl | hp
   ·exact ⟨d, by simp, rfl⟩
   ·obtain ⟨x, hx, e⟩ := zra hp; exact ⟨x, by simp [hx], e⟩
theorem zjv {S : ze -> Bool} : ∀ {n : Nat} {c : Crk} (h : Hd), 0 < n -> zqc h (orb (suc S) n c) = (itn (suc S) (n - 1) c).h
 | 0, c, h, hn => absurd hn (Nat.lt_irrefl 0)
 | 1, c, h, _ => rfl
 | n + 2, c, h, _ => by
  have := zjv (S := S) (n := n + 1) (c := suc S c) c.h (by omega);simp only [Nat.add_sub_cancel] at this;rw [orb];exact this
theorem lp_turn {S : ze -> Bool} {C : List Crk} (hC : zdg S C) {c : Crk} {n : Nat} (hc : isC S c = true) (pc : Per (suc S) c n) (lc : ∀ d ∈ orb (suc S) n c, d ≠ c -> zdq c.p d.p) :
  2 <= n /\ (c.h = .e \/ c.h = .n) /\ ((itn (suc S) (n - 1) c).h = .w \/ (itn (suc S) (n - 1) c).h = .s) := by
 have h1 : n ≠ 1 := fun e => by
  subst e;have := pc.ret;simp only [itn] at this;exact q_ne c (by have h2 := congrArg Crk.p this; exact h2)
 have h2 : 2 <= n := by have := pc.pos; omega
 have ne1 : suc S c ≠ c := pc.least 1 (by omega) (by omega);have m1 : suc S c ∈ orb (suc S) n c := zbt.2 ⟨1, by omega, rfl⟩;have ne2 : itn (suc S) (n - 1) c ≠ c := pc.least (n - 1) (by omega) (by omega);have m2 : itn (suc S) (n - 1) c ∈ orb (suc S) n c := zbt.2 ⟨n - 1, by omega, rfl⟩;refine ⟨h2, lowC_step (fun h => zet h (lc _ m1 ne1)), lowC_step' fun h => ?_⟩;have e : (itn (suc S) (n - 1) c).q = c.p := by
  have := pc.ret;rw [show n = (n - 1) + 1 by omega, zdk] at this;exact congrArg Crk.p this
 rw [e] at h;exact zet h (lc _ m2 ne2)
theorem lp_rot {S : ze -> Bool} {C : List Crk} (hC : zdg S C) {c : Crk} {n : Nat} (hc : isC S c = true) (pc : Per (suc S) c n) (lc : ∀ d ∈ orb (suc S) n c, d ≠ c -> zdq c.p d.p) {k : Nat} (hk : k < n) :
  ∃ X Y, zfw (itn (suc S) (k + (n - 1)) c).h (orb (suc S) n (itn (suc S) k c)) = X ++ c.p :: Y /\ zay (orb (suc S) n c) = (c.p :: Y) ++ X /\ (∀ p ∈ X, zdq c.p p) /\ (∀ p ∈ Y, zdq c.p p) := by
 obtain ⟨h2, h3, h4⟩ := lp_turn hC hc pc lc;have hnd : (orb (suc S) n c).Nodup := zmo hC.cl hC.inj ((hC c).2 hc) pc.least;have hlow : ∀ A : List Crk, (∀ d ∈ A, d ∈ orb (suc S) n c /\ d ≠ c) -> ∀ (h : Hd), ∀ p ∈ zfw h A, zdq c.p p := by
  intro A hA h p hp;obtain ⟨d, hd, rfl⟩ := zra hp;exact lc d (hA d hd).1 (hA d hd).2
 obtain ⟨m, rfl⟩ : ∃ m, n = m + 1 := ⟨n - 1, by omega⟩
 have ho : orb (suc S) (m + 1) c = c :: orb (suc S) m (suc S c) := rfl;rw [ho] at hnd;obtain ⟨hcn, _⟩ := List.nodup_cons.1 hnd;have htl : ∀ d ∈ orb (suc S) m (suc S c), d ∈ orb (suc S) (m + 1) c /\ d ≠ c := fun d hd => ⟨by rw [ho]; simp [hd], fun e => hcn (e ▸ hd)⟩
 by_cases h0 : k = 0
 ·subst h0;refine ⟨[], zfw c.h (orb (suc S) m (suc S c)), ?_, ?_, by simp, hlow _ htl _⟩
  ·simp only [Nat.zero_add, itn];rw [ho];simp only [zfw, List.nil_append];rw [if_neg];intro e;simp only [Nat.add_sub_cancel] at h4 e;rw [<- e] at h4;rcases h3 with h3 | h3 <;> rcases h4 with h4 | h4 <;> rw [h3] at h4 <;> cases h4
  ·rw [ho]; simp [zay]
 ·obtain ⟨j, rfl⟩ : ∃ j, k = j + 1 := ⟨k - 1, by omega⟩
  have e1 : orb (suc S) (m + 1) (itn (suc S) (j + 1) c) = orb (suc S) (m - j) (itn (suc S) (j + 1) c) ++ (c :: orb (suc S) j (suc S c)) := by
   have := pc.rot (k := j + 1) (by omega);rw [this];have ha : orb (suc S) (m + 1) c = orb (suc S) (j + 1) c ++ orb (suc S) (m - j) (itn (suc S) (j + 1) c) := by rw [<- zli]; congr 1; omega
   rw [ha, List.drop_left' (zdj ..), List.take_left' (zdj ..)];rfl
  have e2 : orb (suc S) m (suc S c) = orb (suc S) j (suc S c) ++ orb (suc S) (m - j) (itn (suc S) (j + 1) c) := by
   have : orb (suc S) m (suc S c) = orb (suc S) (j + (m - j)) (suc S c) := by congr 1; omega
   rw [this, zli]; rfl
  have hlast : zqc (itn (suc S) (j + 1 + (m + 1 - 1)) c).h (orb (suc S) (m - j) (itn (suc S) (j + 1) c)) = (itn (suc S) (m + 1 - 1) c).h := by
   rw [zjv _ (by omega), <- zfs]; congr 2; omega
  have hre : itn (suc S) (j + 1 + (m + 1 - 1)) c = itn (suc S) j c := by
   rw [show j + 1 + (m + 1 - 1) = (m + 1) + j by omega, zfs, pc.ret]
  refine ⟨zfw (itn (suc S) j c).h (orb (suc S) (m - j) (itn (suc S) (j + 1) c)), zfw c.h (orb (suc S) j (suc S c)), ?_, ?_, hlow _ (fun d hd => htl d (by rw [e2]; simp [hd])) _, hlow _ (fun d hd => htl d (by rw [e2]; simp [hd])) _⟩
  ·rw [e1, zjk, hlast, hre]
   congr 1
   simp only [zfw];rw [if_neg];intro e;rw [<- e] at h4;rcases h3 with h3 | h3 <;> rcases h4 with h4 | h4 <;> rw [h3] at h4 <;> cases h4
  ·rw [ho];simp only [zay, List.cons_append];rw [e2, zjk]
   congr 2
   have : zqc c.h (orb (suc S) j (suc S c)) = (itn (suc S) j c).h := by
    cases j with
    | zero => rfl
    | succ j => rw [zjv _ (by omega)]; simp only [Nat.add_sub_cancel, itn]
   rw [this]
end Go.Proofs.YtdddknniooimmaaGreat

namespace Go.Proofs.YtdddknniooimmaaGreat
open Go.Abs

theorem least_ex {α : Type} (g : α -> ze) : ∀ {l : List α}, l ≠ [] -> ∃ c ∈ l, ∀ d ∈ l, ¬ zdq (g d) (g c)
 | [], h => absurd rfl h
 | [a], _ => ⟨a, by simp, by intro d hd; simp at hd; subst hd; exact zms _⟩
 | a :: b :: l, _ => by
  obtain ⟨c, hc, h⟩ := least_ex g (l := b :: l) (by simp);by_cases hl : zdq (g a) (g c)
  ·refine ⟨a, by simp, fun d hd => ?_⟩;rcases List.mem_cons.1 hd with rfl | hd
   ·exact zms _
   ·intro k; exact h d hd (lowC_trans k hl)
  ·refine ⟨c, by simp [hc], fun d hd => ?_⟩;rcases List.mem_cons.1 hd with rfl | hd
   ·exact hl
   ·exact h d hd
theorem orb_suc {S : ze -> Bool} {c d : Crk} {n : Nat} (pc : Per (suc S) c n) (h : d ∈ orb (suc S) n c) : suc S d ∈ orb (suc S) n c := by
 obtain ⟨i, hi, rfl⟩ := zbt.1 h;rw [show suc S (itn (suc S) i c) = itn (suc S) (i + 1) c from (zdk i c).symm, pc.mod];exact zbt.2 ⟨_, Nat.mod_lt _ pc.pos, rfl⟩
theorem lp_ex {S : ze -> Bool} {C : List Crk} (hC : zdg S C) {c0 : Crk} (h0 : isC S c0 = true) :
  ∃ c n k, isC S c = true /\ Per (suc S) c n /\ k < n /\ n <= C.length /\ c0 = itn (suc S) k c /\ Per (suc S) c0 n /\ ∀ d ∈ orb (suc S) n c, d ≠ c -> zdq c.p d.p := by
 obtain ⟨n, pn, hn⟩ := per_ex hC.cl hC.inj ((hC c0).2 h0);obtain ⟨c, hc, hl⟩ := least_ex Crk.p (l := orb (suc S) n c0) (by intro e; have h3 := congrArg List.length e; rw [zdj] at h3; have := pn.pos; rw [h3] at this; exact absurd this (Nat.lt_irrefl 0));have hcC := znu h0 hc;obtain ⟨i, hi, rfl⟩ := zbt.1 hc;have pc := pn.itn hC.cl hC.inj ((hC c0).2 h0) i;have hmem := pn.orb_mem hc;have h00 : c0 ∈ orb (suc S) n (itn (suc S) i c0) := (hmem c0).2 (zfh pn.pos);obtain ⟨k, hk, e⟩ := zbt.1 h00;refine ⟨_, n, k, hcC, pc, hk, hn, e, pn, fun d hd hne => ?_⟩;have hd0 := (hmem d).1 hd;rcases zqb (itn (suc S) i c0).p d.p with h | h | h
 ·exact h
 ·exfalso
  refine hne (zrm (znu h0 hd0) hcC h.symm ?_ ?_)
  ·rw [<- h]; exact hl _ (orb_suc pn hd0)
  ·exact hl _ (orb_suc pn hc)
 ·exact absurd h (hl d hd0)
theorem lp_pred {S : ze -> Bool} {C : List Crk} (hC : zdg S C) {c d : Crk} {n : Nat} (hc : isC S c = true) (pc : Per (suc S) c n) (hd : isC S d = true) (h : suc S d ∈ orb (suc S) n c) : d ∈ orb (suc S) n c := by
 obtain ⟨i, hi, e⟩ := zbt.1 h;have e2 : suc S d = suc S (itn (suc S) (i + (n - 1)) c) := by
  rw [show suc S (itn (suc S) (i + (n - 1)) c) = itn (suc S) (i + (n - 1) + 1) c from (zdk _ c).symm, show i + (n - 1) + 1 = n + i by have := pc.pos; omega, zfs, pc.ret, e]
 have := suc_inj hd (znu hc (by rw [pc.mod]; exact zbt.2 ⟨_, Nat.mod_lt _ pc.pos, rfl⟩)) e2;rw [this, pc.mod];exact zbt.2 ⟨_, Nat.mod_lt _ pc.pos, rfl⟩

structure Fam (S : ze -> Bool) (Ls : List (List Crk)) : Prop where
 each : ∀ L ∈ Ls, zsh S L
 sorted : Ls.Pairwise lowL
def onF (Ls : List (List Crk)) (c : Crk) : Prop := ∃ L ∈ Ls, c ∈ L
theorem Fam.pred {S : ze -> Bool} {C : List Crk} (hC : zdg S C) {Ls : List (List Crk)} (h : Fam S Ls) {d : Crk} (hd : isC S d = true) (k : onF Ls (suc S d)) : onF Ls d := by
 obtain ⟨L, hL, hm⟩ := k;obtain ⟨c, n, hc, pc, rfl, _⟩ := h.each L hL;exact ⟨_, hL, lp_pred hC hc pc hd hm⟩
theorem Fam.off {S : ze -> Bool} {C : List Crk} (hC : zdg S C) {Ls : List (List Crk)} (h : Fam S Ls) {c : Crk} (hc : isC S c = true) (k : ¬ onF Ls c) : ∀ i, ¬ onF Ls (itn (suc S) i c) /\ isC S (itn (suc S) i c) = true
 | 0 => ⟨k, hc⟩
 | i + 1 => by
  obtain ⟨h1, h2⟩ := Fam.off hC h hc k i;rw [zdk];exact ⟨fun h3 => h1 (h.pred hC h2 h3), suc_is h2⟩
theorem lp_head {S : ze -> Bool} {L : List Crk} (h : zsh S L) : ∃ c, L.head? = some c /\ c ∈ L /\ isC S c = true /\ (∀ d ∈ L, d ≠ c -> zdq c.p d.p) /\ ∃ Y, zay L = c.p :: Y := by
 obtain ⟨c, n, hc, pc, rfl, lc⟩ := h;refine ⟨c, zki pc.pos, zfh pc.pos, hc, lc, ?_⟩;obtain ⟨m, rfl⟩ : ∃ m, n = m + 1 := ⟨n - 1, by have := pc.pos; omega⟩
 exact ⟨_, rfl⟩
theorem lp_ne {S : ze -> Bool} {L M : List Crk} (hL : zsh S L) (hM : zsh S M) (h : ∀ x ∈ L, x ∉ M) : lowL L M \/ lowL M L := by
 obtain ⟨c, n, hc, pc, rfl, lc⟩ := hL;obtain ⟨d, m, hd, pd, rfl, ld⟩ := hM;rcases zqb c.p d.p with h1 | h1 | h1
 ·exact .inl ⟨c, d, zki pc.pos, zki pd.pos, h1⟩
 ·exfalso
  have : c = d := by
   refine zrm hc hd h1 (fun h2 => ?_) fun h2 => ?_
   ·exact zet h2 (lc _ (orb_suc pc (zfh pc.pos)) (fun e => q_ne c (congrArg Crk.p e)))
   ·exact zet h2 (ld _ (orb_suc pd (zfh pd.pos)) (fun e => q_ne d (congrArg Crk.p e)))
  subst this;exact h c (zfh pc.pos) (zfh pd.pos)
 ·exact .inr ⟨d, c, zki pd.pos, zki pc.pos, h1⟩
theorem lowL_trans {L M N : List Crk} (h : lowL L M) (k : lowL M N) : lowL L N := by
 obtain ⟨a, b, h1, h2, h3⟩ := h;obtain ⟨b', c, k1, k2, k3⟩ := k;rw [h2] at k1; cases k1;exact ⟨a, c, h1, k2, lowC_trans h3 k3⟩
instance (a b : ze) : Decidable (zdq a b) := inferInstanceAs (Decidable (_ \/ _))
def lowP (a b : List ze) : Bool := match a, b with
 | p :: _, q :: _ => decide (zdq p q)
 | _, _ => false
def insK (l : List (List ze)) (p : List ze) : Nat := (l.takeWhile fun q => lowP q p).length
def insP (l : List (List ze)) (p : List ze) : List (List ze) := l.take (insK l p) ++ p :: l.drop (insK l p)
theorem insP_cons (q : List ze) (l : List (List ze)) (p : List ze) : insP (q :: l) p = if lowP q p then q :: insP l p else p :: q :: l := by
 unfold insP insK;rw [List.takeWhile_cons];split <;> simp
theorem lowP_lowL {S : ze -> Bool} {L M : List Crk} (hL : zsh S L) (hM : zsh S M) : lowP (zay L) (zay M) = true ↔ lowL L M := by
 obtain ⟨c, h1, _, _, _, Y, h2⟩ := lp_head hL;obtain ⟨d, k1, _, _, _, Z, k2⟩ := lp_head hM;rw [h2, k2];simp only [lowP, decide_eq_true_eq];constructor
 ·intro h; exact ⟨c, d, h1, k1, h⟩
 ·rintro ⟨c', d', e1, e2, h⟩;rw [h1] at e1; rw [k1] at e2;cases e1; cases e2; exact h
theorem Fam.ins {S : ze -> Bool} {L : List Crk} (hL : zsh S L) : ∀ {Ls : List (List Crk)}, Fam S Ls -> (∀ x ∈ L, ¬ onF Ls x) -> ∃ Ms, Fam S Ms /\ insP (Ls.map zay) (zay L) = Ms.map zay /\ (∀ M, M ∈ Ms ↔ M = L \/ M ∈ Ls)
 | [], _, _ => ⟨[L], ⟨by simpa using hL, by simp⟩, by simp [insP, insK], by simp⟩
 | M :: Ls, h, hn => by
  have hM := h.each M (by simp);obtain ⟨s1, s2⟩ := List.pairwise_cons.1 h.sorted;obtain ⟨Ms, i1, i2, i3⟩ := Fam.ins hL (Ls := Ls) ⟨fun N hN => h.each N (by simp [hN]), s2⟩ fun x hx ⟨N, hN, hm⟩ => hn x hx ⟨N, by simp [hN], hm⟩;rw [List.map_cons, insP_cons];by_cases hlt : lowL M L
  ·rw [if_pos ((lowP_lowL hM hL).2 hlt), i2];refine ⟨M :: Ms, ⟨?_, List.pairwise_cons.2 ⟨fun N hN => ?_, i1.sorted⟩⟩, rfl, fun N => ?_⟩
   ·intro N hN;rcases List.mem_cons.1 hN with rfl | hN
    ·exact hM
    ·exact i1.each N hN
   ·rcases (i3 N).1 hN with rfl | hN
    ·exact hlt
    ·exact s1 N hN
   ·simp only [List.mem_cons, i3 N];constructor
    ·rintro (h | h | h) <;> simp [h]
    ·rintro (h | h | h) <;> simp [h]
  ·rw [if_neg (fun e => hlt ((lowP_lowL hM hL).1 e))];have hlt2 : lowL L M := by
    rcases lp_ne hM hL (fun x hx hx2 => hn x hx2 ⟨M, by simp, hx⟩) with h1 | h1
    ·exact absurd h1 hlt
    ·exact h1
   refine ⟨L :: M :: Ls, ⟨?_, List.pairwise_cons.2 ⟨fun N hN => ?_, h.sorted⟩⟩, rfl, fun N => by simp⟩
   ·intro N hN;rcases List.mem_cons.1 hN with rfl | hN
    ·exact hL
    ·exact h.each N hN
   ·rcases List.mem_cons.1 hN with rfl | hN
    ·exact hlt2
    ·exact lowL_trans hlt2 (s1 N hN)

def minK (l : List ze) (i : Nat) : Nat := (List.range i).foldl (fun f j => if lowP (l.drop j) (l.drop f) then j else f) 0
theorem minK_succ (l : List ze) (i : Nat) : minK l (i + 1) = if lowP (l.drop i) (l.drop (minK l i)) then i else minK l i := by
 unfold minK;rw [List.range_succ, List.foldl_append];rfl
theorem minK_le (l : List ze) : ∀ i, minK l i = 0 \/ minK l i < i
 | 0 => .inl rfl
 | i + 1 => by
  rw [minK_succ];split
  ·right; omega
  ·rcases minK_le l i with h | h
   ·left; exact h
   ·right; omega
theorem zly {l : List ze} {i : Nat} {p : ze} (h : l[i]? = some p) : ∃ t, l.drop i = p :: t := by
 obtain ⟨hi, rfl⟩ := List.getElem?_eq_some_iff.1 h;exact ⟨_, List.drop_eq_getElem_cons hi⟩
theorem minK_at {X Y : List ze} {c : ze} (hX : ∀ p ∈ X, zdq c p) (hY : ∀ p ∈ Y, zdq c p) : ∀ i, X.length < i -> i <= (X ++ c :: Y).length -> minK (X ++ c :: Y) i = X.length
 | 0, h, _ => absurd h (Nat.not_lt_zero _)
 | i + 1, h, hl => by
  rw [minK_succ];have hc : (X ++ c :: Y)[X.length]? = some c := by simp
  obtain ⟨tc, htc⟩ := zly hc;by_cases he : i = X.length
  ·subst he;rcases minK_le (X ++ c :: Y) X.length with h0 | h0
   ·rw [h0, htc];cases X with
    | nil => simp [lowP]
    | cons a X => simp only [List.cons_append, List.drop_zero, lowP]; rw [if_pos (by simpa using hX a (by simp))]
   ·obtain ⟨p, hp⟩ : ∃ p, X[minK (X ++ c :: Y) X.length]? = some p := ⟨_, List.getElem?_eq_getElem h0⟩
    have hp2 : (X ++ c :: Y)[minK (X ++ c :: Y) X.length]? = some p := by rw [List.getElem?_append_left h0]; exact hp
    obtain ⟨tp, htp⟩ := zly hp2;rw [htc, htp];simp only [lowP];simp [hX p (List.mem_of_getElem? hp)]
  ·rw [minK_at hX hY i (by omega) (by omega), htc];have hi : i < (X ++ c :: Y).length := by omega
   obtain ⟨p, hp⟩ : ∃ p, (X ++ c :: Y)[i]? = some p := ⟨_, List.getElem?_eq_getElem hi⟩
   obtain ⟨tp, htp⟩ := zly hp;rw [htp];have hpY : p ∈ Y := by
    rw [List.getElem?_append_right (by omega)] at hp;obtain ⟨j, hj⟩ : ∃ j, i - X.length = j + 1 := ⟨i - X.length - 1, by omega⟩
    rw [hj, List.getElem?_cons_succ] at hp;exact List.mem_of_getElem? hp
   have := zet (hY p hpY);simp [lowP, this]

structure zec (A : List (ze × List Hd)) (rem : Crk -> Prop) : Prop where
 keys : (A.map (·.1)).Nodup
 some : ∀ p hs, zdp A p = some hs -> hs ≠ [] /\ hs.Nodup
 mem : ∀ p h, rem ⟨p, h⟩ ↔ ∃ hs, zdp A p = Option.some hs /\ h ∈ hs
theorem zpu {α β : Type} [DecidableEq α] {a : α} : ∀ {l : List (α × β)}, zfb a l = none ↔ a ∉ l.map (·.1)
 | [] => by simp [zfb]
 | p :: l => by
  unfold zfb;by_cases h : a = p.1
  ·simp [h]
  ·simp only [if_neg h, Option.map_eq_none_iff, zpu (l := l), List.map_cons, List.mem_cons];simp [h]
theorem keys_put {α β : Type} [DecidableEq α] {l : List (α × β)} (h : (l.map (·.1)).Nodup) (a : α) (b : β) : ((zgj l a b).map (·.1)).Nodup := by
 unfold zgj;have hp := zes (a := a) l;cases hpos : zfb a l with
 | none =>
  have := zpu.1 hpos;simp only [List.map_append, List.map_cons, List.map_nil];rw [List.nodup_append];refine ⟨h, by simp, fun x hx y hy => ?_⟩;simp at hy; subst hy;exact fun e => this (e ▸ hx)
 | some j =>
  rw [hpos] at hp;obtain ⟨b', hb, _⟩ := hp;have : (l.set j (a, b)).map (·.1) = l.map (·.1) := by
   rw [List.map_set];refine List.ext_getElem? fun i => ?_;rw [List.getElem?_set];split
   ·rename_i e;subst e;split
    ·simp [hb]
    ·rename_i hn; rw [List.length_map] at hn; rw [List.getElem?_eq_none (by simpa using hn)]
   ·rfl
  simp only [this]; exact h
theorem keys_del {α β : Type} [DecidableEq α] {l : List (α × β)} (h : (l.map (·.1)).Nodup) (a : α) : ((delL l a).map (·.1)).Nodup := by
 unfold delL;cases zfb a l with
 | none => exact h
 | some j => exact h.sublist ((List.eraseIdx_sublist ..).map _)
theorem getL_delL {α β : Type} [DecidableEq α] : ∀ {l : List (α × β)} (h : (l.map (·.1)).Nodup) (a c : α), zdp (delL l a) c = if c = a then none else zdp l c
 | [], _, a, c => by simp [delL, zfb, zdp]
 | p :: l, h, a, c => by
  obtain ⟨h1, h2⟩ := List.nodup_cons.1 h;have ih := getL_delL h2 a c;have hnone : ∀ x, x ∉ l.map (·.1) -> zdp l x = none := fun x hx => by
   have := zes (a := x) l;rw [zpu.2 hx] at this;exact this
  unfold delL zfb;by_cases hp : a = p.1
  ·rw [if_pos hp];simp only [List.eraseIdx_cons_zero, zdp];by_cases hc : c = a
   ·rw [if_pos hc, hc, hp]; exact hnone _ h1
   ·rw [if_neg hc, if_neg (fun e => hc (e.trans hp.symm))]
  ·rw [if_neg hp];unfold delL at ih;cases hpos : zfb a l with
   | none =>
    rw [hpos] at ih;simp only [Option.map_none, zdp] at ih ⊢;by_cases hc : c = p.1
    ·rw [if_pos hc, if_neg (fun e => hp (e.symm.trans hc))]
    ·rw [if_neg hc]; exact ih
   | some j =>
    rw [hpos] at ih;simp only [Option.map_some, List.eraseIdx_cons_succ, zdp] at ih ⊢;by_cases hc : c = p.1
    ·rw [if_pos hc, if_pos hc, if_neg (fun e => hp (e.symm.trans hc))]
    ·rw [if_neg hc, if_neg hc]; exact ih
def zac (A : List (ze × List Hd)) (p : ze) : List Hd := (zdp A p).getD []
def takeA (A : List (ze × List Hd)) (c : Crk) : List (ze × List Hd) := if (zac A c.p).length = 1 then delL A c.p else zgj A c.p ((zac A c.p).erase c.h)
theorem zec.heads {A : List (ze × List Hd)} {rem : Crk -> Prop} (h : zec A rem) (p : ze) (k : Hd) : k ∈ zac A p ↔ rem ⟨p, k⟩ := by
 rw [h.mem];unfold zac;cases zdp A p with
 | none => simp
 | some hs => simp
theorem zec.take {A : List (ze × List Hd)} {rem : Crk -> Prop} (h : zec A rem) {c : Crk} (hc : rem c) : zec (takeA A c) fun d => rem d /\ d ≠ c := by
 obtain ⟨hs, hg, hm⟩ := (h.mem c.p c.h).1 hc;obtain ⟨h1, h2⟩ := h.some _ _ hg;have hh : zac A c.p = hs := by simp [zac, hg]
 unfold takeA;rw [hh];split
 ·rename_i hl;refine ⟨keys_del h.keys _, fun p ks hk => ?_, fun p k => ?_⟩
  ·rw [getL_delL h.keys] at hk;split at hk
   ·cases hk
   ·exact h.some _ _ hk
  ·rw [getL_delL h.keys];by_cases e : p = c.p
   ·subst e;rw [if_pos rfl];simp only [reduceCtorEq, false_and, exists_false, iff_false, not_and, Classical.not_not];intro hr;obtain ⟨ks, e1, e2⟩ := (h.mem _ _).1 hr;rw [hg] at e1; cases e1;obtain ⟨a, rfl⟩ := List.length_eq_one_iff.1 hl;simp at hm e2;rw [e2, <- hm]
   ·rw [if_neg e, <- h.mem];constructor
    ·exact And.left
    ·intro hr; exact ⟨hr, fun e' => e (by rw [<- e'])⟩
 ·rename_i hl;refine ⟨keys_put h.keys _ _, fun p ks hk => ?_, fun p k => ?_⟩
  ·rw [zjw] at hk;split at hk
   ·cases hk;refine ⟨fun e => ?_, h2.sublist (List.erase_sublist ..)⟩;have q1 := congrArg List.length e;rw [List.length_erase_of_mem hm] at q1;have q2 := List.length_pos_iff.2 h1;rw [List.length_nil] at q1;omega
   ·exact h.some _ _ hk
  ·rw [zjw];by_cases e : p = c.p
   ·subst e;rw [if_pos rfl];simp only [Option.some.injEq, exists_eq_left'];rw [h2.mem_erase_iff, h.mem];constructor
    ·rintro ⟨⟨ks, e1, e2⟩, hne⟩;rw [hg] at e1; cases e1;exact ⟨fun e => hne (by rw [e]), e2⟩
    ·rintro ⟨hne, hk⟩;exact ⟨⟨hs, hg, hk⟩, fun e => hne (by rw [<- e])⟩
   ·rw [if_neg e, <- h.mem];constructor
    ·exact And.left
    ·intro hr; exact ⟨hr, fun e' => e (by rw [<- e'])⟩
theorem zec.congr {A : List (ze × List Hd)} {rem rem' : Crk -> Prop} (h : zec A rem) (k : ∀ c, rem c ↔ rem' c) : zec A rem' := ⟨h.keys, h.some, fun p x => (k _).symm.trans (h.mem p x)⟩
def zde (A : List (ze × List Hd)) (l : List Crk) : List (ze × List Hd) := l.foldl takeA A
theorem zuh (A : List (ze × List Hd)) (f : Crk -> Crk) (n : Nat) (c : Crk) : zde A (orb f (n + 1) c) = takeA (zde A (orb f n c)) (itn f n c) := by
 rw [zur, zde, List.foldl_append]; rfl
theorem zec.walk {A : List (ze × List Hd)} {rem : Crk -> Prop} (h : zec A rem) {f : Crk -> Crk} {c : Crk} {n : Nat} (hr : ∀ i, i < n -> rem (itn f i c)) (hn : (orb f n c).Nodup) : ∀ m, m <= n -> zec (zde A (orb f m c)) fun d => rem d /\ d ∉ orb f m c
 | 0, _ => h.congr fun d => by simp [orb]
 | m + 1, hm => by
  rw [zuh];have ih := zec.walk h hr hn m (by omega);refine (ih.take ⟨hr m (by omega), fun hmem => ?_⟩).congr fun d => by rw [zur]; simp [and_assoc]
  have e1 : orb f n c = orb f m c ++ (itn f m c :: orb f (n - m - 1) (itn f (m + 1) c)) := by
   have : orb f n c = orb f (m + (n - m - 1 + 1)) c := by congr 1; omega
   rw [this, zli];simp only [orb];rw [zdk]
  rw [e1] at hn;exact (List.nodup_append.1 hn).2.2 _ hmem _ (by simp) rfl
def pickH (hs : List Hd) (h : Hd) : Hd := if h.l ∈ hs then h.l else if h ∈ hs then h else h.r
theorem pickH_eq {S : ze -> Bool} {q : ze} {hs : List Hd} {h : Hd} (hall : ∀ k ∈ hs, isC S ⟨q, k⟩ = true) (hin : nxH S q h ∈ hs) : pickH hs h = nxH S q h := by
 unfold pickH nxH at *;by_cases h1 : isC S ⟨q, h.l⟩ = true
 ·rw [if_pos h1] at hin ⊢;rw [if_pos hin]
 ·rw [if_neg h1] at hin ⊢;rw [if_neg (fun k => h1 (hall _ k))];by_cases h2 : isC S ⟨q, h⟩ = true
  ·rw [if_pos h2] at hin ⊢;rw [if_pos hin]
  ·rw [if_neg h2, if_neg (fun k => h2 (hall _ k))]
theorem polyOf_succ {S : ze -> Bool} {c : Crk} {m : Nat} : zay (orb (suc S) (m + 2) c) = if (itn (suc S) (m + 1) c).h = (itn (suc S) m c).h then zay (orb (suc S) (m + 1) c) else zay (orb (suc S) (m + 1) c) ++ [(itn (suc S) (m + 1) c).p] := by
 rw [zur]
 show zay ((c :: orb (suc S) m (suc S c)) ++ [_]) = if _ then zay (c :: orb (suc S) m (suc S c)) else _
 simp only [List.cons_append, zay];rw [zjk];have : zqc c.h (orb (suc S) m (suc S c)) = (itn (suc S) m c).h := by
  cases m with
  | zero => rfl
  | succ j => rw [zjv _ (by omega)]; simp only [Nat.add_sub_cancel, itn]
 rw [this];simp only [zfw];split
 ·simp
 ·first | rfl | simp [zay]

abbrev zmt (h : Hd) : List D := [.int .i64 h.int]
abbrev zdm (l : List Hd) : D := .sl (l.map zmt)
theorem left_ok (h : Hd) : PC Tryz.prog 142 [.int .i64 h.int] (.p (.int .i64 h.l.int)) := by
 refine pw cx Tryz.func142 Tryz.ntmps142 ?_;refine rg cx ?_;have e1 : IntKind.wrap .i64 (h.int + 1) = h.int + 1 := wrap_i64 (by cases h <;> decide) (by cases h <;> decide);have e2 : (h.int + 1).tmod 4 = h.l.int := by cases h <;> rfl
 refine rx cx [] (fun K hK => by simp [push_cast, e1, e2]; (repeat refine ob ?_); exact hK) ?_;simp [push_cast]
theorem right_ok (h : Hd) : PC Tryz.prog 143 [.int .i64 h.int] (.p (.int .i64 h.r.int)) := by
 refine pw cx Tryz.func143 Tryz.ntmps143 ?_;refine rg cx ?_;have e1 : IntKind.wrap .i64 (h.int + 3) = h.int + 3 := wrap_i64 (by cases h <;> decide) (by cases h <;> decide);have e2 : (h.int + 3).tmod 4 = h.r.int := by cases h <;> rfl
 refine rx cx [] (fun K hK => by simp [push_cast, e1, e2]; (repeat refine ob ?_); exact hK) ?_;simp [push_cast]
theorem from_ok (h : Hd) (p : ze) (hp : -1000000 <= p.x /\ p.x <= 1000000 /\ -1000000 <= p.y /\ p.y <= 1000000) : PC Tryz.prog 141 [.int .i64 h.int, .agg p.row] (.p (.agg (stp h p).row)) := by
 have e1 := wI (p.x + 1);have e2 := wI (p.x - 1);have e3 := wI (p.y + 1);have e4 := wI (p.y - 1);obtain ⟨x, y⟩ := p;simp only at e1 e2 e3 e4;refine pw cx Tryz.func141 Tryz.ntmps141 ?_;iterate 3 refine rg cx ?_
 cases h
 ·simp only [Hd.int, stp];refine awp_cd true (fun hb => ?_) fun hb => ?_
  ·refine rx cx [] (fun K hK => by simp [push_cast, e1]; (repeat refine ob ?_); exact hK) ?_;refine rg cx ?_;simp [push_cast]
  ·simp at hb
 ·simp only [Hd.int, stp];refine awp_cd false (fun hb => ?_) fun hb => ?_
  ·simp at hb
  ·refine rg cx ?_;refine awp_cd true (fun hb => ?_) fun hb => ?_
   ·refine rx cx [] (fun K hK => by simp [push_cast, e3]; (repeat refine ob ?_); exact hK) ?_;refine rg cx ?_;simp [push_cast]
   ·simp at hb
 ·simp only [Hd.int, stp];refine awp_cd false (fun hb => ?_) fun hb => ?_
  ·simp at hb
  ·refine rg cx ?_;refine awp_cd false (fun hb => ?_) fun hb => ?_
   ·simp at hb
   ·refine rg cx ?_;refine awp_cd true (fun hb => ?_) fun hb => ?_
    ·refine rx cx [] (fun K hK => by simp [push_cast, e2]; (repeat refine ob ?_); exact hK) ?_;refine rg cx ?_;simp [push_cast]
    ·simp at hb
 ·simp only [Hd.int, stp];refine awp_cd false (fun hb => ?_) fun hb => ?_
  ·simp at hb
  ·refine rg cx ?_;refine awp_cd false (fun hb => ?_) fun hb => ?_
   ·simp at hb
   ·refine rg cx ?_;refine awp_cd false (fun hb => ?_) fun hb => ?_
    ·simp at hb
    ·refine rx cx [] (fun K hK => by simp [push_cast, e4]; (repeat refine ob ?_); exact hK) ?_;refine rg cx ?_;simp [push_cast]
def zkn (h : Hd) : List Hd -> Int
 | [] => -1
 | k :: l => if h = k then 0 else if zkn h l = -1 then -1 else zkn h l + 1
theorem idxH_ge (h : Hd) : ∀ l, -1 <= zkn h l
 | [] => by simp [zkn]
 | k :: l => by unfold zkn; have := idxH_ge h l; split <;> (try split) <;> omega
theorem idxH_le (h : Hd) : ∀ l, zkn h l < l.length
 | [] => by simp [zkn]
 | k :: l => by unfold zkn; have := idxH_le h l; simp only [List.length_cons]; split <;> (try split) <;> omega
theorem zvh (h : Hd) : ∀ l, 0 <= zkn h l ↔ h ∈ l
 | [] => by simp [zkn]
 | k :: l => by
  unfold zkn;have h1 := zvh h l;have h2 := idxH_ge h l;by_cases e : h = k
  ·simp [e]
  ·rw [if_neg e];simp only [List.mem_cons, e, false_or, <- h1];split <;> omega
theorem idxH_at (h : Hd) : ∀ (l : List Hd) (i : Nat), l[i]? = some h -> h ∉ l.take i -> zkn h l = i
 | [], i, hi, _ => by simp at hi
 | k :: l, 0, hi, _ => by simp at hi; simp [zkn, hi]
 | k :: l, i + 1, hi, hn => by
  simp only [List.take_succ_cons, List.mem_cons, not_or] at hn;have := idxH_at h l i (by simpa using hi) hn.2;unfold zkn;rw [if_neg hn.1, this, if_neg (by omega)];simp
theorem index_ok (l : List Hd) (h : Hd) (hl : l.length <= 1000000) : PC Tryz.prog 211 [zdm l, .int .i64 h.int] (.p (.int .i64 (zkn h l))) := by
 refine pw cx Tryz.func211 Tryz.ntmps211 ?_;refine rg cx ?_;refine rg cx ?_;refine zz (β := Nat) (fun k => ⟨19, [(0, .d (zdm l)), (1, .d (.int .i64 h.int)), (6, .d (zdm l)), (7, .d (.int .i64 l.length)), (8, .d (.int .i64 k))], [], 0⟩) (fun k => k <= l.length /\ h ∉ l.take k) (fun k => l.length - k) 0 ?_ ⟨Nat.zero_le _, by simp⟩ ?_
 ·refine wk []
 ·rintro k ⟨hk, hpre⟩;refine Nav.imp ?_;refine rg cx ?_;refine awp_cd (decide ((k : Int) < l.length)) (fun hb => ?_) fun hb => ?_
  ·have hlt : k < l.length := by simpa using hb
   obtain ⟨q, hq⟩ := zak hlt;have e0 := wI ((k : Int) + 1);refine rg cx ?_;refine rx cx [] (fun K hK => by simp [push_cast, hq]; (repeat refine ob ?_); exact hK) ?_;by_cases e : h = q
   ·subst e;have hi := idxH_at h l k hq hpre;refine awp_cd true (fun hb => ?_) fun hb => ?_
    ·refine rg cx ?_;simp [push_cast, hi]
    ·simp at hb
   ·have e1 : ¬ h.int = q.int := fun e2 => e (Hd.int_inj e2);refine awp_cn false (by simp [push_cast, e1]) (fun hb => ?_) fun hb => ?_
    ·simp at hb
    ·refine rx cx [] (fun K hK => by simp [push_cast, e0]; (repeat refine ob ?_); exact hK) ?_;refine ⟨k + 1, ⟨hlt, fun hm => ?_⟩, by omega, ?_⟩
     ·rw [zbm hq] at hm;simp only [List.mem_append, List.mem_singleton] at hm;rcases hm with hm | hm
      ·exact hpre hm
      ·exact e hm
     ·refine wk []
  ·have hke : k = l.length := by simp at hb; omega
   subst hke;rw [List.take_length] at hpre;have hi : zkn h l = -1 := by
    have h1 := zvh h l;have h2 := idxH_ge h l;have h3 : ¬ 0 <= zkn h l := fun h4 => hpre (h1.1 h4);omega
   refine rg cx ?_;simp [push_cast, hi]
theorem hcont_ok (l : List Hd) (h : Hd) (hl : l.length <= 1000000) : PC Tryz.prog 144 [zdm l, .int .i64 h.int] (.p (.bool (decide (h ∈ l)))) := by
 have c1 := index_ok l h hl;have e1 : decide (0 <= zkn h l) = decide (h ∈ l) := by rw [Bool.eq_iff_iff]; simp [zvh]
 generalize zkn h l = i at *;refine pw cx Tryz.func144 Tryz.ntmps144 ?_;refine rg cx ?_;refine rx cx [(2, .p (.int .i64 i))] (fun K hK => by simp [push_cast, c1]; (repeat refine ob ?_); exact hK) ?_;simp [push_cast, e1]
theorem hclone_ok (l : List Hd) (hl : l.length <= 1000000) : PC Tryz.prog 213 [zdm l] (.o 178 1 (l.map zmt)) := by
 have h16 : l.length * 16 <= 140737488355328 := by omega
 refine pw cx Tryz.func213 Tryz.ntmps213 ?_;refine rg cx ?_;refine rg cx ?_;refine awp_ub 4 (by simp [push_cast]; exact ⟨rfl, rfl⟩) fun bu hu1 hu2 => ?_;refine awp_cd bu (fun hb => ?_) fun hb => ?_
 ·have hl0 : l = [] := by simpa using hu1 hb
  subst hl0;refine rg cx ?_;simp [push_cast]
 ·refine rx cx [] (fun K hK => by simp [push_cast, h16]; (repeat refine ob ?_); exact hK) ?_;simp [push_cast]
end Go.Proofs.YtdddknniooimmaaGreat

namespace Go.Abs
variable [Flag]
open Go.Shelf Go.RowKit Go.Lib Go.Sort Go.Proofs

abbrev zcp (x : Int) : List D := [.int .i64 x]
abbrev zjf (x : Int) : Value := .int .i64 x

theorem heap_rowI (w : World) (blk n : Nat) (d : Array Int) (os : Array Obj) {b : Nat} (hb : b < w.heap.size) (hne : b ≠ blk) : (grow (putRow zjf (Go.Sort.ahead w n) blk 0 d) os).heap[b]? = w.heap[b]? := by
 rw [heap_grow_old _ _ (by simpa [putRow, mapBlock, heap_ahead] using hb)];simp only [putRow, mapBlock, heap_ahead];rw [Array.getElem?_modify, if_neg (fun h => hne h.symm)]
theorem zsp (w : World) (blk n : Nat) (d : Array Int) (os : Array Obj) {cur : Array Value} {e : TypeId} {fr : Nat × Nat} (h : w.heap[blk]? = some (.cells cur e fr)) : (grow (putRow zjf (Go.Sort.ahead w n) blk 0 d) os).heap[blk]? = some (.cells (Go.Sort.putCells zjf 0 d cur) e fr) := by
 have hb : blk < w.heap.size := (Array.getElem?_eq_some_iff.1 h).1;rw [heap_grow_old _ _ (by simpa [putRow, mapBlock, heap_ahead] using hb)];simp only [putRow, mapBlock, heap_ahead];rw [Array.getElem?_modify, if_pos rfl, h];rfl
theorem size_rowI (w : World) (blk n : Nat) (d : Array Int) (os : Array Obj) : w.heap.size <= (grow (putRow zjf (Go.Sort.ahead w n) blk 0 d) os).heap.size := by
 rw [size_grow]; simp [putRow, mapBlock, heap_ahead]
theorem drawn_rowI (w : World) (blk n : Nat) (d : Array Int) (os : Array Obj) : w.drawn <= (grow (putRow zjf (Go.Sort.ahead w n) blk 0 d) os).drawn := by
 simp [grow, putRow, mapBlock, ahead]

theorem int_px {P : Program} {f : FuncId} (hent : zjg P f) (e : TypeId) {zs ys : List Int} (hn : 0 < zs.length) (hlen : ys.length = zs.length) (rv : Nat -> Nat -> Value) (rA : AV)
  (hrep : ∀ (g : G) (w : World) (L : Loc), g.used 0 -> g.loc 0 = some L -> (L.virt = false /\ L.map = false) -> zs.length <= L.cap -> zh g w rA (rv L.blk L.cap))
  (hc : ∀ (blk cap : Nat) (w : World), Holds zjf w blk 0 zs.toArray -> blk < w.heap.size -> zs.length <= cap -> Calls P f #[.slice (some ⟨blk, 0, none⟩) zs.length cap] w fun e w' => e = .returned (rv blk cap) /\ ∃ n os, w' = grow (putRow zjf (Go.Sort.ahead w n) blk 0 ys.toArray) os) :
  PX P f [.hs 0 0 zs.length] [(0, ⟨e, 1, dr (zs.map zcp)⟩)] [(0, 0)] [(0, ⟨e, 1, dr (ys.map zcp)⟩)] rA := by
 refine ⟨hent, fun g w vs h hu hvs => ?_⟩;simp only [zj] at hvs;obtain ⟨v0, _, rfl, h0, rfl⟩ := hvs;obtain ⟨L0, hL, hok⟩ := h.own 0 ⟨e, 1, dr (zs.map zcp)⟩ (by simp [zkm, find]);have hkm : L0.m = 1 := hok.m;have hlenr : (dr (zs.map zcp)).length = zs.length := by simp [dr]
 have hvirt : L0.virt = false := by
  cases hv : L0.virt with
  | false => rfl
  | true =>
   have h2 : (dr (zs.map zcp)).length = 0 := by rw [show dr (zs.map zcp) = [] from hok.virt hv]; rfl
   omega
 simp only [zh] at h0;have hflat : L0.virt = false /\ L0.map = false := by
  rcases h0.2 L0 hL with ⟨hv, _⟩ | ⟨hv, _⟩
  ·rw [hvirt] at hv; cases hv
  ·exact hv
 have hvm := hflat.2;obtain ⟨cur, hR, hcs, hcap, hrows⟩ := hok.cells hflat;have hR' := hR;obtain ⟨el0, fr0, hblk, hx1, hx2⟩ := hR';have e0 : v0 = .slice (some ⟨L0.blk, 0, none⟩) zs.length L0.cap := by
  rcases h0.2 L0 hL with ⟨hv, _⟩ | ⟨_, _, hv⟩
  ·rw [hvirt] at hv; cases hv
  ·rw [hv]; simp
 have hcapl : zs.length <= L0.cap := by have := hok.len hvm; rw [hlenr] at this; exact this
 have hblt : L0.blk < w.heap.size := (Array.getElem?_eq_some_iff.1 hblk).1;have hcsz : cur.size = L0.cap := by rw [hcs, hkm]; simp
 have hget : ∀ i (hi : i < zs.length), cur[i]? = some (zjf zs[i]) := fun i hi => by
  have hrow := hrows i ((zcp zs[i]).map AV.d) (by simp [dr, hi]);obtain ⟨u, hu1, hu2, hu3⟩ := hrow.2 0 (.d (.int .i64 zs[i])) (by simp);rw [hkm] at hu1;simp only [zh, zr] at hu3;rw [hu3] at hu1;simpa using hu1
 have hH : Holds zjf w L0.blk 0 zs.toArray := by
  intro j hj;have hj' : j < zs.length := by simpa using hj
  have h1 := hget j hj';refine ⟨?_, ?_⟩
  ·simp only [World.cell?, hblk, Nat.zero_add, Option.isSome_none, Bool.false_eq_true, if_false];rw [h1, getElem!_pos zs.toArray j hj];simp
  ·simpa using hR.open (o := j) (by omega)
 rw [e0];refine (hc L0.blk L0.cap w hH hblt hcapl).mono ?_;rintro ex w' ⟨rfl, n, os, rfl⟩;have hbs : zfl ((grow (putRow zjf (Go.Sort.ahead w n) L0.blk 0 ys.toArray) os).heap[L0.blk]?) e (Go.Sort.putCells zjf 0 ys.toArray cur) := ⟨el0, fr0, zsp w L0.blk n ys.toArray os hblk, hx1, by simp only [Go.Sort.putCells, Array.size_mapIdx]; exact hx2⟩
 obtain ⟨g', h1, h2, h3, h4, h5, h6⟩ := zam.write h hL hflat (id' := 0) (.inl rfl) ⟨e, 1, dr (ys.map zcp)⟩ (Go.Sort.putCells zjf 0 ys.toArray cur) (w' := grow (putRow zjf (Go.Sort.ahead w n) L0.blk 0 ys.toArray) os) (cap := L0.cap) (B := L0.blk) rfl ⟨rfl, .inr (drawn_rowI _ _ _ _ _)⟩ rfl (size_rowI _ _ _ _ _)
  (fun b hb hne => heap_rowI _ _ _ _ _ hb hne) (.inl rfl) hbs hkm.symm hok.pos (by simp only [Go.Sort.putCells, Array.size_mapIdx]; rw [hcs]) (by simp [dr]; omega) hcap (fun _ => ⟨rfl, rfl⟩) (by
   intro i row hi;have hil : i < ys.length := by have := (List.getElem?_eq_some_iff.1 hi).1; simpa [dr] using this
   have hrow : row = (zcp ys[i]).map AV.d := by
    have : (dr (ys.map zcp))[i]? = some ((zcp ys[i]).map AV.d) := by simp [dr, hil]
    rw [this] at hi; exact (Option.some.inj hi).symm
   subst hrow;refine ⟨by simp [hkm], fun j av hj => ?_⟩;have hj0 : j = 0 := by have := (List.getElem?_eq_some_iff.1 hj).1; simp at this; omega
   subst hj0;have hav : av = .d (.int .i64 ys[i]) := by simpa using hj.symm
   subst hav;refine ⟨zjf ys[i], ?_, rfl, by simp only [zh, zr]⟩;rw [hkm];have hic : i < cur.size := by omega
   simp only [Go.Sort.putCells, Nat.mul_one, Nat.add_zero, Array.getElem?_mapIdx, Array.getElem?_eq_getElem hic, Option.map_some];rw [if_pos ⟨Nat.zero_le _, by simp; omega⟩];have : ys.toArray[i - 0]! = ys[i] := by rw [Nat.sub_zero, getElem!_pos ys.toArray i (by simpa using hil)]; simp
   rw [this])
 refine ⟨_, g', rfl, ?_, ?_, h5, ?_⟩
 ·have : (zbh (zbh (zkm [(0, ⟨e, 1, dr (zs.map zcp)⟩)]) 0 none) 0 (some ⟨e, 1, dr (ys.map zcp)⟩)) = zkm [(0, ⟨e, 1, dr (ys.map zcp)⟩)] := by
   funext x
   simp only [zbh, zkm, find];by_cases hx : x = 0
   ·subst hx; simp
   ·have hx' : ¬ (0 = x) := fun h => hx h.symm;simp [hx, hx']
  rw [<- this]; exact h4
 ·exact hrep g' _ ⟨L0.blk, L0.m, L0.cap, false, false⟩ (by rw [h2]; exact .inr rfl) h1 ⟨rfl, rfl⟩ hcapl
 ·intro i j hij;simp only [List.mem_cons, List.not_mem_nil, or_false, Prod.mk.injEq] at hij;obtain ⟨rfl, rfl⟩ := hij;rw [h1, hL];cases L0; simp_all

theorem int_px0 {P : Program} {f : FuncId} (hent : zjg P f) (e : TypeId) (rv : Option Addr -> Nat -> Value) (rA : AV)
  (hrep : ∀ (g : G) (w : World) p c, zh g w (.hs 0 0 0) (.slice p 0 c) -> zh g w rA (rv p c))
  (hc : ∀ p c (w : World), Calls P f #[.slice p 0 c] w fun e w' => e = .returned (rv p c) /\ w' = w) :
  PX P f [.hs 0 0 0] [(0, ⟨e, 1, []⟩)] [(0, 0)] [(0, ⟨e, 1, []⟩)] rA := by
 refine ⟨hent, fun g w vs h hu hvs => ?_⟩;simp only [zj] at hvs;obtain ⟨v0, _, rfl, h0, rfl⟩ := hvs;have h00 := h0;obtain ⟨L0, hL, hok⟩ := h.own 0 ⟨e, 1, []⟩ (by simp [zkm, find]);simp only [zh] at h0;have e0 : ∃ p c, v0 = .slice p 0 c := by
  rcases h0.2 L0 hL with ⟨_, _, _, a0, hv⟩ | ⟨_, _, hv⟩
  ·exact ⟨a0, _, hv⟩
  ·exact ⟨_, _, hv⟩
 obtain ⟨p, c, rfl⟩ := e0;refine (hc p c w).mono ?_;rintro ex w' ⟨rfl, rfl⟩;refine ⟨_, g, rfl, h, hrep _ _ _ _ h00, zan.refl g _, ?_⟩;intro i j hij;simp only [List.mem_cons, List.not_mem_nil, or_false, Prod.mk.injEq] at hij;obtain ⟨rfl, rfl⟩ := hij;rfl

theorem sortI_px {P : Program} {ρ : Ren} (L : Lays.n189 P ρ) (hent : zjg P (ρ.f 189)) (e : TypeId) (zs : List Int) (hsz : zs.length < 4611686018427387904) :
  PX P (ρ.f 189) [.hs 0 0 zs.length] [(0, ⟨e, 1, dr (zs.map zcp)⟩)] [(0, 0)] [(0, ⟨e, 1, dr ((zs.mergeSort fun x y => decide (x <= y)).map zcp)⟩)] (.tup []) := by
 by_cases hn : 0 < zs.length
 ·exact int_px hent e hn (List.length_mergeSort zs) (fun _ _ => .tuple #[]) (.tup []) (fun g w L _ _ _ _ => by simp only [zh, zj]; exact ⟨[], rfl, rfl⟩)
   fun blk cap w hH hb _ => Any.slices_Sort_int L blk 0 cap zs w hH hb hsz
 ·have : zs = [] := List.eq_nil_of_length_eq_zero (by omega);subst this;have := int_px0 hent e (fun _ _ => .tuple #[]) (.tup []) (fun g w p c _ => by simp only [zh, zj]; exact ⟨[], rfl, rfl⟩) fun p c w => Any.slices_Sort_int_none L p c w;simpa [dr] using this

theorem compactI_px {P : Program} {ρ : Ren} (L : Lays2.n20 P ρ) (hent : zjg P (ρ.f 20)) (e : TypeId) (zs : List Int) (hsz : zs.length <= 9223372036854775807) :
  PX P (ρ.f 20) [.hs 0 0 zs.length] [(0, ⟨e, 1, dr (zs.map zcp)⟩)] [(0, 0)] [(0, ⟨e, 1, dr ((Lib.compact zs ++ List.replicate (zs.length - (Lib.compact zs).length) 0).map zcp)⟩)] (.hs 0 0 (Lib.compact zs).length) := by
 have hle := Lib.compact_length_le zs;by_cases hn : 0 < zs.length
 ·refine int_px hent e hn (by simp; omega) (fun blk cap => .slice (some ⟨blk, 0, none⟩) (Lib.compact zs).length cap) (.hs 0 0 (Lib.compact zs).length) (fun g w L hu hL hv hcap => ?_) fun blk cap w hH hb hcap => ?_
  ·have := ztd (L := L) (w := w) hu hL hv (len := (Lib.compact zs).length) (by omega);exact this
  ·refine (Any.slices_Compact_int L blk 0 cap zs w hH hsz hcap).mono ?_;rintro ex w' ⟨h1, q, h2⟩;exact ⟨h1, q, #[], by rw [grow_empty]; exact h2⟩
 ·have : zs = [] := List.eq_nil_of_length_eq_zero (by omega);subst this;have := int_px0 hent e (fun p c => .slice p 0 c) (.hs 0 0 0) (fun g w p c h => h) fun p c w => Any.slices_Compact_int_empty L p c w;have hc : Lib.compact ([] : List Int) = [] := rfl;simpa [dr, hc] using this

theorem compact_sorted {zs : List Int} (h : zs.Pairwise (· <= ·)) : (Lib.compact zs).Pairwise (· < ·) /\ ∀ y, y ∈ Lib.compact zs ↔ y ∈ zs := by
 have key : ∀ m, m <= zs.length -> (Lib.compactUpTo zs.toArray m).Pairwise (· < ·) /\ (∀ y, y ∈ Lib.compactUpTo zs.toArray m ↔ y ∈ zs.take m) := by
  intro m;induction m with
  | zero => intro _; simp [Lib.compactUpTo]
  | succ m ih =>
   intro hm;obtain ⟨ih1, ih2⟩ := ih (by omega);have hlt : m < zs.length := by omega
   have hg : zs.toArray[m]! = zs[m] := by rw [getElem!_pos zs.toArray m (by simpa using hlt)]; simp
   have htk : zs.take (m + 1) = zs.take m ++ [zs[m]] := by rw [List.take_add_one, List.getElem?_eq_getElem hlt]; rfl
   rw [Lib.compactUpTo_succ, htk, hg];by_cases hk : Lib.keeps zs.toArray m = true
   ·rw [if_pos hk];refine ⟨?_, fun y => by rw [List.mem_append, List.mem_append, ih2]⟩;rw [List.pairwise_append];refine ⟨ih1, by simp, fun a ha b hb => ?_⟩;simp at hb; subst hb;rw [ih2] at ha;obtain ⟨j, hj, rfl⟩ := List.mem_iff_getElem.1 ha;have hjm : j < m := by simp at hj; omega
    rw [List.getElem_take];have hm0 : 0 < m := by omega
    have hg1 : zs.toArray[m - 1]! = zs[m - 1] := by rw [getElem!_pos zs.toArray (m - 1) (by simp; omega)]; simp
    simp only [Lib.keeps, hg, hg1, decide_eq_true_eq] at hk;have h1 := List.pairwise_iff_getElem.1 h (m - 1) m (by omega) hlt (by omega);have h2 : zs[j] <= zs[m - 1] := by
     by_cases e : j = m - 1
     ·subst e; exact Int.le_refl _
     ·exact List.pairwise_iff_getElem.1 h j (m - 1) (by omega) (by omega) (by omega)
    have h3 : zs[m] ≠ zs[m - 1] := by rcases hk with hk | hk; omega; exact hk
    omega
   ·rw [if_neg hk, List.append_nil];refine ⟨ih1, fun y => ?_⟩;rw [ih2];simp only [Lib.keeps, decide_eq_true_eq] at hk;have hm0 : m ≠ 0 := fun e => hk (.inl e);have hg1 : zs.toArray[m - 1]! = zs[m - 1] := by rw [getElem!_pos zs.toArray (m - 1) (by simp; omega)]; simp
    have he : zs[m] = zs[m - 1] := by
     apply Classical.byContradiction
     intro hne;exact hk (.inr (by rw [hg, hg1]; exact hne))
    simp only [List.mem_append, List.mem_singleton];constructor
    ·exact .inl
    ·rintro (h1 | h1)
     ·exact h1
     ·rw [h1, he];exact List.mem_iff_getElem.2 ⟨m - 1, by simp; omega, by rw [List.getElem_take]⟩
 have := key zs.length (Nat.le_refl _);rw [List.take_length] at this;exact this

theorem int_px2 {P : Program} {f : FuncId} (hent : zjg P f) (e : TypeId) {zs ys : List Int} (a b : Int) (hn : 0 < zs.length) (hlen : ys.length = zs.length) (rv : Nat -> Nat -> Value) (rA : AV)
  (hrep : ∀ (g : G) (w : World) (L : Loc), g.used 0 -> g.loc 0 = some L -> (L.virt = false /\ L.map = false) -> zs.length <= L.cap -> zh g w rA (rv L.blk L.cap))
  (hc : ∀ (blk cap : Nat) (w : World), Holds zjf w blk 0 zs.toArray -> blk < w.heap.size -> zs.length <= cap -> cap <= maxLen -> Calls P f #[.slice (some ⟨blk, 0, none⟩) zs.length cap, .int .i64 a, .int .i64 b] w fun e w' => e = .returned (rv blk cap) /\ ∃ n os, w' = grow (putRow zjf (Go.Sort.ahead w n) blk 0 ys.toArray) os) :
  PX P f [.hs 0 0 zs.length, .d (.int .i64 a), .d (.int .i64 b)] [(0, ⟨e, 1, dr (zs.map zcp)⟩)] [(0, 0)] [(0, ⟨e, 1, dr (ys.map zcp)⟩)] rA := by
 refine ⟨hent, fun g w vs h hu hvs => ?_⟩;simp only [zj, zh, zr] at hvs;obtain ⟨v0, _, rfl, h0, _, _, rfl, rfl, _, _, rfl, rfl, rfl⟩ := hvs;obtain ⟨L0, hL, hok⟩ := h.own 0 ⟨e, 1, dr (zs.map zcp)⟩ (by simp [zkm, find]);have hkm : L0.m = 1 := hok.m;have hlenr : (dr (zs.map zcp)).length = zs.length := by simp [dr]
 have hvirt : L0.virt = false := by
  cases hv : L0.virt with
  | false => rfl
  | true =>
   have h2 : (dr (zs.map zcp)).length = 0 := by rw [show dr (zs.map zcp) = [] from hok.virt hv]; rfl
   omega
 have hflat : L0.virt = false /\ L0.map = false := by
  rcases h0.2 L0 hL with ⟨hv, _⟩ | ⟨hv, _⟩
  ·rw [hvirt] at hv; cases hv
  ·exact hv
 have hvm := hflat.2;obtain ⟨cur, hR, hcs, hcap, hrows⟩ := hok.cells hflat;have hR' := hR;obtain ⟨el0, fr0, hblk, hx1, hx2⟩ := hR';have e0 : v0 = .slice (some ⟨L0.blk, 0, none⟩) zs.length L0.cap := by
  rcases h0.2 L0 hL with ⟨hv, _⟩ | ⟨_, _, hv⟩
  ·rw [hvirt] at hv; cases hv
  ·rw [hv]; simp
 have hcapl : zs.length <= L0.cap := by have := hok.len hvm; rw [hlenr] at this; exact this
 have hblt : L0.blk < w.heap.size := (Array.getElem?_eq_some_iff.1 hblk).1;have hcsz : cur.size = L0.cap := by rw [hcs, hkm]; simp
 have hget : ∀ i (hi : i < zs.length), cur[i]? = some (zjf zs[i]) := fun i hi => by
  have hrow := hrows i ((zcp zs[i]).map AV.d) (by simp [dr, hi]);obtain ⟨u, hu1, hu2, hu3⟩ := hrow.2 0 (.d (.int .i64 zs[i])) (by simp);rw [hkm] at hu1;simp only [zh, zr] at hu3;rw [hu3] at hu1;simpa using hu1
 have hH : Holds zjf w L0.blk 0 zs.toArray := by
  intro j hj;have hj' : j < zs.length := by simpa using hj
  have h1 := hget j hj';refine ⟨?_, ?_⟩
  ·simp only [World.cell?, hblk, Nat.zero_add, Option.isSome_none, Bool.false_eq_true, if_false];rw [h1, getElem!_pos zs.toArray j hj];simp
  ·simpa using hR.open (o := j) (by omega)
 rw [e0];refine (hc L0.blk L0.cap w hH hblt hcapl hcap).mono ?_;rintro ex w' ⟨rfl, n, os, rfl⟩;have hbs : zfl ((grow (putRow zjf (Go.Sort.ahead w n) L0.blk 0 ys.toArray) os).heap[L0.blk]?) e (Go.Sort.putCells zjf 0 ys.toArray cur) := ⟨el0, fr0, zsp w L0.blk n ys.toArray os hblk, hx1, by simp only [Go.Sort.putCells, Array.size_mapIdx]; exact hx2⟩
 obtain ⟨g', h1, h2, h3, h4, h5, h6⟩ := zam.write h hL hflat (id' := 0) (.inl rfl) ⟨e, 1, dr (ys.map zcp)⟩ (Go.Sort.putCells zjf 0 ys.toArray cur) (w' := grow (putRow zjf (Go.Sort.ahead w n) L0.blk 0 ys.toArray) os) (cap := L0.cap) (B := L0.blk) rfl ⟨rfl, .inr (drawn_rowI _ _ _ _ _)⟩ rfl (size_rowI _ _ _ _ _)
  (fun b hb hne => heap_rowI _ _ _ _ _ hb hne) (.inl rfl) hbs hkm.symm hok.pos (by simp only [Go.Sort.putCells, Array.size_mapIdx]; rw [hcs]) (by simp [dr]; omega) hcap (fun _ => ⟨rfl, rfl⟩) (by
   intro i row hi;have hil : i < ys.length := by have := (List.getElem?_eq_some_iff.1 hi).1; simpa [dr] using this
   have hrow : row = (zcp ys[i]).map AV.d := by
    have : (dr (ys.map zcp))[i]? = some ((zcp ys[i]).map AV.d) := by simp [dr, hil]
    rw [this] at hi; exact (Option.some.inj hi).symm
   subst hrow;refine ⟨by simp [hkm], fun j av hj => ?_⟩;have hj0 : j = 0 := by have := (List.getElem?_eq_some_iff.1 hj).1; simp at this; omega
   subst hj0;have hav : av = .d (.int .i64 ys[i]) := by simpa using hj.symm
   subst hav;refine ⟨zjf ys[i], ?_, rfl, by simp only [zh, zr]⟩;rw [hkm];have hic : i < cur.size := by omega
   simp only [Go.Sort.putCells, Nat.mul_one, Nat.add_zero, Array.getElem?_mapIdx, Array.getElem?_eq_getElem hic, Option.map_some];rw [if_pos ⟨Nat.zero_le _, by simp; omega⟩];have : ys.toArray[i - 0]! = ys[i] := by rw [Nat.sub_zero, getElem!_pos ys.toArray i (by simpa using hil)]; simp
   rw [this])
 refine ⟨_, g', rfl, ?_, ?_, h5, ?_⟩
 ·have : (zbh (zbh (zkm [(0, ⟨e, 1, dr (zs.map zcp)⟩)]) 0 none) 0 (some ⟨e, 1, dr (ys.map zcp)⟩)) = zkm [(0, ⟨e, 1, dr (ys.map zcp)⟩)] := by
   funext x
   simp only [zbh, zkm, find];by_cases hx : x = 0
   ·subst hx; simp
   ·have hx' : ¬ (0 = x) := fun h => hx h.symm;simp [hx, hx']
  rw [<- this]; exact h4
 ·exact hrep g' _ ⟨L0.blk, L0.m, L0.cap, false, false⟩ (by rw [h2]; exact .inr rfl) h1 ⟨rfl, rfl⟩ hcapl
 ·intro i j hij;simp only [List.mem_cons, List.not_mem_nil, or_false, Prod.mk.injEq] at hij;obtain ⟨rfl, rfl⟩ := hij;rw [h1, hL];cases L0; simp_all

theorem deleteE_px {P : Program} {ρ : Ren} (L : SlLaysE.n45 P ρ) (hent : zjg P (ρ.f 45)) (e : TypeId) (v23 : ∀ w, (zeroValue (ρ.t 23)).run P w = .ok (zjf 0) w) (hi0 : (P.info? (ρ.t 23)).map (fun i => i.size) = some 1) (zs : List Int) (i j : Nat) (hn : 0 < zs.length) (hij : i <= j) (hj : j <= zs.length) :
  PX P (ρ.f 45) [.hs 0 0 zs.length, .d (.int .i64 i), .d (.int .i64 j)] [(0, ⟨e, 1, dr (zs.map zcp)⟩)] [(0, 0)] [(0, ⟨e, 1, dr ((zs.take i ++ zs.drop j ++ List.replicate (j - i) 0).map zcp)⟩)] (.hs 0 0 (zs.length - (j - i))) := by
 simp only [Option.map_eq_some_iff] at hi0;obtain ⟨i0, h0, h1⟩ := hi0;refine int_px2 hent e i j hn (by simp; omega) (fun blk cap => .slice (some ⟨blk, 0, none⟩) (zs.length - (j - i)) cap) _ (fun g w L hu hL hv hcap => ?_) fun blk cap w hH hb hcap hm => ?_
 ·exact ztd (L := L) (w := w) hu hL hv (len := zs.length - (j - i)) (by omega)
 ·have hs : zs.toArray.size = zs.length := by simp
  have := AnyE.slices_Delete L zjf (fun _ => rfl) (0 : Int) v23 i0 h0 h1 blk 0 cap i j zs.toArray w hH (by simpa using hcap) (by simpa [maxLen] using hm) hij (by simpa using hj);rw [hs] at this;refine this.mono ?_;rintro ex w' ⟨h1, q, h2⟩;exact ⟨h1, q, #[], by rw [grow_empty]; simpa using h2⟩
end Go.Abs

namespace Go.Proofs.YtdddknniooimmaaGreat
open Go.Abs Go.Shelf

def delH_ren : Go.Shelf.Ren := ⟨fun | 45 => 212 | n => n, fun | 22 => 121 | 23 => 178 | n => n, fun n => n⟩
theorem delH_lays : SlLaysE.n45 Tryz.prog delH_ren where
 mixed := by kernel_rfl
 f45 := ⟨Tryz.f212.name, by kernel_rfl, Tryz.func212.trans (congrArg some (by kernel_rfl))⟩
 t0 := Tryz.underlying0
 a0 := Tryz.isAgg0
 z0 := Tryz.sizeOf0
 v0 := Tryz.zeroValue0
 t3 := Tryz.underlying3
 a3 := Tryz.isAgg3
 z3 := Tryz.sizeOf3
 v3 := Tryz.zeroValue3
 t4 := Tryz.underlying4
 a4 := Tryz.isAgg4
 z4 := Tryz.sizeOf4
 v4 := Tryz.zeroValue4
 t22 := Tryz.underlying121
 a22 := Tryz.isAgg121
 z22 := Tryz.sizeOf121
 v22 := Tryz.zeroValue121
 a23 := Tryz.isAgg178
 z23 := Tryz.sizeOf178
theorem hdelete_px (zs : List Int) (i : Nat) (hi : i < zs.length) : PX Tryz.prog 212 [.hs 0 0 zs.length, .d (.int .i64 i), .d (.int .i64 (i + 1))] [(0, ⟨178, 1, dr (zs.map zcp)⟩)] [(0, 0)] [(0, ⟨178, 1, dr ((zs.eraseIdx i ++ [0]).map zcp)⟩)] (.hs 0 0 (zs.length - 1)) := by
 have h := deleteE_px delH_lays ⟨_, Tryz.func212, by kernel_rfl, by kernel_rfl⟩ 178 (fun w => Tryz.zeroValue178 w) (by kernel_rfl) zs i (i + 1) (by omega) (by omega) (by omega);rw [show i + 1 - i = 1 by omega] at h;rw [List.eraseIdx_eq_take_drop_succ];exact h

abbrev zei (A : List (ze × List Hd)) : List (List D) := zmh (fun c : ze => .agg c.row) zdm A
theorem zks (a b : ze) : eqK (.agg a.row) (.agg b.row) = some (decide (a = b)) := by
 obtain ⟨x, y⟩ := a;obtain ⟨u, v⟩ := b;simp [eqK, eqD];by_cases h1 : x = u <;> by_cases h2 : y = v <;> simp [h1, h2]
theorem look_c (p : ze) (A : List (ze × List Hd)) : zic .nl false (zhd (.agg p.row) (dr (zei A))) (zdm (zac A p)) = True := by
 rw [show dr (zei A) = dr (zmh (fun c : ze => D.agg c.row) zdm A) from rfl, lookA_row (kd := fun c : ze => D.agg c.row) (vd := zdm) zks p A];unfold zac;cases zdp A p <;> simp [zic, outD, zdm]
theorem del_c (p : ze) (A : List (ze × List Hd)) : delR (.agg p.row) (dr (zei A)) = some (dr (zei (delL A p))) := delR_row (kd := fun c : ze => D.agg c.row) (vd := zdm) zks p A
theorem put_c (p : ze) (x : AV) (A : List (ze × List Hd)) {j : Nat} (h : zfb p A = some j) : zky (.agg p.row) x (dr (zei A)) = some ((dr (zei A)).set j [.d (.agg p.row), x]) := by
 unfold zky;rw [zpt (kd := fun c : ze => D.agg c.row) (vd := zdm) zks p A, h]
theorem fzR_setR (id : Nat) (rs : List (List D)) (k : D) (x : AV) : ∀ (R : List (List D)) (j : Nat), fzR id rs ((dr R).set j [.d k, x]) = (dr R).set j [.d k, fz id rs x]
 | [], j => rfl
 | r :: R, 0 => by
  show fzL id rs [.d k, x] :: fzR id rs (dr R) = [.d k, fz id rs x] :: dr R
  rw [zbc]; rfl
 | r :: R, j + 1 => by
  show fzL id rs (r.map AV.d) :: fzR id rs ((dr R).set j [.d k, x]) = r.map AV.d :: (dr R).set j [.d k, fz id rs x]
  rw [zaq, fzR_setR id rs k x R j]
theorem dr_setD (R : List (List D)) (j : Nat) (k x : D) : (dr R).set j [.d k, .d x] = dr (R.set j [k, x]) := by
 simp [dr, List.map_set]
theorem idxH_erase (h : Hd) : ∀ (l : List Hd) (i : Nat), zkn h l = i -> l.eraseIdx i = l.erase h
 | [], i, _ => by simp
 | k :: l, i, hi => by
  unfold zkn at hi;by_cases e : h = k
  ·rw [if_pos e] at hi;have : i = 0 := by omega
   subst this; subst e;simp
  ·rw [if_neg e] at hi;split at hi
   ·omega
   ·have hg := idxH_ge h l;obtain ⟨j, rfl⟩ : ∃ j, i = j + 1 := ⟨i - 1, by omega⟩
    have := idxH_erase h l j (by omega);simp only [List.eraseIdx_cons_succ, this];rw [List.erase_cons_tail (by simpa using fun e' => e e'.symm)]

set_option maxHeartbeats 4000000 in
theorem take_px (A : List (ze × List Hd)) (c : Crk) (hc : c.h ∈ zac A c.p) (hl : (zac A c.p).length <= 1000) :
  PX Tryz.prog 140 [.hm 0, .d (.agg c.p.row), .d (.int .i64 c.h.int)] [(0, ⟨118, mapM, dr (zei A)⟩)] [(0, 0)] [(0, ⟨118, mapM, dr (zei (takeA A c))⟩)] (.d (.bool true)) := by
 have hA : takeA A c = if (zac A c.p).length = 1 then delL A c.p else zgj A c.p ((zac A c.p).erase c.h) := rfl
 have c1 := index_ok (zac A c.p) c.h (by omega);have l1 := look_c c.p A;have d1 := del_c c.p A;have i0 := (zvh c.h (zac A c.p)).2 hc;have i1 := idxH_le c.h (zac A c.p);obtain ⟨i, hi⟩ : ∃ i : Nat, zkn c.h (zac A c.p) = i := ⟨(zkn c.h (zac A c.p)).toNat, by omega⟩
 have he := idxH_erase c.h _ i hi;have hpos : ∃ j, zfb c.p A = some j /\ zgj A c.p ((zac A c.p).erase c.h) = A.set j (c.p, (zac A c.p).erase c.h) := by
  have hg := zes (a := c.p) A;unfold zgj;cases hp : zfb c.p A with
  | none =>
   rw [hp] at hg;simp only at hg;unfold zac at hc;rw [hg] at hc;simp at hc
  | some j => exact ⟨j, rfl, rfl⟩
 obtain ⟨j, hj, hput⟩ := hpos;have p1 := fun x => put_c c.p x A hj;rw [hi] at c1 i0 i1;rw [hput] at hA;rw [<- he] at hA;have c3 := hclone_ok (zac A c.p) (by omega);have c4 := fun h => hdelete_px ((zac A c.p).map Hd.int) i h;rw [List.length_map, show ((zac A c.p).map Hd.int).map zcp = (zac A c.p).map zmt from by simp] at c4;have hel : ((zac A c.p).eraseIdx i).length = (zac A c.p).length - 1 := by rw [List.length_eraseIdx, if_pos (by omega)]
 have hme : ((zac A c.p).map Hd.int).eraseIdx i = ((zac A c.p).eraseIdx i).map Hd.int := (Go.ChangeMaps.map_eraseIdx _ _ _).symm;have hys : ((((zac A c.p).map Hd.int).eraseIdx i ++ [0]).map zcp).take ((zac A c.p).length - 1) = ((zac A c.p).eraseIdx i).map zmt := by
  rw [hme, List.map_append, List.take_left' (by rw [List.length_map, List.length_map, hel])];simp
 have hyl : ((((zac A c.p).map Hd.int).eraseIdx i ++ [0]).map zcp).length = (zac A c.p).length := by
  rw [hme, List.length_map, List.length_append, List.length_map, hel]; simp; omega
 generalize (((zac A c.p).map Hd.int).eraseIdx i ++ [0]).map zcp = ys at *;obtain ⟨⟨x, y⟩, h⟩ := c;simp only at *;generalize zac A ⟨x, y⟩ = hs at *;generalize h.int = hn at *;rw [hA];refine zbv cx (fn := Tryz.f140) (c := _) 1 Tryz.func140 rfl rfl (lB rfl) rfl rfl fun Ls => ?_;rw [Tryz.ntmps140]; refine Nav.imp ?_;refine rg cx ?_;refine rx cx [(2, .p (zdm hs)), (4, .p (.int .i64 i))] (fun K hK => by simp [push_cast, c1, l1]; (repeat refine ob ?_); exact hK) ?_;have hb0 : decide ((i : Int) < 0) = false := by simp
 refine rg cx ?_;refine awp_cn false (by simp [push_cast, hb0]) (fun hb => ?_) fun hb => ?_
 ·simp at hb
 ·refine rx cx [(2, .p (zdm hs))] (fun K hK => by simp [push_cast, l1]; (repeat refine ob ?_); exact hK) ?_;by_cases h1 : hs.length = 1
  ·rw [if_pos h1];refine awp_cn true (by simp [push_cast, h1]) (fun hb => ?_) fun hb => ?_
   ·refine rx cx [] (fun K hK => by simp [push_cast, d1]; (repeat refine ob ?_); exact hK) ?_;refine rg cx ?_;first | refine znr [(0, 0)] ?_ | refine zns [(0, 0)] ?_
    simp [push_cast];try decide
   ·simp at hb
  ·rw [if_neg h1];have hb1 : ¬ ((hs.length : Int) = 1) := by omega
   refine awp_cn false (by simp [push_cast, hb1]) (fun hb => ?_) fun hb => ?_
   ·simp at hb
   ·have w1 := wI ((i : Int) + 1);refine rd cx mixed [(4, .p (zdm hs)), (5, .o 178 1 (hs.map zmt)), (9, .x ⟨[(0, 21)], [.hs 0 0 hs.length, .d (.int .i64 i), .d (.int .i64 (i + 1))], [(0, ⟨178, 1, dr (hs.map zmt)⟩)], [(0, 0)], none, [(0, ⟨178, 1, dr ys⟩)], .hs 0 0 (hs.length - 1)⟩)] (fun K hK => by simp [push_cast, l1, c3, c4, w1, p1]; (repeat refine ob ?_); exact hK) ?_;have hf := fzR_setR 21 ys (.agg [.int .i64 x, .int .i64 y]) (.hs 21 0 (hs.length - 1)) (zei A) j;have hz : fz 21 ys (.hs 21 0 (hs.length - 1)) = .d (.sl ((hs.eraseIdx i).map zmt)) := by
     simp only [fz, if_true, Nat.zero_add, List.drop_zero];rw [if_pos (by omega), hys]
    rw [hz, dr_setD] at hf;refine zaf 21 (ys) rfl (by simp [push_cast, hf]) fun K hK => ?_;simp [push_cast, St.fz, fzT, fzH, fzO, fz, fzL, fzR, zbc, zat, zas, zaq, hf];refine nx hK ?_; clear hK K;refine rg cx ?_;first | refine znr [(0, 0)] ?_ | refine zns [(0, 0)] ?_
    simp [push_cast, zmh, List.map_set];try decide
    rw [dr_setD];exact rnR_dr _ _
end Go.Proofs.YtdddknniooimmaaGreat

namespace Go.Abs
variable [Flag]

def zqo (P : Program) (f : FuncId) (c : XC) (ti : List (Nat × Nat)) (obj : Nat -> Option Ob) (args : List AV) : Eff :=
 {val := dn (swp ti) c.r, wr := gone c.σ ++ zmd (swp ti) c.hp' ti,
  ob := (zey c.σ c.as args /\ zkz obj c.σ c.hp /\ zev (c.σ.map (·.2)) = true /\ c.σ.map (·.1) = c.hp.map (·.1) /\ zev (ti.map (·.1)) = true /\ zev (ti.map (·.2)) = true) /\ PX P f c.as c.hp c.pin c.hp' c.r }

def AfterN (g : G) (obj : Nat -> Option Ob) (w : World) (N : Nat -> Prop) (e : Eff) (v : Value) (w' : World) : Prop :=
 ∃ g', zam g' (zcu obj e.wr) w' /\ zan g w g' w' /\ zbs g w g' w' /\ (∀ k, g'.used k -> g.used k \/ N k) /\ zh g' w' e.val v

theorem y_sound {P : Program} {f : FuncId} {g : G} {obj : Nat -> Option Ob} {w : World} (h : zam g obj w) {c : XC} {ti : List (Nat × Nat)} {N : Nat -> Prop} (hid : ∀ x, N x -> ¬ g.used x) (hti : ∀ x j, find ti x = some j -> N x \/ ∃ i, (i, j) ∈ c.pin /\ find c.σ i = some x) {args : List AV} {us : List Value} (hargs : zj g w args us) (hob : (zqo P f c ti obj args).ob) :
  Calls P f us.toArray w fun e w' => ∃ v, e = .returned v /\ AfterN g obj w N (zqo P f c ti obj args) v w' := by
 obtain ⟨⟨ha, hhp, hσ0, hdom, ht10, ht20⟩, _, hpx⟩ := hob;have hσ := zis hσ0;have ht1 := zis ht10;have ht2 := zis ht20;have hin : ∀ {i x}, find c.σ i = some x -> (find c.hp i).isSome = true := fun {i x} hi => by
  have := zkp hi;rw [hdom] at this;obtain ⟨v, hv⟩ := zfu this;rw [hv]; rfl
 let g0 : G := via g c.σ c.hp
 have hloc0 : ∀ i x, find c.σ i = some x -> g0.loc i = g.loc x := fun i x hi => zni hi;have hused0 : ∀ i x, find c.σ i = some x -> g0.used i := fun i x hi => hin hi;have hl0 : ∀ i L, g0.loc i = some L -> ∃ x, find c.σ i = some x /\ g.loc x = some L := fun i L hL => zme hL;have hH0 : zam g0 (zkm c.hp) w := via_rel h hhp hσ hdom;refine (hpx g0 w us hH0 (fun _ hk => hk) (zmj hused0 hloc0 (fun _ hb => hb) ha hargs)).mono fun e w' ⟨v, g1, he, hH1, hr1, hs1, hp1⟩ => ⟨v, he, ?_⟩
 have hown0 : ∀ b, g0.owns b -> ∃ x, x ∈ c.σ.map (·.2) /\ ∃ L, g.loc x = some L /\ L.virt = false /\ L.blk = b := by
  rintro b ⟨i, L, hL, hv, hb⟩;obtain ⟨x, h1, h2⟩ := hl0 i L hL;exact ⟨x, zql h1, L, h2, hv, hb⟩
 have hkeep : ∀ x L, x ∉ c.σ.map (·.2) -> g.loc x = some L -> L.virt = false -> ¬ g0.owns L.blk := by
  rintro x L hx hL hv ho;obtain ⟨y, hy, M, hM, hvM, hb⟩ := hown0 _ ho;have := h.inj y x M L hM hL hvM hv hb;exact hx (this ▸ hy)
 let g2 : G := ⟨g1.ro, fun x => match find ti x with | some j => g1.loc j | none => if x ∈ c.σ.map (·.2) then none else g.loc x, fun x => g.used x \/ find ti x ≠ none⟩
 have hg2t : ∀ x j, find ti x = some j -> g2.loc x = g1.loc j := fun x j hx => by simp only [g2, hx]
 have hg2n : ∀ x, find ti x = none -> g2.loc x = if x ∈ c.σ.map (·.2) then none else g.loc x := fun x hx => by simp only [g2, hx]
 have hτ : ∀ i x, find (swp ti) i = some x -> find ti x = some i := fun i x hi => swp_find ht1 ht2 hi;have hlater : zbs g w g2 w' := by
  refine ⟨fun b hb => ⟨hs1.ro b hb, ?_⟩, fun x hx => .inl hx, fun x hx => ?_⟩
  ·refine hs1.block b (h.ro b hb) fun ho => ?_;obtain ⟨y, hy, M, hM, hvM, hbb⟩ := hown0 b ho;exact ((h.live y M hM).2 hvM).2 (hbb ▸ hb)
  ·cases hf : find ti x with
   | none =>
    rw [hg2n x hf];split
    ·exact .inr rfl
    ·exact .inl rfl
   | some j =>
    rcases hti x j hf with hN | ⟨i, h1, h2⟩
    ·exact absurd hx (hid x hN)
    ·left
     rw [hg2t x j hf, hp1 i j h1, hloc0 i x h2]
 have hobj2 : ∀ x, zcu obj (zqo P f c ti obj args).wr x = match find ti x with
   | some j => (find c.hp' j).map fun o => ⟨o.elem, o.m, dnR (swp ti) o.rows⟩
   | none => if x ∈ c.σ.map (·.2) then none else obj x := by
  intro x;simp only [zqo];rw [zlb, zka (by rw [zrw]; exact ht1), zka (by rw [zrp]; exact hσ), zrx, zrq];cases find ti x with
  | some j => rfl
  | none => simp only [Option.map_none, Option.getD_none]; split <;> rfl
 refine ⟨g2, ⟨?_, ?_, ?_, ?_, hH1.ro⟩, ?_, hlater, ?_, ?_⟩
 ·intro x o ho;rw [hobj2] at ho;cases hf : find ti x with
  | some j =>
   rw [hf] at ho;simp only [Option.map_eq_some_iff] at ho;obtain ⟨o1, ho1, rfl⟩ := ho;obtain ⟨L, hL, hok⟩ := hH1.own j o1 ho1;refine ⟨L, by rw [hg2t x j hf]; exact hL, hok.m, hok.pos, by simpa only [zts] using hok.len, fun hv => by simp [hok.virt hv, dnR], fun hv => ?_, fun hv => ⟨(hok.ents hv).1, (hok.ents hv).2.imp fun es he => he.imp fun clock he => ⟨he.1, he.2.1, dnR_ents (fun i y hy => Or.inr (by rw [hτ i y hy]; simp)) (fun i y hy => hg2t y i (hτ i y hy)) (fun _ hb => hb) _ _ he.2.2⟩⟩⟩;obtain ⟨cur, c1, c2, c3, c5⟩ := hok.cells hv;refine ⟨cur, c1, c2, c3, fun k row hi => ?_⟩;obtain ⟨r0, hr0, rfl⟩ := dnR_get _ _ k row hi;obtain ⟨d1, d2⟩ := c5 k r0 hr0;refine ⟨by rw [ztt]; exact d1, fun q av hq => ?_⟩;obtain ⟨a0, ha0, rfl⟩ := dnL_get _ _ q av hq;obtain ⟨u, q1, q2, q3⟩ := d2 q a0 ha0;exact ⟨u, q1, q2, dn_rep (fun i y hy => Or.inr (by rw [hτ i y hy]; simp)) (fun i y hy => hg2t y i (hτ i y hy)) (fun _ hb => hb) _ _ q3⟩
  | none =>
   rw [hf] at ho;simp only at ho;split at ho
   ·cases ho
   ·rename_i hx;obtain ⟨L, hL, hok⟩ := h.own x o ho;exact ⟨L, by rw [hg2n x hf, if_neg hx]; exact hL, hok.later hlater fun hv => hs1.block _ ((h.live x L hL).2 hv).1 (hkeep x L hx hL hv)⟩
 ·intro x hx;rw [hobj2] at hx;cases hf : find ti x with
  | some j =>
   rw [hf] at hx;rw [hg2t x j hf];simp only [Option.map_eq_none_iff] at hx;exact hH1.gone j hx
  | none =>
   rw [hf] at hx;simp only at hx;rw [hg2n x hf];split
   ·rfl
   ·rename_i hn; rw [if_neg hn] at hx; exact h.gone x hx
 ·intro x L hL;cases hf : find ti x with
  | some j =>
   rw [hg2t x j hf] at hL;exact ⟨.inr (by rw [hf]; simp), (hH1.live j L hL).2⟩
  | none =>
   rw [hg2n x hf] at hL;split at hL
   ·cases hL
   ·rename_i hx;refine ⟨.inl (h.live x L hL).1, fun hv => ⟨Nat.lt_of_lt_of_le ((h.live x L hL).2 hv).1 hs1.size, fun hro => ?_⟩⟩;rcases hs1.ro' _ hro with h1 | h1 | h1
    ·exact ((h.live x L hL).2 hv).2 h1
    ·have := ((h.live x L hL).2 hv).1; omega
    ·exact hkeep x L hx hL hv h1
 ·intro x y L L' hL hL' hv hv' hb;have mix : ∀ x y L L', (∃ j, find ti x = some j) -> find ti y = none -> g2.loc x = some L -> g2.loc y = some L' -> L.virt = false -> L'.virt = false -> L.blk = L'.blk -> False := by
   rintro x y L L' ⟨j, hx⟩ hy hL hL' hv hv' hb;rw [hg2t x j hx] at hL;rw [hg2n y hy] at hL';split at hL'
   ·cases hL'
   ·rename_i hny;rcases hs1.own L.blk ⟨j, L, hL, hv, rfl⟩ with h1 | h1
    ·have := ((h.live y L' hL').2 hv').1; omega
    ·exact hkeep y L' hny hL' hv' (hb ▸ h1)
  cases hx : find ti x with
  | some j =>
   cases hy : find ti y with
   | some k =>
    rw [hg2t x j hx] at hL;rw [hg2t y k hy] at hL';have := hH1.inj j k L L' hL hL' hv hv' hb;subst this;exact zrs ht2 hx hy
   | none => exact (mix x y L L' ⟨j, hx⟩ hy hL hL' hv hv' hb).elim
  | none =>
   cases hy : find ti y with
   | some k => exact (mix y x L' L ⟨k, hy⟩ hx hL' hL hv' hv hb.symm).elim
   | none =>
    rw [hg2n x hx] at hL;rw [hg2n y hy] at hL';split at hL
    ·cases hL
    ·split at hL'
     ·cases hL'
     ·exact h.inj x y L L' hL hL' hv hv' hb
 ·refine ⟨hs1.os, hs1.tape, hs1.output, hs1.size, fun b hb hn => hs1.block b hb fun ho => hn ?_, ?_, fun b hb => hs1.ro b hb, fun b hb => ?_⟩
  ·obtain ⟨x, _, L, h1, h2, h3⟩ := hown0 b ho;exact ⟨x, L, h1, h2, h3⟩
  ·rintro b ⟨x, L, hL, hv, hb⟩;cases hf : find ti x with
   | some j =>
    rw [hg2t x j hf] at hL;rcases hs1.own b ⟨j, L, hL, hv, hb⟩ with h1 | h1
    ·exact .inl h1
    ·obtain ⟨y, _, M, q1, q2, q3⟩ := hown0 b h1;exact .inr ⟨y, M, q1, q2, q3⟩
   | none =>
    rw [hg2n x hf] at hL;split at hL
    ·cases hL
    ·exact .inr ⟨x, L, hL, hv, hb⟩
  ·rcases hs1.ro' b hb with h1 | h1 | h1
   ·exact .inl h1
   ·exact .inr (.inl h1)
   ·obtain ⟨y, _, M, q1, q2, q3⟩ := hown0 b h1;exact .inr (.inr ⟨y, M, q1, q2, q3⟩)
 ·intro k hk;rcases hk with hk | hk
  ·exact .inl hk
  ·cases hf : find ti k with
   | none => exact absurd hf hk
   | some j =>
    rcases hti k j hf with hN | ⟨i, h1, h2⟩
    ·exact .inr hN
    ·have h3 := hin h2;obtain ⟨o, ho⟩ := Option.isSome_iff_exists.1 h3;obtain ⟨x', o', q1, q2, _⟩ := zro hhp i o ho;rw [h2] at q1;cases q1;obtain ⟨L, hL, _⟩ := h.own k o' q2;exact .inl (h.live k L hL).1
 ·exact dn_rep (fun i y hy => Or.inr (by rw [hτ i y hy]; simp)) (fun i y hy => hg2t y i (hτ i y hy)) (fun _ hb => hb) _ _ hr1

theorem zgg {P : Program} {ty : TypeId -> Option TI} (hc : Ctx P ty) {orc : List (Nat × Res)} {gs : List (Option Tmp)} {ops : Array Oper} (hgs : ∀ j : Nat, gs[j]? = (ops[j]?).map fun o : Oper => o.dst) {base nxt : Nat} {Q : Exit -> Act -> World -> Prop} {K : St -> Prop} {g0 : G} {w0 : World}
  {l2 : List Oper} {en n0 : Nat} (hQ : ∀ s g a w, s.nxt = nxt -> s.n = n0 -> Rel (· < base + en) g s.get s.obj s.n a w -> zan g0 w0 g w -> K s -> wpList P ops Q l2 a w) :
  ∀ (l : List Oper) (i : Nat) (s : St) (g : G) (a : Act) (w : World), i + l.length = en -> s.nxt = nxt -> s.n = n0 -> Rel (· < base + i) g s.get s.obj s.n a w -> zan g0 w0 g w -> wpT ty P orc gs base i l s K -> wpList P ops Q (l ++ l2) a w
 | [], i, s, g, a, w, hle, hnx, hn0, h, hs, hk => hQ s g a w hnx hn0 (by simp at hle; rw [<- hle]; exact h) hs hk
 | o :: rest, i, s, g, a, w, hle, hnx, hn0, h, hs, hk => by
  simp only [List.length_cons] at hle;have hargs : zj g w (o.op.operands.toList.map s.eval) (o.op.operands.toList.map a.eval) := by
   refine zj.of_get (by simp) fun j av hj => ?_;rw [List.getElem?_map] at hj ⊢;cases hx : o.op.operands.toList[j]? with
   | none => rw [hx] at hj; cases hj
   | some x => rw [hx] at hj; cases hj; exact ⟨a.eval x, rfl, zef h (fun _ => rfl) x⟩
  have relapp : ∀ (e : Eff) (g' : G) (a' : Act) (w' : World), Rel (fun k => k < base + i \/ k = base + i) g' (zgu s.get o.dst e.val) (zcu s.obj e.wr) s.n a' w' -> Rel (· < base + (i + 1)) g' (s.app o.dst e).get (s.app o.dst e).obj (s.app o.dst e).n a' w' := by
   intro e g' a' w' hr;have hn : (s.app o.dst e).n = s.n := by unfold St.app St.put; cases o.dst <;> rfl
   rw [hn];exact ⟨hr.defers, hr.size, fun t => by rw [zos]; exact hr.tmp t, fun id hu => by
    have := hr.used id hu
    show id < base + (i + 1)
    rcases this with hh | hh <;> omega, by
    have : (s.app o.dst e).obj = zcu s.obj e.wr := funext (zor s o.dst e);rw [this]; exact hr.heap⟩
  have hnapp : ∀ e, (s.app o.dst e).nxt = nxt := fun e => by rw [<- hnx]; unfold St.app St.put; cases o.dst <;> rfl
  have hna : ∀ e, (s.app o.dst e).n = s.n := fun e => by unfold St.app St.put; cases o.dst <;> rfl
  have hnput : ∀ v, (s.put o.dst v).nxt = nxt := fun v => by rw [<- hnx]; unfold St.put; cases o.dst <;> rfl
  have hnn : ∀ v, (s.put o.dst v).n = s.n := fun v => by unfold St.put; cases o.dst <;> rfl
  have relput : ∀ (v : AV) (g' : G) (a' : Act) (w' : World) (U : Nat -> Prop), (∀ k, U k -> k < base + (i + 1)) -> Rel U g' (zgu s.get o.dst v) s.obj s.n a' w' -> Rel (· < base + (i + 1)) g' (s.put o.dst v).get (s.put o.dst v).obj (s.put o.dst v).n a' w' := by
   intro v g' a' w' U hU hr;rw [hnn];have := hr.congr (get' := (s.put o.dst v).get) (obj' := (s.put o.dst v).obj) (fun t => St.get_put s o.dst v t) (fun id => zlh s o.dst v id);exact ⟨this.defers, this.size, this.tmp, fun k hk => hU k (this.used k hk), this.heap⟩
  have skipped : ∀ v, (∀ d, o.dst = some d -> d < s.n) -> zh g w v undef -> wpT ty P orc gs base (i + 1) rest (s.put o.dst v) K -> wpList P ops Q (rest ++ l2) (a.put o.dst undef) w := by
   intro v hd hv hrest;have hr := zcf (U' := (· < base + i)) (dst := o.dst) (v := v) (u := undef) h h.heap ⟨fun b hb => ⟨hb, rfl⟩, fun _ hx => hx, fun _ _ => .inl rfl⟩ (fun k hk => h.used k hk) hv hd;exact zgg (nxt := nxt) hc hgs hQ rest (i + 1) _ g _ w (by omega) (hnput v) ((hnn v).trans hn0) (relput v g _ w _ (fun k hk => by omega) hr) hs hrest
  simp only [List.cons_append, wpList];unfold wpT at hk;split at hk
  ·rename_i hg;have hw : Region.wanted o (yielded ops a.tmps) = true := by simp [Region.wanted, hg]
   rw [if_pos hw];left
   unfold doOp at hk;split at hk
   ·rename_i e he;obtain ⟨hob, hd, hrest⟩ := hk;exact zfo hc (nid := base + i) h (by simp) hargs he hob (fun d hd' => by rw [hd'] at hd; exact hd) fun g' a' w' hr hst =>
     zgg (nxt := nxt) hc hgs hQ rest (i + 1) (s.app o.dst e) g' a' w' (by omega) (hnapp e) ((hna e).trans hn0) (relapp e g' a' w' hr) (hs.trans hst) hrest
   ·exact hk.elim
  ·rename_i j want hg;split at hk
   ·rename_i x hgv;have hw := zjo (a := a) hgs h.tmp hg hgv;rw [hw];obtain ⟨hd, hk⟩ := hk;have hd' : ∀ d, o.dst = some d -> d < s.n := fun d hd' => by rw [hd'] at hd; exact hd
    split at hk
    ·rename_i e he;split at hk
     ·rename_i hwr;obtain ⟨hexec, hrest⟩ := hk;cases x with
      | true =>
       rw [if_pos rfl];left
       obtain ⟨hso, hob⟩ := hexec rfl;refine zfo hc (nid := base + i) h (by simp) (zdu hargs hso) he hob hd' fun g' a' w' hr hst => ?_;rw [hwr] at hr;exact zgg (nxt := nxt) hc hgs hQ rest (i + 1) _ g' a' w' (by omega) (hnput _) ((hnn _).trans hn0) (relput _ g' a' w' _ (fun k hk => by rcases hk with hh | hh <;> omega) hr.opt) (hs.trans hst) hrest
      | false =>
       rw [if_neg (by simp)];exact skipped _ hd' (by simp [zh]) hrest
     ·obtain ⟨rfl, hso, hob, hrest⟩ := hk;rw [if_pos rfl];left
      exact zfo hc (nid := base + i) h (by simp) (zdu hargs hso) he hob hd' fun g' a' w' hr hst =>
       zgg (nxt := nxt) hc hgs hQ rest (i + 1) (s.app o.dst e) g' a' w' (by omega) (hnapp e) ((hna e).trans hn0) (relapp e g' a' w' hr) (hs.trans hst) hrest
    ·obtain ⟨rfl, hrest⟩ := hk;rw [if_neg (by simp)];exact skipped _ hd' (by simp [zh]) hrest
   ·exact hk.elim


def zrr (lo n : Nat) : List (Nat × Nat) -> Prop
 | [] => True
 | (x, _) :: r => (lo <= x /\ x < lo + n) /\ zrr lo n r
theorem zvl {lo n x j : Nat} : ∀ {l : List (Nat × Nat)}, zrr lo n l -> find l x = some j -> lo <= x /\ x < lo + n
 | [], _, h => by simp [find] at h
 | (y, k) :: r, hl, h => by
  simp only [zrr] at hl;simp only [find] at h;split at h
  ·rename_i e; rw [<- e]; exact hl.1
  ·exact zvl hl.2 h
theorem zof {α : Type} (x : Nat) : ∀ (a b : List (Nat × α)), find (a ++ b) x = (find a x).or (find b x)
 | [], b => by simp [find]
 | (y, k) :: r, b => by
  simp only [List.cons_append, find];split
  ·rfl
  ·exact zof x r b

theorem awp_region2 {P : Program} {ty : TypeId -> Option TI} (hc : Ctx P ty) (orc : List (Nat × Res)) {id : Nat} {l pre post : List Oper} {o : Oper} (hl : l = pre ++ o :: post) (hg : o.guard = none) {cl : Call} {fo : Operand} (ho : o.op = .call cl) (hcal : cl.callee = .value fo) (m : Nat) (c : XC) (fr : List (Nat × Nat)) {Q : Exit -> St -> Prop} {s : St}
  (h : ∀ K : St -> Prop, (∀ s', Q .normal s' -> K s') -> wpT ty P orc (l.map (·.dst)) s.nxt 0 pre { s with nxt := s.nxt + l.length + m } fun s1 =>
   match zjt (s1.eval fo) with
   | some q => zrr (s.nxt + pre.length) (m + 1) fr /\ (zqo P q.1 c (fr ++ zsb c.σ c.pin) s1.obj (cl.args.toList.map s1.eval ++ q.2)).ob /\ (match o.dst with | some d => d < s1.n | none => True) /\
     wpT ty P orc (l.map (·.dst)) (s.nxt + m) (pre.length + 1) post (s1.app o.dst (zqo P q.1 c (fr ++ zsb c.σ c.pin) s1.obj (cl.args.toList.map s1.eval ++ q.2))) K
   | none => False) : AWp P (.region id l.toArray false) Q s := by
 intro g a w hr;refine wp_region ?_;have hgs : ∀ j : Nat, (l.map (·.dst))[j]? = (l.toArray[j]?).map fun o : Oper => o.dst := by intro j; simp
 have hlen : l.length = pre.length + 1 + post.length := by rw [hl]; simp; omega
 have hh := h _ fun _ hq => hq;have key : wpList P l.toArray (fun e a' w' => ∃ s' g', zcs s' g' a' w' /\ zan g w g' w' /\ Q e s') l a w := by
  have h2 := zgg (P := P) hc (orc := orc) (gs := l.map (·.dst)) (ops := l.toArray) hgs (base := s.nxt) (nxt := s.nxt + l.length + m)
   (Q := fun e a' w' => ∃ s' g', zcs s' g' a' w' /\ zan g w g' w' /\ Q e s') (g0 := g) (w0 := w) (l2 := o :: post) (en := pre.length) (n0 := s.n) (K := fun s1 =>
    match zjt (s1.eval fo) with
    | some q => zrr (s.nxt + pre.length) (m + 1) fr /\ (zqo P q.1 c (fr ++ zsb c.σ c.pin) s1.obj (cl.args.toList.map s1.eval ++ q.2)).ob /\ (match o.dst with | some d => d < s1.n | none => True) /\
      wpT ty P orc (l.map (·.dst)) (s.nxt + m) (pre.length + 1) post (s1.app o.dst (zqo P q.1 c (fr ++ zsb c.σ c.pin) s1.obj (cl.args.toList.map s1.eval ++ q.2))) fun s' => Q .normal s'
    | none => False) ?_ pre 0 { s with nxt := s.nxt + l.length + m } g a w (by simp) rfl rfl ⟨hr.defers, hr.size, hr.tmp, fun id hu => by have := hr.used id hu; simpa using this, hr.heap⟩ (zan.refl g w) hh
  ·rw [<- hl] at h2; exact h2
  ·intro s1 g1 a1 w1 hnx hn0 hrel hst hk;simp only [wpList];have hw : Region.wanted o (yielded l.toArray a1.tmps) = true := by simp [Region.wanted, hg]
   rw [if_pos hw];left
   have hev : ∀ x : Operand, zh g1 w1 (s1.eval x) (a1.eval x) := fun x => zef hrel (fun _ => rfl) x;cases hq : zjt (s1.eval fo) with
   | none => rw [hq] at hk; exact hk.elim
   | some q =>
    rw [hq] at hk;obtain ⟨hfr, hob, hd, hrest⟩ := hk;obtain ⟨k, caps⟩ := q;have hargs : zj g1 w1 (cl.args.toList.map s1.eval) (cl.args.toList.map a1.eval) := by
     refine zj.of_get (by simp) fun j av hj => ?_;rw [List.getElem?_map] at hj ⊢;cases hx : cl.args.toList[j]? with
     | none => rw [hx] at hj; cases hj
     | some x => rw [hx] at hj; cases hj; exact ⟨a1.eval x, rfl, hev x⟩
    have hf : ∃ cs : List Value, a1.eval fo = .func (.func k) #[] cs.toArray /\ zj g1 w1 caps cs := by
     have hfv := hev fo;unfold zjt at hq;split at hq
     ·rename_i heq;cases hq;rw [heq] at hfv;simp only [zh, zr] at hfv;obtain ⟨cs, h1, h2⟩ := hfv;exact ⟨cs, h1, zj.of_ds h2⟩
     ·rename_i heq;split at hq
      case isFalse => cases hq
      rename_i hok;cases hq;rw [heq] at hfv;exact zrv hok hfv
     ·cases hq
    obtain ⟨cs, hcs, hrc⟩ := hf;obtain ⟨fn, hfn, hname, hbody⟩ := hob.2.1;have hrun : (execOp a1.eval o).run P w1 = .ok (.enter k ((cl.args.toList.map a1.eval) ++ cs).toArray) w1 := by
     unfold execOp;simp only [ho, resolve, hcal, Deferred.ofValue, hcs, Sem.run_bind, Sem.run_pure, Result.andThen_ok, invoke, callFunc, run_program, hfn, hname, hbody, Bool.false_eq_true, if_false]
     congr 2
     simp
    have hys := y_sound (N := fun x => s.nxt + pre.length <= x /\ x < s.nxt + pre.length + (m + 1)) hrel.heap (fun x hx hu => by have := hrel.used x hu; omega) (c := c) (ti := fr ++ zsb c.σ c.pin) (fun x j hxj => by
     rw [zof] at hxj;cases hfx : find fr x with
     | some j' => exact .inl (zvl hfr hfx)
     | none =>
      rw [hfx] at hxj;exact .inr (zmm hxj)) (hargs.append hrc) hob
    refine zik hrun hys _ _ fun v w2 hA => ?_;obtain ⟨g2, k1, k2, k3, k4, k5⟩ := hA;have hput := zcf (U' := fun x => x < s.nxt + m + (pre.length + 1)) (dst := o.dst) hrel k1 k3 (fun x hx => by
     rcases k4 x hx with hx | hx
     ·have := hrel.used x hx; omega
     ·omega) k5 (fun d hd' => by rw [hd'] at hd; exact hd)
    have hn : (s1.app o.dst (zqo P k c (fr ++ zsb c.σ c.pin) s1.obj (cl.args.toList.map s1.eval ++ caps))).n = s1.n := by unfold St.app St.put; cases o.dst <;> rfl
    have hnx' : (s1.app o.dst (zqo P k c (fr ++ zsb c.σ c.pin) s1.obj (cl.args.toList.map s1.eval ++ caps))).nxt = s.nxt + l.length + m := by rw [<- hnx]; unfold St.app St.put; cases o.dst <;> rfl
    refine zgp (P := P) hc (orc := orc) (gs := l.map (·.dst)) (ops := l.toArray) hgs (base := s.nxt + m) (nxt := s.nxt + l.length + m) (K := fun s' => Q .normal s') (g0 := g) (w0 := w)
     (fun s' g' a' w' h1 h2 h3 => ⟨s', g', h1, h2, h3⟩) post (pre.length + 1) _ g2 _ w2 (by omega) hnx' ?_ (hst.trans k2) hrest
    rw [hn];exact ⟨hput.defers, hput.size, fun t => by rw [zos]; exact hput.tmp t, hput.used, by
     have : (s1.app o.dst (zqo P k c (fr ++ zsb c.σ c.pin) s1.obj (cl.args.toList.map s1.eval ++ caps))).obj = zcu s1.obj (zqo P k c (fr ++ zsb c.σ c.pin) s1.obj (cl.args.toList.map s1.eval ++ caps)).wr := funext (zor s1 o.dst _);rw [this]; exact hput.heap⟩
 have := wpOps_eq_wpList (P := P) (ops := l.toArray) (Q := fun e a' w' => ∃ s' g', zcs s' g' a' w' /\ zan g w g' w' /\ Q e s') l 0 (by intro j; simp);rw [show List.range l.toArray.size = List.range' 0 l.length by simp [List.range_eq_range'], this];exact key
end Go.Abs
