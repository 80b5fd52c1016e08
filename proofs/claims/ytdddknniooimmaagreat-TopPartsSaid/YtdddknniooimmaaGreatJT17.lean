/-
  Texts of this seat put together: H1, AbsK, TR2, TR3, TR4, AbsH, BW3, BW7.
-/
import Derived.Test.YtdddknniooimmaaGreatJT11
import Derived.Test.YtdddknniooimmaaGreatJT16
import Derived.Test.YtdddknniooimmaaGreatJT8
import Derived.Test.YtdddknniooimmaaGreatJT14
import Derived.Test.YtdddknniooimmaaGreatJT15
import Derived.Maps.RangeRun
set_option linter.unusedVariables false
set_option linter.unusedSimpArgs false
set_option maxRecDepth 100000
set_option linter.unusedSectionVars false
namespace Go.Proofs.YtdddknniooimmaaGreat
open Go.Abs

def sortRun_ren : Go.Shelf.Ren := ⟨fun | 6 => 225 | 15 => 133 | 14 => 256 | 28 => 191 | 29 => 192 | 20 => 281 | 21 => 282 | 22 => 283 | 23 => 284 | 24 => 285 | 25 => 286 | 26 => 287 | 27 => 288 | 46 => 296 | 47 => 234 | 48 => 235 | 49 => 297 | 50 => 298 | 57 => 301 | n => n, fun | 22 => 63 | 24 => 85 | 25 => 252 | 3 => 3 | 39 => 174 | 0 => 0 | 53 => 228 | 55 => 230 | 4 => 4 | 46 => 222 | 45 => 221 | 50 => 204 | 5 => 5 | 9 => 9 | 66 => 256 | 70 => 260 | 76 => 284 | 77 => 148 | n => n, fun n => n⟩
theorem sortRun_lays : SlLaysF0.n6 Tryz.prog sortRun_ren where
 mixed := by kernel_rfl
 f6 := ⟨Tryz.f225.name, by kernel_rfl, Tryz.func225.trans (congrArg some (by kernel_rfl))⟩
 f14 := ⟨Tryz.f256.name, by kernel_rfl, Tryz.func256.trans (congrArg some (by kernel_rfl))⟩
 f15 := Tryz.func133.trans (congrArg some (by kernel_rfl))
 f20 := ⟨Tryz.f281.name, by kernel_rfl, Tryz.func281.trans (congrArg some (by kernel_rfl))⟩
 f21 := ⟨Tryz.f282.name, by kernel_rfl, Tryz.func282.trans (congrArg some (by kernel_rfl))⟩
 f22 := ⟨Tryz.f283.name, by kernel_rfl, Tryz.func283.trans (congrArg some (by kernel_rfl))⟩
 f23 := ⟨Tryz.f284.name, by kernel_rfl, Tryz.func284.trans (congrArg some (by kernel_rfl))⟩
 f24 := ⟨Tryz.f285.name, by kernel_rfl, Tryz.func285.trans (congrArg some (by kernel_rfl))⟩
 f25 := ⟨Tryz.f286.name, by kernel_rfl, Tryz.func286.trans (congrArg some (by kernel_rfl))⟩
 f26 := ⟨Tryz.f287.name, by kernel_rfl, Tryz.func287.trans (congrArg some (by kernel_rfl))⟩
 f27 := ⟨Tryz.f288.name, by kernel_rfl, Tryz.func288.trans (congrArg some (by kernel_rfl))⟩
 f28 := Tryz.func191.trans (congrArg some (by kernel_rfl))
 f29 := Tryz.func192.trans (congrArg some (by kernel_rfl))
 f46 := ⟨Tryz.f296.name, by kernel_rfl, Tryz.func296.trans (congrArg some (by kernel_rfl))⟩
 f47 := Tryz.func234.trans (congrArg some (by kernel_rfl))
 f48 := Tryz.func235.trans (congrArg some (by kernel_rfl))
 f49 := ⟨Tryz.f297.name, by kernel_rfl, Tryz.func297.trans (congrArg some (by kernel_rfl))⟩
 f50 := ⟨Tryz.f298.name, by kernel_rfl, Tryz.func298.trans (congrArg some (by kernel_rfl))⟩
 f57 := ⟨Tryz.f301.name, by kernel_rfl, Tryz.func301.trans (congrArg some (by kernel_rfl))⟩
 t0 := Tryz.underlying0
 a0 := Tryz.isAgg0
 z0 := Tryz.sizeOf0
 v0 := Tryz.zeroValue0
 t3 := Tryz.underlying3
 a3 := Tryz.isAgg3
 z3 := Tryz.sizeOf3
 v3 := Tryz.zeroValue3
 t4 := Tryz.underlying4
 a4 := Tryz.isAgg4
 z4 := Tryz.sizeOf4
 v4 := Tryz.zeroValue4
 t5 := Tryz.underlying5
 a5 := Tryz.isAgg5
 z5 := Tryz.sizeOf5
 v5 := Tryz.zeroValue5
 t9 := Tryz.underlying9
 a9 := Tryz.isAgg9
 z9 := Tryz.sizeOf9
 v9 := Tryz.zeroValue9
 t22 := Tryz.underlying63
 a22 := Tryz.isAgg63
 z22 := Tryz.sizeOf63
 v22 := Tryz.zeroValue63
 t25 := Tryz.underlying252
 a25 := Tryz.isAgg252
 z25 := Tryz.sizeOf252
 v25 := Tryz.zeroValue252
 t39 := Tryz.underlying174
 a39 := Tryz.isAgg174
 z39 := Tryz.sizeOf174
 v39 := Tryz.zeroValue174
 t45 := Tryz.underlying221
 a45 := Tryz.isAgg221
 z45 := Tryz.sizeOf221
 v45 := Tryz.zeroValue221
 t46 := Tryz.underlying222
 a46 := Tryz.isAgg222
 z46 := Tryz.sizeOf222
 v46 := Tryz.zeroValue222
 t50 := Tryz.underlying204
 a50 := Tryz.isAgg204
 z50 := Tryz.sizeOf204
 v50 := Tryz.zeroValue204
 t53 := Tryz.underlying228
 a53 := Tryz.isAgg228
 z53 := Tryz.sizeOf228
 v53 := Tryz.zeroValue228
 t55 := Tryz.underlying230
 a55 := Tryz.isAgg230
 z55 := Tryz.sizeOf230
 v55 := Tryz.zeroValue230
 t66 := Tryz.underlying256
 a66 := Tryz.isAgg256
 z66 := Tryz.sizeOf256
 v66 := Tryz.zeroValue256
 t70 := Tryz.underlying260
 a70 := Tryz.isAgg260
 z70 := Tryz.sizeOf260
 v70 := Tryz.zeroValue260
 t76 := Tryz.underlying284
 a76 := Tryz.isAgg284
 z76 := Tryz.sizeOf284
 v76 := Tryz.zeroValue284
 t77 := Tryz.underlying148
 a77 := Tryz.isAgg148
 z77 := Tryz.sizeOf148
 v77 := Tryz.zeroValue148
def cfR : List D -> List D -> Int
 | [.int _ a, .int _ _], [.int _ b, .int _ _] => a - b
 | _, _ => 0
def VR (r : List D) : Prop := ∃ c : Run, r = c.row /\ -1048576 <= c.a /\ c.a <= 1048576
theorem normCmp_ok (a b : Run) (ha : -1048576 <= a.a /\ a.a <= 1048576) (hb0 : -1048576 <= b.a /\ b.a <= 1048576) : PC Tryz.prog 226 [.agg a.row, .agg b.row] (.p (.int .i64 (a.a - b.a))) := by
 have e := wI (a.a - b.a);refine pw cx Tryz.func226 Tryz.ntmps226 ?_;refine rx cx [] (fun K hK => by simp [push_cast, Run.row]; (repeat refine ob ?_); exact hK) ?_;refine rx cx [] (fun K hK => by simp [push_cast, e, Run.row]; (repeat refine ob ?_); exact hK) ?_;simp [push_cast]
theorem cfR_ok : zsj Tryz.prog 226 VR cfR := by
 refine ztc ?_;rintro _ _ ⟨a, rfl, ha⟩ ⟨b, rfl, hb⟩;exact normCmp_ok a b ha hb
theorem cfR_ord : zqg VR cfR where
 irrefl := by rintro _ ⟨a, rfl, _⟩; simp [cfR, Run.row]
 trans := by
  rintro _ _ _ ⟨a, rfl, _⟩ ⟨b, rfl, _⟩ ⟨c, rfl, _⟩;simp only [cfR, Run.row]; omega
 ntrans := by
  rintro _ _ _ ⟨a, rfl, _⟩ ⟨b, rfl, _⟩ ⟨c, rfl, _⟩;simp only [cfR, Run.row]; omega
def srtOut (l : List Run) : List (Nat × Ob) -> AV -> Prop := fun hp' r => ∃ l' : List Run, l'.Perm l /\ (l'.Pairwise fun p q => p.a <= q.a) /\ hp' = [(0, ⟨85, 2, dr (l'.map Run.row)⟩)] /\ r = .tup []
theorem sortR_pxe (l : List Run) (hf : ∀ r ∈ l, zjn r = true) (hl : l.length <= 1000000) : PXE Tryz.prog 225 [.hs 0 0 l.length, .d (.fn (.func 226) [])] [(0, ⟨85, 2, dr (l.map Run.row)⟩)] [(0, 0)] (srtOut l) := by
 have h := zmm (P := Tryz.prog) sortRun_lays (k := 2) (by decide) (fun w => by kernel_rfl) (fun w => by kernel_rfl) ⟨_, Tryz.func225, by kernel_rfl, by kernel_rfl⟩ (cg := 226) (fun args w => by kernel_rfl) cfR_ok cfR_ord 85 (rows := l.map Run.row)
  (fun r hr => by obtain ⟨c, hc, rfl⟩ := List.mem_map.1 hr; have := zln (hf c hc); exact ⟨c, rfl, by omega, by omega⟩) (by simp; omega)
 simp only [List.length_map] at h;refine ⟨h.1, fun g w vs h1 h2 h3 => (h.2 g w vs h1 h2 h3).mono fun e w' ⟨v, g', hp', r, he, ⟨rows', hp, hs, h4, h5⟩, k⟩ => ⟨v, g', hp', r, he, ?_, k⟩⟩;have key : ∀ rows : List (List D), (∀ x ∈ rows, ∃ c : Run, x = c.row) -> ∃ m : List Run, rows = m.map Run.row := fun rows hr => rows_of hr;obtain ⟨l', rfl⟩ := key rows' fun x hx => by
  have := hp.subset hx;obtain ⟨c, _, rfl⟩ := List.mem_map.1 this;exact ⟨c, rfl⟩
 refine ⟨l', ?_, ?_, h4, h5⟩
 ·have hinj : ∀ a b : Run, a.row = b.row -> a = b := fun a b h => by cases a; cases b; simp only [Run.row, List.cons.injEq, D.int.injEq, true_and, and_true] at h; rw [h.1, h.2]
  have := hp.map (fun x : List D => match x with | [.int _ a, .int _ b] => (⟨a, b⟩ : Run) | _ => ⟨0, 0⟩);rw [List.map_map, List.map_map] at this;have e : ((fun x : List D => match x with | [.int _ a, .int _ b] => (⟨a, b⟩ : Run) | _ => ⟨0, 0⟩) ∘ Run.row) = id := by funext r; rfl
  rw [e, List.map_id, List.map_id] at this;exact this
 ·rw [List.pairwise_map] at hs;refine hs.imp fun {a b} h => ?_;simp only [cfR, Run.row] at h;omega

def zjm (r : Run) : Bool := decide (r.a < r.b)
def normL (l : List Run) : List Run := zeu ((l.filter zjm).mergeSort fun p q => decide (p.a <= q.a))
theorem inR_filter (l : List Run) (x : Int) : inR (l.filter zjm) x = inR l x := by
 rw [Bool.eq_iff_iff, zai, zai];constructor
 ·rintro ⟨r, hr, h⟩; exact ⟨r, (List.mem_filter.1 hr).1, h⟩
 ·rintro ⟨r, hr, h1, h2⟩; exact ⟨r, List.mem_filter.2 ⟨hr, by simp [zjm]; omega⟩, h1, h2⟩
theorem inR_perm {l l' : List Run} (h : l'.Perm l) (x : Int) : inR l' x = inR l x := by
 rw [Bool.eq_iff_iff, zai, zai];constructor
 ·rintro ⟨r, hr, h'⟩; exact ⟨r, h.mem_iff.1 hr, h'⟩
 ·rintro ⟨r, hr, h'⟩; exact ⟨r, h.mem_iff.2 hr, h'⟩
theorem join_sorted {l l' : List Run} (hp : l'.Perm (l.filter zjm)) (hs : l'.Pairwise fun p q => p.a <= q.a) : zfn (zeu l') /\ ∀ x, inR (zeu l') x = inR l x := by
 obtain ⟨h1, h2, _⟩ := zrs _ l' rfl (fun r hr => by
  have := (List.mem_filter.1 (hp.mem_iff.1 hr)).2;simpa [zjm] using this) hs
 exact ⟨h1, fun x => by rw [h2, inR_perm hp, inR_filter]⟩
theorem norm_facts (l : List Run) : zfn (normL l) /\ ∀ x, inR (normL l) x = inR l x := by
 refine join_sorted (List.mergeSort_perm _ _) ?_;have := List.pairwise_mergeSort (le := fun p q : Run => decide (p.a <= q.a)) (fun a b c h1 h2 => by simp at *; omega) (fun a b => by simp; omega) (l.filter zjm);exact this.imp fun {a b} h => by simpa using h
theorem norm_eq {l l' : List Run} (hp : l'.Perm (l.filter zjm)) (hs : l'.Pairwise fun p q => p.a <= q.a) : zeu l' = normL l := by
 obtain ⟨h1, h2⟩ := join_sorted hp hs;obtain ⟨h3, h4⟩ := norm_facts l;exact zqe h1 h3 fun y => by rw [h2, h4]

set_option maxHeartbeats 2000000 in
theorem norm_ok (l : List Run) (hf : ∀ r ∈ l, zjn r = true) (hl : l.length <= 1000000) : PC Tryz.prog 152 [zm l] (.p (.tup [zm (normL l), .int .i64 0])) := by
 have hne := fun l' h1 h2 => @norm_eq l l' h1 h2;generalize normL l = res at *;refine pw cx Tryz.func152 Tryz.ntmps152 ?_;iterate 3 refine rg cx ?_
 refine zu (β := Nat × List Run) (fun s => ⟨30, [(3, .d (.int .i64 0)), (4, .hs 0 0 s.2.length), (7, .d (zm l)), (8, .d (.int .i64 l.length)), (9, .d (.int .i64 s.1))], [(0, some ⟨85, 2, dr (s.2.map Run.row)⟩)], 1⟩) (fun s => s.1 <= l.length /\ s.2 = (l.take s.1).filter zjm) (fun s => l.length - s.1) (0, []) ?_ ⟨Nat.zero_le _, by simp⟩ ?_
 ·refine wk [(0, none)]
 ·rintro ⟨i, Z⟩ ⟨hi, hZ⟩;simp only at hi hZ;refine Nav.imp ?_;refine rg cx ?_;refine awp_cd (decide ((i : Int) < l.length)) (fun hb => ?_) fun hb => ?_
  ·have hlt : i < l.length := by simpa using hb
   obtain ⟨r, hr⟩ := zap hlt;have e0 := wI ((i : Int) + 1);have hrf := hf r (List.mem_of_getElem? hr);have c1 := fits_ok r;rw [hrf] at c1;have hnx : (l.take (i + 1)).filter zjm = Z ++ if zjm r then [r] else [] := by
    rw [zat hr, List.filter_append, hZ]
    congr 1
    cases hx : zjm r <;> simp [hx]
   have hZl : Z.length <= 1000000 := by have := List.length_filter_le zjm (l.take i); rw [<- hZ] at this; simp at this; omega
   have hZ16 : (Z.length + 1) * 16 <= 140737488355328 := by omega
   obtain ⟨ra, rb⟩ := r;refine rx cx [] (fun K hK => by simp [push_cast, hr, Run.row]; (repeat refine ob ?_); exact hK) ?_;by_cases hab : ra < rb
   ·have hfb : zjm ⟨ra, rb⟩ = true := by simp [zjm, hab]
    rw [hfb, if_pos rfl] at hnx;have q1 : ¬ rb <= ra := by omega
    refine rx cx [] (fun K hK => by simp [push_cast, q1, Run.row]; (repeat refine ob ?_); exact hK) ?_;refine awp_cn false (by simp [push_cast, q1]) (fun hb => ?_) fun hb => ?_
    ·simp at hb
    ·refine rx cx [(1, .p (.bool true))] (fun K hK => by simp [push_cast, c1, Run.row]; (repeat refine ob ?_); exact hK) ?_;refine awp_cd false (fun hb => ?_) fun hb => ?_
     ·simp at hb
     ·refine rx cx [] (fun K hK => by simp [push_cast, hZ16, Run.row]; (repeat refine ob ?_); exact hK) ?_;refine rx cx [] (fun K hK => by simp [push_cast, e0]; (repeat refine ob ?_); exact hK) ?_;refine ⟨(i + 1, Z ++ [⟨ra, rb⟩]), ⟨hlt, hnx.symm⟩, by simp only; omega, ?_⟩;refine wq [(0, some 17)] (by simp [upT, upH, upR, upL, up, push_cast, Run.row])
   ·have hfb : zjm ⟨ra, rb⟩ = false := by simp [zjm]; omega
    rw [hfb, if_neg (by simp), List.append_nil] at hnx;have q1 : rb <= ra := by omega
    refine rx cx [] (fun K hK => by simp [push_cast, q1, Run.row]; (repeat refine ob ?_); exact hK) ?_;refine awp_cn true (by simp [push_cast, q1]) (fun hb => ?_) fun hb => ?_
    ·refine rx cx [] (fun K hK => by simp [push_cast, e0]; (repeat refine ob ?_); exact hK) ?_;refine ⟨(i + 1, Z), ⟨hlt, hnx.symm⟩, by simp only; omega, ?_⟩;refine wk [(0, some 0)]
    ·simp at hb
  ·have hge : i = l.length := by simp at hb; omega
   subst hge;rw [List.take_length] at hZ;have hZl : Z.length <= 1000000 := by have := List.length_filter_le zjm l; rw [<- hZ] at this; omega
   have hZf : ∀ r ∈ Z, zjn r = true := fun r hr => by rw [hZ] at hr; exact hf r (List.mem_filter.1 hr).1
   have d1 := sortR_pxe Z hZf hZl;refine zjs cx [] (l := [_, _]) (pre := [_]) (post := []) rfl rfl rfl rfl 0 ⟨[(0, 0)], [.hs 0 0 Z.length, .d (.fn (.func 226) [])], [(0, ⟨85, 2, dr (Z.map Run.row)⟩)], [(0, 0)], none, [], .any⟩ (srtOut Z) [] fun K hK => ?_;simp [push_cast, zix, obE, zko];refine ⟨d1, ?_⟩;rintro hp' r ⟨l', hp, hs, rfl, rfl⟩;simp [push_cast];refine nx hK ?_; clear hK K;have hpl := hp.length_eq;have e := hne l' (by rw [<- hZ]; exact hp) hs;have c2 := join_ok l' (by omega);rw [e] at c2;rw [<- hpl];have ht : List.take l'.length (l'.map Run.row) = l'.map Run.row := List.take_of_length_le (by simp);refine zaq 0 (l'.map Run.row) rfl (by simp [push_cast, ht]) fun K hK => ?_;simp [push_cast, St.fz, fzT, fzH, fzO, fz, fzL, fzR, zbx, zbo, zbn, zbm, ht];refine nx hK ?_; clear hK K;refine rx cx [(1, .p (zm res))] (fun K hK => by simp [push_cast, c2]; (repeat refine ob ?_); exact hK) ?_;simp [push_cast]
end Go.Proofs.YtdddknniooimmaaGreat

namespace Go.Abs
variable [Flag]
open Go.RowKit

def retE (ty : TypeId -> Option TI) (rs : List ResultVar) (n : Nat) (pin : List (Nat × Nat)) (Out : List (Nat × Ob) -> AV -> Prop) (Ls : Nat -> Loc) (e : Exit) (s : St) : Prop := ∃ hp' r, Out hp' r /\ retX ty rs n pin hp' r Ls e s
theorem pxe_of_awp {P : Program} {ty : TypeId -> Option TI} (hc : Ctx P ty) {f : FuncId} {fn : Func} {c : Code} {avs : List AV} {hp : List (Nat × Ob)} {pin : List (Nat × Nat)} {Out : List (Nat × Ob) -> AV -> Prop} (nxt : Nat)
  (hf : P.funcs[f]? = some fn) (hb : fn.body = some c) (hname : (fn.name == "runtime.NumGoroutine") = false) (hn : avs.length <= fn.ntmps)
  (hids : (hp.all fun x => Nat.blt x.1 nxt) = true) (hpin : (pin.all fun x => (find hp x.1).isSome) = true)
  (h : ∀ Ls : Nat -> Loc, AWp P c (retE ty fn.results.toList fn.ntmps pin Out Ls) (zhm fn.ntmps avs pin Ls hp nxt)) : PXE P f avs hp pin Out := by
 refine ⟨⟨fn, hf, hname, by rw [hb]; rfl⟩, fun g w vs hH hu hd => ?_⟩;have hl := hd.length
 let Ls : Nat -> Loc := fun i => (g.loc i).getD ⟨0, 0, 0, false, false⟩
 have hpin' : ∀ i j, (i, j) ∈ pin -> g.used i /\ g.loc i = some (Ls i) := fun i j hij => by
  have := List.all_eq_true.1 hpin (i, j) hij;obtain ⟨o, ho⟩ := Option.isSome_iff_exists.1 this;obtain ⟨L, hL, _⟩ := hH.own i o ho;exact ⟨(hH.live i L hL).1, by simp [Ls, hL]⟩
 have hrel : zcn (zhm fn.ntmps avs pin Ls hp nxt) g { tmps := vs.toArray ++ Array.replicate (fn.ntmps - vs.toArray.size) undef, defers := [] } w := by
  refine ⟨rfl, by simp only [Array.size_append, List.size_toArray, Array.size_replicate, zhm]; omega, fun t => ?_, fun id hid => ?_, ?_⟩
  ·simp only [St.get, zhm, zrw];by_cases e : 0 <= t /\ t < 0 + avs.length
   ·rw [if_pos e];obtain ⟨d, hdt⟩ : ∃ d, avs[t]? = some d := ⟨avs[t]'(by omega), List.getElem?_eq_getElem _⟩
    obtain ⟨v, hv, hr⟩ := hd.get t d hdt;simp only [Nat.sub_zero, hdt, Option.getD_some];have hlt : t < vs.length := (List.getElem?_eq_some_iff.1 hv).1;have : (vs.toArray ++ Array.replicate (fn.ntmps - vs.toArray.size) undef)[t]? = some v := by
     rw [Array.getElem?_append_left (by simpa using hlt)];simpa using hv
    simp only [Array.getD_eq_getD_getElem?, this, Option.getD_some];exact hr
   ·rw [if_neg e];cases hf' : find (zto fn.ntmps Ls pin) t with
    | none => simp [zi]
    | some v =>
     obtain ⟨i, j, hij, rfl⟩ := zuh hf';simp only [Option.getD_some, zi];obtain ⟨h1, h2⟩ := hpin' i j hij;exact ⟨h1, fun M hM => by rw [h2] at hM; exact (Option.some.inj hM).symm⟩
  ·have h1 := hu id hid;obtain ⟨o, ho⟩ := Option.isSome_iff_exists.1 h1;have hk := zhs ho;obtain ⟨x, hx, rfl⟩ := List.mem_map.1 hk;exact Nat.le_of_ble_eq_true (List.all_eq_true.1 hids x hx)
  ·have : (zhm fn.ntmps avs pin Ls hp nxt).obj = zfy hp := by
    funext id
    simp only [St.obj, zhm, zvn, zfy];cases find hp id <;> rfl
   rw [this];exact hH
 refine calls_of_wp hf hb (wp_mono (h Ls _ _ w hrel) fun e a' w' ⟨s', g', h1, h2, h3⟩ => ?_);have done : ∀ hp' r, Out hp' r -> (∃ ρ l, zgl ty s' fn.results.toList = some l /\ zen ρ [r] [zhp l] /\ zka s'.obj ρ hp' /\ zdg (ρ.map (·.2)) = true /\ ρ.map (·.1) = hp'.map (·.1) /\ zjz s' ρ fn.ntmps Ls pin) ->
   a'.defers = [] /\ ∃ v, (results fn a'.tmps).run P w' = .ok v w' /\ ∃ v' g2 hp' r, Ending.returned v = .returned v' /\ Out hp' r /\ zah g2 (zfy hp') w' /\ zi g2 w' r v' /\ zam g w g2 w' /\ ∀ i j, (i, j) ∈ pin -> g2.loc j = g.loc i := by
  rintro hp' r hO ⟨ρ, l, hl, hr, hhp, hρ, hdom, hpo⟩;obtain ⟨v, hv, hrep⟩ := zmd hc h1 hl;have hsame : ∀ b, (via g' ρ hp').owns b -> g'.owns b := fun b ⟨i, L, hL, hvv, hb⟩ => by
   obtain ⟨x, _, q⟩ := zjd hL;exact ⟨x, L, q, hvv, hb⟩
  refine ⟨h1.defers, v, hv, v, via g' ρ hp', hp', r, rfl, hO, zsk h1.heap hhp (zes hρ) hdom, ?_, ⟨h2.os, h2.tape, h2.output, h2.size, h2.block, fun b hb => h2.own b (hsame b hb), h2.ro, h2.ro'⟩, fun i j hij => ?_⟩
  ·have := zii (g := g') (g' := via g' ρ hp') (w := w') (fun i x hi => zlb hdom hi) (fun i x hi => zhk hi) (fun _ hb => hb) hr (vs := [v]) (by simp only [zk]; exact ⟨v, [], rfl, hrep, rfl⟩);exact zcr this
  ·obtain ⟨y, q1, q2, q3⟩ := ztx hpo i j hij;have hty := h1.tmp (fn.ntmps + i);rw [q2] at hty;simp only [zi] at hty;obtain ⟨o, ho⟩ := Option.isSome_iff_exists.1 q3;obtain ⟨M, hM, _⟩ := h1.heap.own y o ho;rw [zhk q1, hM, hty.2 M hM, (hpin' i j hij).2]
 cases e with
 | normal =>
  obtain ⟨hp', r, hO, hx⟩ := h3;exact done hp' r hO (zsq hx)
 | ret =>
  obtain ⟨hp', r, hO, hx⟩ := h3;exact done hp' r hO (zsq hx)
 | _ =>
  obtain ⟨hp', r, hO, hx⟩ := h3;exact hx.elim

end Go.Abs

namespace Go.Proofs.YtdddknniooimmaaGreat
open Go.Abs

def edE (a b : zf) : List Edg := if a.y < b.y then [⟨a.x, a.y, b.x, b.y, 1⟩] else if b.y < a.y then [⟨b.x, b.y, a.x, a.y, -1⟩] else []
def edAt (P : List zf) (k : Nat) : List Edg := match P[k]?, P[(k + 1) % P.length]? with
 | some a, some b => edE a b
 | _, _ => []
def edP (P : List zf) : List Edg := (List.range P.length).flatMap (edAt P)
def edL (l : List (List zf)) : List Edg := l.flatMap edP
theorem edAt_some {P : List zf} {k : Nat} {a b : zf} (ha : P[k]? = some a) (hb : P[(k + 1) % P.length]? = some b) : edAt P k = edE a b := by simp only [edAt, ha, hb]
theorem edE_len (a b : zf) : (edE a b).length <= 1 := by unfold edE; split <;> (try split) <;> simp
theorem edAt_len (P : List zf) (k : Nat) : (edAt P k).length <= 1 := by unfold edAt; split <;> simp [edE_len]
theorem flat_c1 {α β : Type} (f : α -> List β) (h : ∀ a, (f a).length <= 1) : ∀ l : List α, (l.flatMap f).length <= l.length
 | [] => by simp
 | a :: l => by
  have h1 := h a;have h2 := flat_c1 f h l;rw [List.flatMap_cons, List.length_append, List.length_cons];omega
theorem edr_len (P : List zf) (k : Nat) : ((List.range k).flatMap (edAt P)).length <= k := by
 have := flat_c1 (edAt P) (fun j => edAt_len P j) (List.range k)
 rwa [List.length_range] at this
theorem edL_len : ∀ l : List (List zf), (edL l).length <= zlx l
 | [] => by simp [edL]
 | P :: l => by
  have h1 := edL_len l;have h2 := edr_len P P.length;simp only [edL, List.flatMap_cons, List.length_append, zlx, List.map_cons, List.sum_cons, edP] at *;omega
theorem rng_fm {β : Type} (f : Nat -> List β) (k : Nat) : (List.range (k + 1)).flatMap f = (List.range k).flatMap f ++ f k := by
 rw [List.range_succ]; simp
theorem tk_fm {α β : Type} (f : α -> List β) {l : List α} {i : Nat} {x : α} (h : l[i]? = some x) : (l.take (i + 1)).flatMap f = (l.take i).flatMap f ++ f x := by
 rw [zat h]; simp

def cfE : List D -> List D -> Int
 | _ :: .int _ a :: _, _ :: .int _ b :: _ => a - b
 | _, _ => 0
def VE (r : List D) : Prop := ∃ u : Edg, r = u.row /\ -65536 <= u.ly /\ u.ly <= 65536
theorem cmpE_pc (a b : Edg) (ha : -65536 <= a.ly /\ a.ly <= 65536) (hb0 : -65536 <= b.ly /\ b.ly <= 65536) : PC Tryz.prog 159 [.agg a.row, .agg b.row] (.p (.int .i64 (a.ly - b.ly))) := by
 have e := wI (a.ly - b.ly);refine pw cx Tryz.func159 Tryz.ntmps159 ?_;refine rg cx ?_;refine rx cx [] (fun K hK => by simp [push_cast, e]; (repeat refine ob ?_); exact hK) ?_;simp [push_cast]
theorem cfE_ok : zsj Tryz.prog 159 VE cfE := by
 refine ztc ?_;rintro _ _ ⟨a, rfl, ha⟩ ⟨b, rfl, hb⟩;exact cmpE_pc a b ha hb
theorem cfE_ord : zqg VE cfE where
 irrefl := by rintro _ ⟨a, rfl, _⟩; simp [cfE]
 trans := by
  rintro _ _ _ ⟨a, rfl, _⟩ ⟨b, rfl, _⟩ ⟨c, rfl, _⟩;simp only [cfE]; omega
 ntrans := by
  rintro _ _ _ ⟨a, rfl, _⟩ ⟨b, rfl, _⟩ ⟨c, rfl, _⟩;simp only [cfE]; omega
def sortEd_ren : Go.Shelf.Ren := ⟨fun | 6 => 158 | 15 => 133 | 14 => 229 | 28 => 191 | 29 => 192 | 20 => 258 | 21 => 259 | 22 => 260 | 23 => 261 | 24 => 262 | 25 => 263 | 26 => 264 | 27 => 265 | 46 => 289 | 47 => 234 | 48 => 235 | 49 => 290 | 50 => 291 | 57 => 299 | n => n, fun | 22 => 146 | 24 => 193 | 25 => 195 | 3 => 3 | 39 => 174 | 0 => 0 | 53 => 228 | 55 => 230 | 4 => 4 | 46 => 222 | 45 => 221 | 50 => 204 | 5 => 5 | 9 => 9 | 66 => 256 | 70 => 260 | 76 => 284 | 77 => 148 | n => n, fun n => n⟩
theorem sortEd_lays : SlLaysF0.n6 Tryz.prog sortEd_ren where
 mixed := by kernel_rfl
 f6 := ⟨Tryz.f158.name, by kernel_rfl, Tryz.func158.trans (congrArg some (by kernel_rfl))⟩
 f14 := ⟨Tryz.f229.name, by kernel_rfl, Tryz.func229.trans (congrArg some (by kernel_rfl))⟩
 f15 := Tryz.func133.trans (congrArg some (by kernel_rfl))
 f20 := ⟨Tryz.f258.name, by kernel_rfl, Tryz.func258.trans (congrArg some (by kernel_rfl))⟩
 f21 := ⟨Tryz.f259.name, by kernel_rfl, Tryz.func259.trans (congrArg some (by kernel_rfl))⟩
 f22 := ⟨Tryz.f260.name, by kernel_rfl, Tryz.func260.trans (congrArg some (by kernel_rfl))⟩
 f23 := ⟨Tryz.f261.name, by kernel_rfl, Tryz.func261.trans (congrArg some (by kernel_rfl))⟩
 f24 := ⟨Tryz.f262.name, by kernel_rfl, Tryz.func262.trans (congrArg some (by kernel_rfl))⟩
 f25 := ⟨Tryz.f263.name, by kernel_rfl, Tryz.func263.trans (congrArg some (by kernel_rfl))⟩
 f26 := ⟨Tryz.f264.name, by kernel_rfl, Tryz.func264.trans (congrArg some (by kernel_rfl))⟩
 f27 := ⟨Tryz.f265.name, by kernel_rfl, Tryz.func265.trans (congrArg some (by kernel_rfl))⟩
 f28 := Tryz.func191.trans (congrArg some (by kernel_rfl))
 f29 := Tryz.func192.trans (congrArg some (by kernel_rfl))
 f46 := ⟨Tryz.f289.name, by kernel_rfl, Tryz.func289.trans (congrArg some (by kernel_rfl))⟩
 f47 := Tryz.func234.trans (congrArg some (by kernel_rfl))
 f48 := Tryz.func235.trans (congrArg some (by kernel_rfl))
 f49 := ⟨Tryz.f290.name, by kernel_rfl, Tryz.func290.trans (congrArg some (by kernel_rfl))⟩
 f50 := ⟨Tryz.f291.name, by kernel_rfl, Tryz.func291.trans (congrArg some (by kernel_rfl))⟩
 f57 := ⟨Tryz.f299.name, by kernel_rfl, Tryz.func299.trans (congrArg some (by kernel_rfl))⟩
 t0 := Tryz.underlying0
 a0 := Tryz.isAgg0
 z0 := Tryz.sizeOf0
 v0 := Tryz.zeroValue0
 t3 := Tryz.underlying3
 a3 := Tryz.isAgg3
 z3 := Tryz.sizeOf3
 v3 := Tryz.zeroValue3
 t4 := Tryz.underlying4
 a4 := Tryz.isAgg4
 z4 := Tryz.sizeOf4
 v4 := Tryz.zeroValue4
 t5 := Tryz.underlying5
 a5 := Tryz.isAgg5
 z5 := Tryz.sizeOf5
 v5 := Tryz.zeroValue5
 t9 := Tryz.underlying9
 a9 := Tryz.isAgg9
 z9 := Tryz.sizeOf9
 v9 := Tryz.zeroValue9
 t22 := Tryz.underlying146
 a22 := Tryz.isAgg146
 z22 := Tryz.sizeOf146
 v22 := Tryz.zeroValue146
 t25 := Tryz.underlying195
 a25 := Tryz.isAgg195
 z25 := Tryz.sizeOf195
 v25 := Tryz.zeroValue195
 t39 := Tryz.underlying174
 a39 := Tryz.isAgg174
 z39 := Tryz.sizeOf174
 v39 := Tryz.zeroValue174
 t45 := Tryz.underlying221
 a45 := Tryz.isAgg221
 z45 := Tryz.sizeOf221
 v45 := Tryz.zeroValue221
 t46 := Tryz.underlying222
 a46 := Tryz.isAgg222
 z46 := Tryz.sizeOf222
 v46 := Tryz.zeroValue222
 t50 := Tryz.underlying204
 a50 := Tryz.isAgg204
 z50 := Tryz.sizeOf204
 v50 := Tryz.zeroValue204
 t53 := Tryz.underlying228
 a53 := Tryz.isAgg228
 z53 := Tryz.sizeOf228
 v53 := Tryz.zeroValue228
 t55 := Tryz.underlying230
 a55 := Tryz.isAgg230
 z55 := Tryz.sizeOf230
 v55 := Tryz.zeroValue230
 t66 := Tryz.underlying256
 a66 := Tryz.isAgg256
 z66 := Tryz.sizeOf256
 v66 := Tryz.zeroValue256
 t70 := Tryz.underlying260
 a70 := Tryz.isAgg260
 z70 := Tryz.sizeOf260
 v70 := Tryz.zeroValue260
 t76 := Tryz.underlying284
 a76 := Tryz.isAgg284
 z76 := Tryz.sizeOf284
 v76 := Tryz.zeroValue284
 t77 := Tryz.underlying148
 a77 := Tryz.isAgg148
 z77 := Tryz.sizeOf148
 v77 := Tryz.zeroValue148
def srtE (l : List Edg) : List (Nat × Ob) -> AV -> Prop := fun hp' r => ∃ l' : List Edg, l'.Perm l /\ (l'.Pairwise fun p q => p.ly <= q.ly) /\ hp' = [(0, ⟨193, 5, dr (l'.map Edg.row)⟩)] /\ r = .tup []
theorem rowsE_of {rows : List (List D)} (hr : ∀ x ∈ rows, ∃ c : Edg, x = c.row) : ∃ m : List Edg, rows = m.map Edg.row := by
 induction rows with
 | nil => exact ⟨[], rfl⟩
 | cons a l ih =>
  obtain ⟨c, rfl⟩ := hr a (by simp);obtain ⟨m, rfl⟩ := ih fun x hx => hr x (by simp [hx]);exact ⟨c :: m, rfl⟩
theorem sortE_pxe (l : List Edg) (hf : ∀ r ∈ l, -65536 <= r.ly /\ r.ly <= 65536) (hl : l.length <= 1000000) : PXE Tryz.prog 158 [.hs 0 0 l.length, .d (.fn (.func 159) [])] [(0, ⟨193, 5, dr (l.map Edg.row)⟩)] [(0, 0)] (srtE l) := by
 have h := zmm (P := Tryz.prog) sortEd_lays (k := 5) (by decide) (fun w => by kernel_rfl) (fun w => by kernel_rfl) ⟨_, Tryz.func158, by kernel_rfl, by kernel_rfl⟩ (cg := 159) (fun args w => by kernel_rfl) cfE_ok cfE_ord 193 (rows := l.map Edg.row)
  (fun r hr => by obtain ⟨c, hc, rfl⟩ := List.mem_map.1 hr; exact ⟨c, rfl, hf c hc⟩) (by simp; omega)
 simp only [List.length_map] at h;refine ⟨h.1, fun g w vs h1 h2 h3 => (h.2 g w vs h1 h2 h3).mono fun e w' ⟨v, g', hp', r, he, ⟨rows', hp, hs, h4, h5⟩, k⟩ => ⟨v, g', hp', r, he, ?_, k⟩⟩;obtain ⟨l', rfl⟩ := rowsE_of (rows := rows') fun x hx => by
  have := hp.subset hx;obtain ⟨c, _, rfl⟩ := List.mem_map.1 this;exact ⟨c, rfl⟩
 refine ⟨l', ?_, ?_, h4, h5⟩
 ·have := hp.map (fun x : List D => match x with | [.int _ a, .int _ b, .int _ c, .int _ d, .int _ e] => (⟨a, b, c, d, e⟩ : Edg) | _ => ⟨0, 0, 0, 0, 0⟩);rw [List.map_map, List.map_map] at this;have e : ((fun x : List D => match x with | [.int _ a, .int _ b, .int _ c, .int _ d, .int _ e] => (⟨a, b, c, d, e⟩ : Edg) | _ => ⟨0, 0, 0, 0, 0⟩) ∘ Edg.row) = id := by funext r; rfl
  rw [e, List.map_id, List.map_id] at this;exact this
 ·rw [List.pairwise_map] at hs;refine hs.imp fun {a b} h => ?_;simp only [cfE] at h;omega
theorem edE_bd {a b : zf} (ha : nearU a) (hb : nearU b) : ∀ u ∈ edE a b, -65536 <= u.ly /\ u.ly <= 65536 := by
 intro u hu;unfold edE at hu;split at hu
 ·simp at hu; subst hu; exact ha.2
 ·split at hu
  ·simp at hu; subst hu; exact hb.2
  ·simp at hu
def edOut (l : List (List zf)) : List (Nat × Ob) -> AV -> Prop := fun hp' r => ∃ E : List Edg, E.Perm (edL l) /\ (E.Pairwise fun p q => p.ly <= q.ly) /\ hp' = [(0, ⟨193, 5, dr (E.map Edg.row)⟩)] /\ r = .hs 0 0 E.length
set_option maxHeartbeats 16000000 in
theorem edges_pxe (l : List (List zf)) (hl : l.length <= 100000) (hs : zlx l <= 16384) (hn : ∀ P ∈ l, ∀ p ∈ P, nearU p) : PXE Tryz.prog 109 [.d (zkh l)] [] [] (edOut l) := by
 have hpre : ∀ i, (edL (l.take i)).length <= 16384 := fun i => by
  have h1 := edL_len (l.take i);have h2 := psum_le l i;omega
 have hPs : ∀ (i : Nat) (P : List zf), l[i]? = some P -> P.length <= 16384 := fun i P hP => by
  have h1 := psum_take hP;have h2 := psum_le l (i + 1);omega
 refine pxe_of_awp cx (fn := Tryz.f109) (c := _) 0 Tryz.func109 rfl rfl (lB rfl) rfl rfl fun Ls => ?_;rw [Tryz.ntmps109]; refine Nav.imp ?_;iterate 3 refine rg cx ?_
 refine zu (β := Nat × List Edg) (fun s => ⟨62, [(3, .hs 0 0 s.2.length), (9, .d (zkh l)), (10, .d (.int .i64 l.length)), (11, .d (.int .i64 s.1))], [(0, some ⟨193, 5, dr (s.2.map Edg.row)⟩)], 1⟩) (fun s => s.1 <= l.length /\ s.2 = edL (l.take s.1) /\ ∀ u ∈ s.2, -65536 <= u.ly /\ u.ly <= 65536) (fun s => l.length - s.1) (0, []) ?_ ⟨Nat.zero_le _, by simp [edL], by simp⟩ ?_
 ·refine wk [(0, none)]
 ·rintro ⟨i, U⟩ ⟨hi, hU, hbd⟩;simp only at hi hU hbd;refine Nav.imp ?_;refine rg cx ?_;refine awp_cd (decide ((i : Int) < l.length)) (fun hb => ?_) fun hb => ?_
  ·have hlt : i < l.length := by simpa using hb
   obtain ⟨P, hP⟩ := zap hlt;have hPl := hPs i P hP;have hnP := hn P (List.mem_of_getElem? hP);have e0 := wI ((i : Int) + 1);have hU2 : edL (l.take (i + 1)) = edL (l.take i) ++ edP P := tk_fm edP hP;have hUk := hpre i;rw [<- hU] at hUk;refine rx cx [] (fun K hK => by simp [push_cast, hP]; (repeat refine ob ?_); exact hK) ?_;refine rg cx ?_;refine zu (β := Nat × List Edg) (fun s => ⟨62, [(3, .hs 0 0 s.2.length), (9, .d (zkh l)), (10, .d (.int .i64 l.length)), (11, .d (.int .i64 i)), (5, .ptr 1 0 0), (16, .d (zaj P)), (17, .d (.int .i64 P.length)), (18, .d (.int .i64 s.1))], [(0, some ⟨193, 5, dr (s.2.map Edg.row)⟩), (1, some ⟨55, 1, [[.d (zaj P)]]⟩)], 2⟩) (fun s => s.1 <= P.length /\ s.2 = U ++ (List.range s.1).flatMap (edAt P) /\ ∀ u ∈ s.2, -65536 <= u.ly /\ u.ly <= 65536) (fun s => P.length - s.1) (0, U) ?_ ⟨Nat.zero_le _, by simp, hbd⟩ ?_
   ·refine wk [(0, some 0), (1, some 4)]
   ·rintro ⟨k, V⟩ ⟨hk, hV, hVb⟩;simp only at hk hV hVb;refine Nav.imp ?_;refine rg cx ?_;refine awp_cd (decide ((k : Int) < P.length)) (fun hb => ?_) fun hb => ?_
    ·have hkl : k < P.length := by simpa using hb
     obtain ⟨a, ha⟩ := zap hkl;obtain ⟨b, hb3⟩ := zap (l := P) (k := (k + 1) % P.length) (Nat.mod_lt _ (by omega));have eA := edAt_some ha hb3;have na := hnP a (List.mem_of_getElem? ha);have nb := hnP b (List.mem_of_getElem? hb3);have hVb2 : ∀ u ∈ V ++ edE a b, -65536 <= u.ly /\ u.ly <= 65536 := fun u hu => by
      rcases List.mem_append.1 hu with h | h
      ·exact hVb u h
      ·exact edE_bd na nb u h
     have e1 := wI ((k : Int) + 1);have e3 : ((k : Int) + 1).tmod (P.length : Int) = (((k + 1) % P.length : Nat) : Int) := (Int.ofNat_tmod _ _).symm;have e4 : ¬ P = [] := by intro e; rw [e] at hkl; simp at hkl
     have hn2 := rng_fm (edAt P) k;rw [eA] at hn2;have hV2 : V ++ edE a b = U ++ (List.range (k + 1)).flatMap (edAt P) := by rw [hn2, hV, List.append_assoc]
     have hVl : V.length <= 40000 := by
      rw [hV, List.length_append];have := edr_len P k;omega
     have h40 : (V.length + 1) * 40 <= 140737488355328 := by omega
     generalize (k + 1) % P.length = j at *;refine rx cx [] (fun K hK => by simp [push_cast, ha]; (repeat refine ob ?_); exact hK) ?_;refine rd cx mixed [] (fun K hK => by simp [push_cast, hb3, e1, e3, e4]; (repeat refine ob ?_); exact hK) ?_;by_cases g3 : a.y < b.y
     ·have hed : edE a b = [⟨a.x, a.y, b.x, b.y, 1⟩] := by unfold edE; rw [if_pos g3]
      rw [hed] at hV2 hVb2;refine rg cx ?_;refine awp_cn true (by simp [push_cast, g3]) (fun hb => ?_) fun hb => ?_
      ·refine rx cx [] (fun K hK => by simp [push_cast, h40]; (repeat refine ob ?_); exact hK) ?_;refine rx cx [] (fun K hK => by simp [push_cast, e1]; (repeat refine ob ?_); exact hK) ?_;refine ⟨(k + 1, V ++ [⟨a.x, a.y, b.x, b.y, 1⟩]), ⟨hkl, hV2, hVb2⟩, by simp only; omega, ?_⟩;refine wk [(0, some 32), (1, some 1)]
      ·simp at hb
     ·by_cases g4 : b.y < a.y
      ·have hed : edE a b = [⟨b.x, b.y, a.x, a.y, -1⟩] := by unfold edE; rw [if_neg g3, if_pos g4]
       rw [hed] at hV2 hVb2;refine rg cx ?_;refine awp_cn false (by simp [push_cast, g3]) (fun hb => ?_) fun hb => ?_
       ·simp at hb
       ·refine rg cx ?_;refine awp_cn true (by simp [push_cast, g4]) (fun hb => ?_) fun hb => ?_
        ·refine rx cx [] (fun K hK => by simp [push_cast, h40]; (repeat refine ob ?_); exact hK) ?_;refine rx cx [] (fun K hK => by simp [push_cast, e1]; (repeat refine ob ?_); exact hK) ?_;refine ⟨(k + 1, V ++ [⟨b.x, b.y, a.x, a.y, -1⟩]), ⟨hkl, hV2, hVb2⟩, by simp only; omega, ?_⟩;refine wk [(0, some 38), (1, some 1)]
        ·simp at hb
      ·have hed : edE a b = [] := by unfold edE; rw [if_neg g3, if_neg g4]
       rw [hed, List.append_nil] at hV2 hVb2;refine rg cx ?_;refine awp_cn false (by simp [push_cast, g3]) (fun hb => ?_) fun hb => ?_
       ·simp at hb
       ·refine rg cx ?_;refine awp_cn false (by simp [push_cast, g4]) (fun hb => ?_) fun hb => ?_
        ·simp at hb
        ·refine rx cx [] (fun K hK => by simp [push_cast, e1]; (repeat refine ob ?_); exact hK) ?_;refine ⟨(k + 1, V), ⟨hkl, hV2, hVb2⟩, by simp only; omega, ?_⟩;refine wk [(0, some 0), (1, some 1)]
    ·have hke : k = P.length := by simp at hb; omega
     subst hke;have hV2 : V = U ++ edP P := hV;refine rx cx [] (fun K hK => by simp [push_cast, e0]; (repeat refine ob ?_); exact hK) ?_;refine ⟨(i + 1, V), ⟨hlt, by rw [hU2, hV2, hU], hVb⟩, by simp only; omega, ?_⟩;refine wk [(0, some 0)]
  ·have hie : i = l.length := by simp at hb; omega
   subst hie;rw [List.take_length] at hU;have hUl := hpre l.length;rw [List.take_length, <- hU] at hUl;have d1 := sortE_pxe U hbd (by omega);refine zjs cx [] (l := [_, _]) (pre := [_]) (post := []) rfl rfl rfl rfl 0 ⟨[(0, 0)], [.hs 0 0 U.length, .d (.fn (.func 159) [])], [(0, ⟨193, 5, dr (U.map Edg.row)⟩)], [(0, 0)], none, [], .any⟩ (srtE U) [] fun K hK => ?_;simp [push_cast, zix, obE, zko];refine ⟨d1, ?_⟩;rintro hp' r ⟨U', hp, hs, rfl, rfl⟩;simp [push_cast];refine nx hK ?_; clear hK K;have hpl := hp.length_eq;refine rg cx ?_;refine ⟨_, _, ⟨U', by rw [<- hU]; exact hp, hs, rfl, rfl⟩, ?_⟩;first | refine rx_r [(0, 0)] ?_ | refine rx_n [(0, 0)] ?_
   simp [push_cast, hpl];try decide

def cfS : List D -> List D -> Int
 | .int _ a :: _, .int _ b :: _ => b - a
 | _, _ => 0
def VS (r : List D) : Prop := ∃ u : Int × Int, r = zju u /\ -100000 <= u.1 /\ u.1 <= 100000
theorem cmpS_pc (a b : Int × Int) (ha : -100000 <= a.1 /\ a.1 <= 100000) (hb0 : -100000 <= b.1 /\ b.1 <= 100000) : PC Tryz.prog 164 [.agg (zju a), .agg (zju b)] (.p (.int .i64 (b.1 - a.1))) := by
 have e := wI (b.1 - a.1);refine pw cx Tryz.func164 Tryz.ntmps164 ?_;refine rg cx ?_;refine rx cx [] (fun K hK => by simp [push_cast, e]; (repeat refine ob ?_); exact hK) ?_;simp [push_cast]
theorem cfS_ok : zsj Tryz.prog 164 VS cfS := by
 refine ztc ?_;rintro _ _ ⟨a, rfl, ha⟩ ⟨b, rfl, hb⟩;exact cmpS_pc a b ha hb
theorem cfS_ord : zqg VS cfS where
 irrefl := by rintro _ ⟨a, rfl, _⟩; simp [cfS]
 trans := by
  rintro _ _ _ ⟨a, rfl, _⟩ ⟨b, rfl, _⟩ ⟨c, rfl, _⟩;simp only [cfS]; omega
 ntrans := by
  rintro _ _ _ ⟨a, rfl, _⟩ ⟨b, rfl, _⟩ ⟨c, rfl, _⟩;simp only [cfS]; omega
def sortSt_ren : Go.Shelf.Ren := ⟨fun | 6 => 163 | 15 => 133 | 14 => 230 | 28 => 191 | 29 => 192 | 20 => 266 | 21 => 267 | 22 => 268 | 23 => 269 | 24 => 270 | 25 => 271 | 26 => 272 | 27 => 273 | 46 => 292 | 47 => 234 | 48 => 235 | 49 => 293 | 50 => 294 | 57 => 300 | n => n, fun | 22 => 198 | 24 => 200 | 25 => 203 | 3 => 3 | 39 => 174 | 0 => 0 | 53 => 228 | 55 => 230 | 4 => 4 | 46 => 222 | 45 => 221 | 50 => 204 | 5 => 5 | 9 => 9 | 66 => 256 | 70 => 260 | 76 => 284 | 77 => 148 | n => n, fun n => n⟩
theorem sortSt_lays : SlLaysF0.n6 Tryz.prog sortSt_ren where
 mixed := by kernel_rfl
 f6 := ⟨Tryz.f163.name, by kernel_rfl, Tryz.func163.trans (congrArg some (by kernel_rfl))⟩
 f14 := ⟨Tryz.f230.name, by kernel_rfl, Tryz.func230.trans (congrArg some (by kernel_rfl))⟩
 f15 := Tryz.func133.trans (congrArg some (by kernel_rfl))
 f20 := ⟨Tryz.f266.name, by kernel_rfl, Tryz.func266.trans (congrArg some (by kernel_rfl))⟩
 f21 := ⟨Tryz.f267.name, by kernel_rfl, Tryz.func267.trans (congrArg some (by kernel_rfl))⟩
 f22 := ⟨Tryz.f268.name, by kernel_rfl, Tryz.func268.trans (congrArg some (by kernel_rfl))⟩
 f23 := ⟨Tryz.f269.name, by kernel_rfl, Tryz.func269.trans (congrArg some (by kernel_rfl))⟩
 f24 := ⟨Tryz.f270.name, by kernel_rfl, Tryz.func270.trans (congrArg some (by kernel_rfl))⟩
 f25 := ⟨Tryz.f271.name, by kernel_rfl, Tryz.func271.trans (congrArg some (by kernel_rfl))⟩
 f26 := ⟨Tryz.f272.name, by kernel_rfl, Tryz.func272.trans (congrArg some (by kernel_rfl))⟩
 f27 := ⟨Tryz.f273.name, by kernel_rfl, Tryz.func273.trans (congrArg some (by kernel_rfl))⟩
 f28 := Tryz.func191.trans (congrArg some (by kernel_rfl))
 f29 := Tryz.func192.trans (congrArg some (by kernel_rfl))
 f46 := ⟨Tryz.f292.name, by kernel_rfl, Tryz.func292.trans (congrArg some (by kernel_rfl))⟩
 f47 := Tryz.func234.trans (congrArg some (by kernel_rfl))
 f48 := Tryz.func235.trans (congrArg some (by kernel_rfl))
 f49 := ⟨Tryz.f293.name, by kernel_rfl, Tryz.func293.trans (congrArg some (by kernel_rfl))⟩
 f50 := ⟨Tryz.f294.name, by kernel_rfl, Tryz.func294.trans (congrArg some (by kernel_rfl))⟩
 f57 := ⟨Tryz.f300.name, by kernel_rfl, Tryz.func300.trans (congrArg some (by kernel_rfl))⟩
 t0 := Tryz.underlying0
 a0 := Tryz.isAgg0
 z0 := Tryz.sizeOf0
 v0 := Tryz.zeroValue0
 t3 := Tryz.underlying3
 a3 := Tryz.isAgg3
 z3 := Tryz.sizeOf3
 v3 := Tryz.zeroValue3
 t4 := Tryz.underlying4
 a4 := Tryz.isAgg4
 z4 := Tryz.sizeOf4
 v4 := Tryz.zeroValue4
 t5 := Tryz.underlying5
 a5 := Tryz.isAgg5
 z5 := Tryz.sizeOf5
 v5 := Tryz.zeroValue5
 t9 := Tryz.underlying9
 a9 := Tryz.isAgg9
 z9 := Tryz.sizeOf9
 v9 := Tryz.zeroValue9
 t22 := Tryz.underlying198
 a22 := Tryz.isAgg198
 z22 := Tryz.sizeOf198
 v22 := Tryz.zeroValue198
 t25 := Tryz.underlying203
 a25 := Tryz.isAgg203
 z25 := Tryz.sizeOf203
 v25 := Tryz.zeroValue203
 t39 := Tryz.underlying174
 a39 := Tryz.isAgg174
 z39 := Tryz.sizeOf174
 v39 := Tryz.zeroValue174
 t45 := Tryz.underlying221
 a45 := Tryz.isAgg221
 z45 := Tryz.sizeOf221
 v45 := Tryz.zeroValue221
 t46 := Tryz.underlying222
 a46 := Tryz.isAgg222
 z46 := Tryz.sizeOf222
 v46 := Tryz.zeroValue222
 t50 := Tryz.underlying204
 a50 := Tryz.isAgg204
 z50 := Tryz.sizeOf204
 v50 := Tryz.zeroValue204
 t53 := Tryz.underlying228
 a53 := Tryz.isAgg228
 z53 := Tryz.sizeOf228
 v53 := Tryz.zeroValue228
 t55 := Tryz.underlying230
 a55 := Tryz.isAgg230
 z55 := Tryz.sizeOf230
 v55 := Tryz.zeroValue230
 t66 := Tryz.underlying256
 a66 := Tryz.isAgg256
 z66 := Tryz.sizeOf256
 v66 := Tryz.zeroValue256
 t70 := Tryz.underlying260
 a70 := Tryz.isAgg260
 z70 := Tryz.sizeOf260
 v70 := Tryz.zeroValue260
 t76 := Tryz.underlying284
 a76 := Tryz.isAgg284
 z76 := Tryz.sizeOf284
 v76 := Tryz.zeroValue284
 t77 := Tryz.underlying148
 a77 := Tryz.isAgg148
 z77 := Tryz.sizeOf148
 v77 := Tryz.zeroValue148
def srtS (l : List (Int × Int)) : List (Nat × Ob) -> AV -> Prop := fun hp' r => ∃ l' : List (Int × Int), l'.Perm l /\ (l'.Pairwise fun p q => q.1 <= p.1) /\ hp' = [(0, ⟨200, 2, dr (l'.map zju)⟩)] /\ r = .tup []
theorem rowsS_of {rows : List (List D)} (hr : ∀ x ∈ rows, ∃ c : Int × Int, x = zju c) : ∃ m : List (Int × Int), rows = m.map zju := by
 induction rows with
 | nil => exact ⟨[], rfl⟩
 | cons a l ih =>
  obtain ⟨c, rfl⟩ := hr a (by simp);obtain ⟨m, rfl⟩ := ih fun x hx => hr x (by simp [hx]);exact ⟨c :: m, rfl⟩
theorem sortS_pxe (l : List (Int × Int)) (hf : ∀ r ∈ l, -100000 <= r.1 /\ r.1 <= 100000) (hl : l.length <= 1000000) : PXE Tryz.prog 163 [.hs 0 0 l.length, .d (.fn (.func 164) [])] [(0, ⟨200, 2, dr (l.map zju)⟩)] [(0, 0)] (srtS l) := by
 have h := zmm (P := Tryz.prog) sortSt_lays (k := 2) (by decide) (fun w => by kernel_rfl) (fun w => by kernel_rfl) ⟨_, Tryz.func163, by kernel_rfl, by kernel_rfl⟩ (cg := 164) (fun args w => by kernel_rfl) cfS_ok cfS_ord 200 (rows := l.map zju)
  (fun r hr => by obtain ⟨c, hc, rfl⟩ := List.mem_map.1 hr; exact ⟨c, rfl, hf c hc⟩) (by simp; omega)
 simp only [List.length_map] at h;refine ⟨h.1, fun g w vs h1 h2 h3 => (h.2 g w vs h1 h2 h3).mono fun e w' ⟨v, g', hp', r, he, ⟨rows', hp, hs, h4, h5⟩, k⟩ => ⟨v, g', hp', r, he, ?_, k⟩⟩;obtain ⟨l', rfl⟩ := rowsS_of (rows := rows') fun x hx => by
  have := hp.subset hx;obtain ⟨c, _, rfl⟩ := List.mem_map.1 this;exact ⟨c, rfl⟩
 refine ⟨l', ?_, ?_, h4, h5⟩
 ·have := hp.map (fun x : List D => match x with | [.int _ a, .int _ b] => ((a, b) : Int × Int) | _ => (0, 0));rw [List.map_map, List.map_map] at this;have e : ((fun x : List D => match x with | [.int _ a, .int _ b] => ((a, b) : Int × Int) | _ => (0, 0)) ∘ zju) = id := by funext r; rfl
  rw [e, List.map_id, List.map_id] at this;exact this
 ·rw [List.pairwise_map] at hs;refine hs.imp fun {a b} h => ?_;simp only [cfS] at h;omega
theorem two_sorted {l : List (Int × Int)} {a b : Int × Int} (h : l.Perm [a, b]) (hs : l.Pairwise fun p q => q.1 <= p.1) (hab : b.1 < a.1) : l = [a, b] := by
 have hlen := h.length_eq
 match l, hlen with
 | [x, y], _ =>
  have hx : x = a \/ x = b := by have := h.subset (show x ∈ [x, y] by simp); simpa using this
  have hb : b ∈ [x, y] := h.symm.subset (by simp);have ha : a ∈ [x, y] := h.symm.subset (by simp);have hne : a ≠ b := fun e => by rw [e] at hab; omega
  have hxy : y.1 <= x.1 := by
   have := (List.pairwise_cons.1 hs).1 y (by simp);exact this
  rcases hx with rfl | rfl
  ·have : y = b := by
    rcases List.mem_cons.1 hb with e | e
    ·exact absurd e.symm hne
    ·exact (List.mem_singleton.1 e).symm
   rw [this]
  ·have : y = a := by
    rcases List.mem_cons.1 ha with e | e
    ·exact absurd e hne
    ·exact (List.mem_singleton.1 e).symm
   rw [this] at hxy;omega
def e4 : Edg := ⟨160, 80, 160, 200, 1⟩
def e1 : Edg := ⟨40, 80, 40, 200, -1⟩
def stE (e : Edg) : Int × Int := (if e.lx = 160 then 4 else 1, e.s)
def is2 (E : List Edg) : Prop := E = [e4, e1] \/ E = [e1, e4]
theorem is2_mem {E : List Edg} (h : is2 E) : ∀ e ∈ E, e = e4 \/ e = e1 := by
 rcases h with rfl | rfl <;> (intro e he; simp at he; rcases he with h | h <;> simp [h])
theorem cross_ok (e : Edg) (h : e = e4 \/ e = e1) (cy : Int) (hc : 80 <= cy /\ cy <= 200) : PC Tryz.prog 162 [.agg e.row, .int .i64 cy, .int .i64 40] (.p (.agg (zju (stE e)))) := by
 rcases h with rfl | rfl
 ·exact cross4_ok 1 cy hc
 ·exact cross1_ok (-1) cy hc
theorem normN : normL [] = [] := (norm_eq (l := []) (l' := []) (by simp) (by simp)).symm
theorem norm1 : normL [⟨1, 4⟩] = [⟨1, 4⟩] := by
 have := norm_eq (l := [⟨1, 4⟩]) (l' := [⟨1, 4⟩]) (by decide) (by simp);rw [<- this];rfl
def outT : Nat -> List Run | 2 => [⟨1, 4⟩] | _ => []
def wT : Nat -> Int | 1 => 1 | _ => 0
def rT : Nat -> Int | 0 => 4096 | 1 => 4 | _ => 1
set_option maxHeartbeats 8000000 in
theorem rasrow_ok (E : List Edg) (hE : is2 E) (y : Int) (hy : 2 <= y /\ y <= 4) : PC Tryz.prog 111 [.sl (E.map Edg.row), .int .i64 40, .int .i64 y] (.p (zm [⟨1, 4⟩])) := by
 have c0 := center_ok y (by omega);have hEl : E.length = 2 := by rcases hE with rfl | rfl <;> rfl
 have hEm := is2_mem hE;have hSp : (E.map stE).Perm [(4, 1), (1, -1)] := by
  rcases hE with rfl | rfl
  ·exact List.Perm.refl _
  ·exact List.Perm.swap _ _ _
 have hSb : ∀ r ∈ E.map stE, -100000 <= r.1 /\ r.1 <= 100000 := fun r hr => by
  have := hSp.subset hr;simp at this;rcases this with rfl | rfl <;> simp
 clear hE;generalize hcy : y * 40 + 20 = cy at *;have hcb : 100 <= cy /\ cy <= 180 := by omega
 refine pw cx Tryz.func111 Tryz.ntmps111 ?_;refine rg cx ?_;refine rx cx [(2, .p (.int .i64 cy))] (fun K hK => by simp [push_cast, c0]; (repeat refine ob ?_); exact hK) ?_;refine rg cx ?_;refine rg cx ?_;refine zu (β := Nat × List (Int × Int)) (fun b => ⟨92, [(1, .d (.int .i64 40)), (7, .d (.int .i64 cy)), (8, .hs 0 0 b.2.length), (20, .d (.sl (E.map Edg.row))), (21, .d (.int .i64 2)), (22, .d (.int .i64 b.1))], [(0, some ⟨200, 2, dr (b.2.map zju)⟩)], 1⟩) (fun b => b.1 <= 2 /\ b.2 = (E.take b.1).map stE) (fun b => 2 - b.1) (0, []) ?_ ⟨Nat.zero_le _, by simp⟩ ?_
 ·refine wq [(0, none)] (by simp [upT, upH, upR, upL, up, push_cast, hEl])
 ·rintro ⟨k, S0⟩ ⟨hk, hS0⟩;simp only at hk hS0;refine Nav.imp ?_;refine rg cx ?_;refine awp_cd (decide ((k : Int) < 2)) (fun hb => ?_) fun hb => ?_
  ·have hkl : k < 2 := by simp at hb; omega
   obtain ⟨e, he⟩ := zap (l := E) (k := k) (by omega);have hem := hEm e (List.mem_of_getElem? he);have c1 := cross_ok e hem cy (by omega);have k1 := wI ((k : Int) + 1);have hnx : (E.take (k + 1)).map stE = S0 ++ [stE e] := by rw [zat he, hS0]; simp
   have hSl : S0.length <= 2 := by rw [hS0]; simp; omega
   have h16 : (S0.length + 1) * 16 <= 140737488355328 := by omega
   have g1 : ¬ cy < e.ly := by rcases hem with rfl | rfl <;> (simp only [e4, e1]; omega)
   have g2 : cy < e.hy := by rcases hem with rfl | rfl <;> (simp only [e4, e1]; omega)
   generalize stE e = s at *;obtain ⟨sa, sb⟩ := s;refine rx cx [] (fun K hK => by simp [push_cast, he]; (repeat refine ob ?_); exact hK) ?_;refine rx cx [] (fun K hK => by simp [push_cast, g1]; (repeat refine ob ?_); exact hK) ?_;refine awp_cn false (by simp [push_cast, g1]) (fun hb => ?_) fun hb => ?_
   ·simp at hb
   ·refine rx cx [] (fun K hK => by simp [push_cast, g2]; (repeat refine ob ?_); exact hK) ?_;refine awp_cn true (by simp [push_cast, g2]) (fun hb => ?_) fun hb => ?_
    ·refine rx cx [(4, .p (.agg (zju (sa, sb))))] (fun K hK => by simp [push_cast, c1, h16]; (repeat refine ob ?_); exact hK) ?_;refine rx cx [] (fun K hK => by simp [push_cast, k1]; (repeat refine ob ?_); exact hK) ?_;refine ⟨(k + 1, S0 ++ [(sa, sb)]), ⟨hkl, hnx.symm⟩, by simp only; omega, ?_⟩;refine wk [(0, some 22)]
    ·simp at hb
  ·have hke : k = 2 := by simp at hb; omega
   rw [hke, <- hEl, List.take_length] at hS0;rw [<- hS0] at hSp hSb;clear hS0;generalize S0 = S at *;have hSl : S.length = 2 := hSp.length_eq;have d1 := sortS_pxe S hSb (by omega);refine zjs cx [] (l := [_, _]) (pre := [_]) (post := []) rfl rfl rfl rfl 0 ⟨[(0, 0)], [.hs 0 0 S.length, .d (.fn (.func 164) [])], [(0, ⟨200, 2, dr (S.map zju)⟩)], [(0, 0)], none, [], .any⟩ (srtS S) [] fun K hK => ?_;simp [push_cast, zix, obE, zko];refine ⟨d1, ?_⟩;rintro hp' r ⟨S', hp, hs, rfl, rfl⟩;simp [push_cast];refine nx hK ?_; clear hK K;have hS' : S' = [(4, 1), (1, -1)] := two_sorted (hp.trans hSp) hs (by decide);have hn := norm_ok [⟨1, 4⟩] (by decide) (by decide);rw [norm1] at hn;subst hS';clear hp hs d1 hSb hSp hEm hEl;have hd : dr (List.map zju [(4, 1), (1, -1)]) = dr [zju (4, 1), zju (1, -1)] := rfl;refine zaq 0 ([zju (4, 1), zju (1, -1)]) rfl (by simp [push_cast, hSl, hd]) fun K hK => ?_;simp [push_cast, St.fz, fzT, fzH, fzO, fz, fzL, fzR, zbx, zbo, zbn, zbm, hSl, hd];refine nx hK ?_; clear hK K;refine rg cx ?_;refine rg cx ?_;refine rx cx [] (fun K hK => by simp [push_cast, hSl]; (repeat refine ob ?_); exact hK) ?_;refine zu (β := Nat × List Run × Int × Int) (fun b => ⟨92, [(11, .hs 0 0 b.2.1.length), (12, .d (.int .i64 b.2.2.1)), (13, .d (.int .i64 b.2.2.2)), (46, .d (.sl [zju (4, 1), zju (1, -1)])), (47, .d (.int .i64 2)), (48, .d (.int .i64 b.1))], [(0, some ⟨85, 2, dr (b.2.1.map Run.row)⟩)], 1⟩) (fun b => b.1 <= 2 /\ b.2 = (outT b.1, wT b.1, rT b.1)) (fun b => 2 - b.1) (0, [], 0, 4096) ?_ ⟨Nat.zero_le _, rfl⟩ ?_
   ·refine wk [(0, none)]
   ·rintro ⟨k, out, w, r⟩ ⟨hk, hst⟩;simp only at hk hst;obtain ⟨rfl, rfl, rfl⟩ : out = outT k /\ w = wT k /\ r = rT k := by
     have h1 := congrArg Prod.fst hst;have h2 := congrArg Prod.snd hst;have h3 := congrArg Prod.fst h2;have h4 := congrArg Prod.snd h2;exact ⟨h1, h3, h4⟩
    clear hst;rcases (show k = 0 \/ k = 1 \/ k = 2 by omega) with rfl | rfl | rfl
    ·have m1 : min (4 : Int) 4096 = 4 := rfl;have m2 : max (-4096 : Int) 4 = 4 := rfl;have w1 := wI 1;simp only [outT, wT, rT];refine Nav.imp ?_;refine rg cx ?_;refine awp_cd true (fun hb => ?_) fun hb => ?_
     ·refine rg cx ?_;refine rx cx [] (fun K hK => by simp [push_cast, m1, m2]; (repeat refine ob ?_); exact hK) ?_;refine rg cx ?_;refine awp_cd false (fun hb => ?_) fun hb => ?_
      ·simp at hb
      ·refine rx cx [] (fun K hK => by simp [push_cast, w1]; (repeat refine ob ?_); exact hK) ?_;refine rg cx ?_;refine rx cx [] (fun K hK => by simp [push_cast, w1]; (repeat refine ob ?_); exact hK) ?_;refine ⟨(1, outT 1, wT 1, rT 1), ⟨by simp only; omega, rfl⟩, by simp only; omega, ?_⟩;refine wq [(0, some 0)] (by simp [upT, upH, upR, upL, up, push_cast, outT, wT, rT])
     ·simp at hb
    ·have m1 : min (1 : Int) 4096 = 1 := rfl;have m2 : max (-4096 : Int) 1 = 1 := rfl;have w0 := wI 0;have w1 := wI 2;simp only [outT, wT, rT];refine Nav.imp ?_;refine rg cx ?_;refine awp_cd true (fun hb => ?_) fun hb => ?_
     ·refine rg cx ?_;refine rx cx [] (fun K hK => by simp [push_cast, m1, m2]; (repeat refine ob ?_); exact hK) ?_;refine rg cx ?_;refine awp_cd true (fun hb => ?_) fun hb => ?_
      ·refine rg cx ?_;refine rx cx [] (fun K hK => by simp [push_cast, w0]; (repeat refine ob ?_); exact hK) ?_;refine rg cx ?_;refine rx cx [] (fun K hK => by simp [push_cast, w1]; (repeat refine ob ?_); exact hK) ?_;refine ⟨(2, outT 2, wT 2, rT 2), ⟨by simp only; omega, rfl⟩, by simp only; omega, ?_⟩;refine wq [(0, some 23)] (by simp [upT, upH, upR, upL, up, push_cast, outT, wT, rT])
      ·simp at hb
     ·simp at hb
    ·simp only [outT, wT, rT];refine Nav.imp ?_;refine rg cx ?_;refine awp_cd false (fun hb => ?_) fun hb => ?_
     ·simp at hb
     ·refine rg cx ?_;refine awp_cd false (fun hb => ?_) fun hb => ?_
      ·simp at hb
      ·change PC Tryz.prog 152 [.sl [[.int .i64 1, .int .i64 4]]] (.p (.tup [.sl [[.int .i64 1, .int .i64 4]], .int .i64 0])) at hn
       refine zaq 0 ([[.int .i64 1, .int .i64 4]]) rfl (by simp [push_cast]) fun K hK => ?_;simp [push_cast, St.fz, fzT, fzH, fzO, fz, fzL, fzR, zbx, zbo, zbn, zbm];refine nx hK ?_; clear hK K;refine rx cx [(1, .p (.tup [.sl [[.int .i64 1, .int .i64 4]], .int .i64 0]))] (fun K hK => by simp [push_cast, hn]; (repeat refine ob ?_); exact hK) ?_;refine rg cx ?_;simp [push_cast]

set_option maxHeartbeats 8000000 in
theorem rasrow5_ok (E : List Edg) (hE : is2 E) : PC Tryz.prog 111 [.sl (E.map Edg.row), .int .i64 40, .int .i64 5] (.p (zm [])) := by
 have c0 := center_ok 5 (by omega);have hcy : (5 : Int) * 40 + 20 = 220 := rfl;rw [hcy] at c0;have hEl : E.length = 2 := by rcases hE with rfl | rfl <;> rfl
 have hEm := is2_mem hE;clear hE;refine pw cx Tryz.func111 Tryz.ntmps111 ?_;refine rg cx ?_;refine rx cx [(2, .p (.int .i64 220))] (fun K hK => by simp [push_cast, c0]; (repeat refine ob ?_); exact hK) ?_;refine rg cx ?_;refine rg cx ?_;refine zu (β := Nat) (fun b => ⟨92, [(1, .d (.int .i64 40)), (7, .d (.int .i64 220)), (8, .hs 0 0 0), (20, .d (.sl (E.map Edg.row))), (21, .d (.int .i64 2)), (22, .d (.int .i64 b))], [(0, some ⟨200, 2, dr (([] : List (Int × Int)).map zju)⟩)], 1⟩) (fun b => b <= 2) (fun b => 2 - b) 0 ?_ (Nat.zero_le _) ?_
 ·refine wq [(0, none)] (by simp [upT, upH, upR, upL, up, push_cast, hEl])
 ·rintro k hk;refine Nav.imp ?_;refine rg cx ?_;refine awp_cd (decide ((k : Int) < 2)) (fun hb => ?_) fun hb => ?_
  ·have hkl : k < 2 := by simp at hb; omega
   obtain ⟨e, he⟩ := zap (l := E) (k := k) (by omega);have hem := hEm e (List.mem_of_getElem? he);have k1 := wI ((k : Int) + 1);have g1 : ¬ (220 : Int) < e.ly := by rcases hem with rfl | rfl <;> (simp only [e4, e1]; omega)
   have g2 : ¬ (220 : Int) < e.hy := by rcases hem with rfl | rfl <;> (simp only [e4, e1]; omega)
   refine rx cx [] (fun K hK => by simp [push_cast, he]; (repeat refine ob ?_); exact hK) ?_;refine rx cx [] (fun K hK => by simp [push_cast, g1]; (repeat refine ob ?_); exact hK) ?_;refine awp_cn false (by simp [push_cast, g1]) (fun hb => ?_) fun hb => ?_
   ·simp at hb
   ·refine rx cx [] (fun K hK => by simp [push_cast, g2]; (repeat refine ob ?_); exact hK) ?_;refine awp_cn false (by simp [push_cast, g2]) (fun hb => ?_) fun hb => ?_
    ·simp at hb
    ·refine rx cx [] (fun K hK => by simp [push_cast, k1]; (repeat refine ob ?_); exact hK) ?_;refine ⟨k + 1, hkl, by omega, ?_⟩;refine wk [(0, some 0)]
  ·have d1 := sortS_pxe [] (by simp) (by simp);refine zjs cx [] (l := [_, _]) (pre := [_]) (post := []) rfl rfl rfl rfl 0 ⟨[(0, 0)], [.hs 0 0 0, .d (.fn (.func 164) [])], [(0, ⟨200, 2, dr (([] : List (Int × Int)).map zju)⟩)], [(0, 0)], none, [], .any⟩ (srtS []) [] fun K hK => ?_;simp [push_cast, zix, obE, zko];refine ⟨d1, ?_⟩;rintro hp' r ⟨S', hp, hs, rfl, rfl⟩;simp [push_cast];refine nx hK ?_; clear hK K;have hS' : S' = [] := List.Perm.eq_nil hp;have hn := norm_ok [] (by simp) (by simp);rw [normN] at hn;change PC Tryz.prog 152 [.sl []] (.p (.tup [.sl [], .int .i64 0])) at hn
   subst hS';clear hp hs d1 hEm;have hd : dr (List.map zju []) = dr [] := rfl;refine zaq 0 (([] : List (List D))) rfl (by simp [push_cast, hd]) fun K hK => ?_;simp [push_cast, St.fz, fzT, fzH, fzO, fz, fzL, fzR, zbx, zbo, zbn, zbm, hd];refine nx hK ?_; clear hK K;iterate 3 refine rg cx ?_
   refine zu (β := Nat) (fun b => ⟨92, [(11, .hs 0 0 0), (12, .d (.int .i64 0)), (13, .d (.int .i64 4096)), (46, .d (.sl [])), (47, .d (.int .i64 0)), (48, .d (.int .i64 b))], [(0, some ⟨85, 2, dr (([] : List Run).map Run.row)⟩)], 1⟩) (fun b => b = 0) (fun b => 2 - b) 0 ?_ rfl ?_
   ·refine wk [(0, none)]
   ·rintro k rfl;refine Nav.imp ?_;refine rg cx ?_;refine awp_cd false (fun hb => ?_) fun hb => ?_
    ·simp at hb
    ·refine rg cx ?_;refine awp_cd false (fun hb => ?_) fun hb => ?_
     ·simp at hb
     ·refine zaq 0 (([] : List (List D))) rfl (by simp [push_cast]) fun K hK => ?_;simp [push_cast, St.fz, fzT, fzH, fzO, fz, fzL, fzR, zbx, zbo, zbn, zbm];refine nx hK ?_; clear hK K;refine rx cx [(1, .p (.tup [.sl [], .int .i64 0]))] (fun K hK => by simp [push_cast, hn]; (repeat refine ob ?_); exact hK) ?_;refine rg cx ?_;simp [push_cast]
set_option maxHeartbeats 4000000 in
theorem rows_ok (E : List Edg) (hE : is2 E) : PC Tryz.prog 110 [.sl (E.map Edg.row), .int .i64 40] (.p (.tup [.int .i64 2, .int .i64 4])) := by
 have hEl : E.length = 2 := by rcases hE with rfl | rfl <;> rfl
 have hEm := is2_mem hE;clear hE;have hv : ∀ e ∈ E, e.ly = 80 /\ e.hy = 200 := fun e he => by rcases hEm e he with rfl | rfl <;> exact ⟨rfl, rfl⟩
 obtain ⟨a0, ha0⟩ := zap (l := E) (k := 0) (by omega);obtain ⟨q1, q2⟩ := hv a0 (List.mem_of_getElem? ha0);have c1 := zsv 80 40 (by omega) (by omega) (by omega);have c2 := zsv 200 40 (by omega) (by omega) (by omega);have f1 : flD 80 40 = .tup [.int .i64 2, .int .i64 0] := rfl;have f2 : flD 200 40 = .tup [.int .i64 5, .int .i64 0] := rfl;rw [f1] at c1;rw [f2] at c2;clear f1 f2;obtain ⟨lx, ly, hx, hy, s⟩ := a0;simp only at q1 q2;subst q1 q2;have hz1 : ∀ h, (E[0]'h).hy = 200 := fun h => (hv _ (List.getElem_mem h)).2;have hz2 : ∀ h, (E[0]'h).ly = 80 := fun h => (hv _ (List.getElem_mem h)).1;refine pw cx Tryz.func110 Tryz.ntmps110 ?_;refine rg cx ?_;refine rx cx [] (fun K hK => by simp [push_cast, hEl]; (repeat refine ob ?_); exact hK) ?_;refine awp_cd false (fun hb => ?_) fun hb => ?_
 ·simp at hb
 ·refine rx cx [] (fun K hK => by simp [push_cast, ha0, hEl]; (repeat refine ob ?_); exact hK) ?_;refine rx cx [] (fun K hK => by simp [push_cast, hEl]; (repeat refine ob ?_); exact hK) ?_;refine zu (β := Nat) (fun b => ⟨59, [(0, .d (.sl (E.map Edg.row))), (1, .d (.int .i64 40)), (6, .d (.int .i64 200)), (21, .d (.sl (E.map Edg.row))), (22, .d (.int .i64 2)), (23, .d (.int .i64 b))], [], 0⟩) (fun b => b <= 2) (fun b => 2 - b) 0 ?_ (Nat.zero_le _) ?_
  ·refine wq [] (by simp [upT, upH, upR, upL, up, push_cast, hz1, hz2])
  ·rintro k hk;refine Nav.imp ?_;refine rg cx ?_;refine awp_cd (decide ((k : Int) < 2)) (fun hb => ?_) fun hb => ?_
   ·have hkl : k < 2 := by simp at hb; omega
    obtain ⟨e, he⟩ := zap (l := E) (k := k) (by omega);obtain ⟨p1, p2⟩ := hv e (List.mem_of_getElem? he);have k1 := wI ((k : Int) + 1);obtain ⟨lx2, ly2, hx2, hy2, s2⟩ := e;simp only at p1 p2;subst p1 p2;have m1 : max (200 : Int) 200 = 200 := rfl;refine rx cx [] (fun K hK => by simp [push_cast, he]; (repeat refine ob ?_); exact hK) ?_;refine rx cx [] (fun K hK => by simp [push_cast, m1]; (repeat refine ob ?_); exact hK) ?_;refine rx cx [] (fun K hK => by simp [push_cast, k1]; (repeat refine ob ?_); exact hK) ?_;refine ⟨k + 1, hkl, by omega, ?_⟩;refine wk []
   ·have m1 : max (2 : Int) (-4096) = 2 := rfl;have m2 : min (5 : Int) 4095 = 5 := rfl;have m3 : max (0 : Int) 4 = 4 := rfl;have w1 := wI 3;have w2 := wI 4;refine rx cx [(6, .p (.tup [.int .i64 2, .int .i64 0]))] (fun K hK => by simp [push_cast, c1, ha0, hEl, hz1, hz2]; (repeat refine ob ?_); exact hK) ?_;refine rx cx [(2, .p (.tup [.int .i64 5, .int .i64 0]))] (fun K hK => by simp [push_cast, c2]; (repeat refine ob ?_); exact hK) ?_;refine rx cx [] (fun K hK => by simp [push_cast, m1, m2]; (repeat refine ob ?_); exact hK) ?_;refine rx cx [] (fun K hK => by simp [push_cast, w1, w2, m3]; (repeat refine ob ?_); exact hK) ?_;simp [push_cast]
end Go.Proofs.YtdddknniooimmaaGreat

namespace Go.Abs
variable [Flag]
open Go.RowKit
open Go.ChangeMaps (setBlock)

mutual
def zji (id : Nat) : AV -> Bool
 | .hs i _ _ => !decide (i = id)
 | .ptr i _ _ => !decide (i = id)
 | .hm i => !decide (i = id)
 | .pin i _ => !decide (i = id)
 | .agg l => zgv id l
 | .clo _ l => zgv id l
 | .tup l => zgv id l
 | .opt _ x => zji id x
 | _ => true
def zgv (id : Nat) : List AV -> Bool
 | [] => true
 | a :: avs => zji id a && zgv id avs
end
mutual
theorem zsu {g g' : G} {w : World} {id : Nat} (hl : ∀ i, i ≠ id -> g'.loc i = g.loc i) (hu : ∀ i, g.used i -> g'.used i) (hro : g'.ro = g.ro) : ∀ (x : AV) (v : Value), zji id x = true -> zi g w x v -> zi g' w x v
 | .any, v, _, h => by simp [zi]
 | .nl, v, _, h => by simpa [zi] using h
 | .d x, v, _, h => by simpa only [zi, hro] using h
 | .ub p q, v, _, h => by simpa only [zi] using h
 | .lit u, v, _, h => by simpa only [zi] using h
 | .hs i off len, v, ho, h => by
  have hne : i ≠ id := by simpa [zji] using ho
  simp only [zi, hl i hne] at h ⊢;exact ⟨⟨hu i h.1.1, h.1.2⟩, h.2⟩
 | .ptr i a b, v, ho, h => by
  have hne : i ≠ id := by simpa [zji] using ho
  simp only [zi, hl i hne] at h ⊢;exact ⟨⟨hu i h.1.1, h.1.2⟩, h.2⟩
 | .hm i, v, ho, h => by
  have hne : i ≠ id := by simpa [zji] using ho
  simp only [zi, hl i hne] at h ⊢;exact ⟨⟨hu i h.1.1, h.1.2⟩, h.2⟩
 | .pin i L, v, ho, h => by
  have hne : i ≠ id := by simpa [zji] using ho
  simp only [zi, hl i hne] at h ⊢;exact ⟨hu i h.1, h.2⟩
 | .agg l, v, ho, h => by
  simp only [zi] at h ⊢;obtain ⟨vs, h1, h2, h3⟩ := h;exact ⟨vs, h1, h2, zli hl hu hro l vs (by simpa only [zji] using ho) h3⟩
 | .clo f l, v, ho, h => by
  simp only [zi] at h ⊢;obtain ⟨vs, h1, h3⟩ := h;exact ⟨vs, h1, zli hl hu hro l vs (by simpa only [zji] using ho) h3⟩
 | .tup l, v, ho, h => by
  simp only [zi] at h ⊢;obtain ⟨vs, h1, h3⟩ := h;exact ⟨vs, h1, zli hl hu hro l vs (by simpa only [zji] using ho) h3⟩
 | .opt b x, v, ho, h => by
  simp only [zi] at h ⊢;exact ⟨fun hb => zsu hl hu hro x v (by simpa only [zji] using ho) (h.1 hb), h.2⟩
theorem zli {g g' : G} {w : World} {id : Nat} (hl : ∀ i, i ≠ id -> g'.loc i = g.loc i) (hu : ∀ i, g.used i -> g'.used i) (hro : g'.ro = g.ro) : ∀ (l : List AV) (vs : List Value), zgv id l = true -> zk g w l vs -> zk g' w l vs
 | [], vs, _, h => by simpa only [zk] using h
 | a :: avs, vs, ho, h => by
  simp only [zgv, Bool.and_eq_true] at ho;simp only [zk] at h ⊢;obtain ⟨v, vs', h1, h2, h3⟩ := h;exact ⟨v, vs', h1, zsu hl hu hro a v ho.1 h2, zli hl hu hro avs vs' ho.2 h3⟩
end
theorem offIds_get {id : Nat} : ∀ {l : List AV} {j : Nat} {a : AV}, zgv id l = true -> l[j]? = some a -> zji id a = true
 | [], _, _, _, h => by simp at h
 | b :: l, 0, a, h, e => by
  simp only [zgv, Bool.and_eq_true] at h;simp at e; subst e; exact h.1
 | b :: l, j + 1, a, h, e => by
  simp only [zgv, Bool.and_eq_true] at h;exact offIds_get h.2 (by simpa using e)

structure OffSt (id : Nat) (s : St) : Prop where
 tm : ∀ t, zji id (s.get t) = true
 gone : s.obj id = none
 hp : ∀ x o, s.obj x = some o -> ∀ (i : Nat) (r : List AV), o.rows[i]? = some r -> zgv id r = true

theorem ents_data {ro ro' : Nat -> Prop} {g g' : G} {w w' : World} : ∀ {R : List (List D)} {es : List MapEntry}, (∀ b, g.ro b -> g'.ro b /\ w'.heap[b]? = w.heap[b]?) -> zad g w (dr R) es -> zad g' w' (dr R) es
 | [], es, _, h => by simpa [dr, zad] using h
 | r :: R, es, hf, h => by
  have h : zad g w (r.map AV.d :: dr R) es := h
  show zad g' w' (r.map AV.d :: dr R) es
  simp only [zad] at h ⊢;obtain ⟨e, es', rfl, h1, h2⟩ := h;exact ⟨e, es', rfl, zk.of_ds (zt.mono hf _ _ (zk.to_ds h1)), ents_data (ro := ro) (ro' := ro') hf h2⟩

theorem adopt {s : St} {g' : G} {a : Act} {w' : World} (hr : zcn s g' a w') {id : Nat} (hoff : OffSt id s) (hid : id < s.nxt) {L : Loc} (hv : L.virt = false /\ L.map = true) (hb : L.blk < w'.heap.size) (how : ¬ g'.owns L.blk) (hro : ¬ g'.ro L.blk) {o : Ob}
  (hok : ∀ g'', g''.ro = g'.ro -> zon g'' w' L o) (t : Tmp) (hn : t < s.n) (ht : a.tmps.getD t undef = .map (some L.blk)) :
  ∃ g'', zcn ⟨s.n, (t, .hm id) :: s.tm, (id, some o) :: s.hp, s.nxt⟩ g'' a w' /\ (∀ b, g''.owns b ↔ g'.owns b \/ b = L.blk) /\ g''.ro = g'.ro := by
 have hloc : g'.loc id = none := hr.heap.gone id hoff.gone
 let g'' : G := ⟨g'.ro, fun x => if x = id then some L else g'.loc x, fun x => g'.used x \/ x = id⟩
 have l1 : ∀ i, i ≠ id -> g''.loc i = g'.loc i := fun i hi => by simp only [g'']; rw [if_neg hi]
 have l2 : g''.loc id = some L := by simp [g'']
 have u1 : ∀ i, g'.used i -> g''.used i := fun i hi => .inl hi;refine ⟨g'', ⟨hr.defers, hr.size, fun x => ?_, fun x hx => ?_, ?_⟩, fun b => ?_, rfl⟩
 ·show zi g'' w' ((find ((t, AV.hm id) :: s.tm) x).getD .any) _
  simp only [find];by_cases e : t = x
  ·subst e;rw [if_pos rfl];simp only [Option.getD_some, zi];rw [ht];exact ⟨⟨.inr rfl, rfl⟩, fun M hM => by rw [l2] at hM; cases hM; exact ⟨hv, rfl⟩⟩
  ·rw [if_neg e];exact zsu l1 u1 rfl _ _ (hoff.tm x) (hr.tmp x)
 ·rcases hx with hx | rfl
  ·exact hr.used x hx
  ·exact hid
 ·refine ⟨fun x o' hx => ?_, fun x hx => ?_, fun x M hM => ?_, fun x y M M' hM hM' h1 h2 hb' => ?_, fun b hb' => hr.heap.ro b hb'⟩
  ·simp only [St.obj, find] at hx;by_cases e : id = x
   ·subst e;rw [if_pos rfl] at hx;simp only [Option.getD_some, Option.some.injEq] at hx;subst hx;exact ⟨L, l2, hok g'' rfl⟩
   ·rw [if_neg e] at hx;obtain ⟨M, hM, hok'⟩ := hr.heap.own x o' hx;have hrow := hoff.hp x o' hx;refine ⟨M, by rw [l1 x (Ne.symm e)]; exact hM, hok'.m, hok'.pos, hok'.len, hok'.virt, fun h => ?_, fun h => ?_⟩
    ·obtain ⟨cur, c1, c2, c3, c5⟩ := hok'.cells h;refine ⟨cur, c1, c2, c3, fun i row hi => ⟨(c5 i row hi).1, fun j av hj => ?_⟩⟩;obtain ⟨v, k1, k2, k3⟩ := (c5 i row hi).2 j av hj;exact ⟨v, k1, k2, zsu l1 u1 rfl _ _ (offIds_get (hrow i row hi) hj) k3⟩
    ·obtain ⟨c0, es, clock, c1, c2, c3⟩ := hok'.ents h;refine ⟨c0, es, clock, c1, c2, ?_⟩;have : ∀ (rows : List (List AV)) (l : List MapEntry), (∀ (i : Nat) (r : List AV), rows[i]? = some r -> zgv id r = true) -> zad g' w' rows l -> zad g'' w' rows l := by
      intro rows;induction rows with
      | nil => intro l _ hl; simpa only [zad] using hl
      | cons r rs ih =>
       intro l hr' hl;simp only [zad] at hl ⊢;obtain ⟨e', l', h1, h2, h3⟩ := hl;exact ⟨e', l', h1, zli l1 u1 rfl _ _ (hr' 0 r rfl) h2, ih l' (fun i q hq => hr' (i + 1) q (by simpa using hq)) h3⟩
     exact this _ _ hrow c3
  ·simp only [St.obj, find] at hx;by_cases e : id = x
   ·rw [if_pos e] at hx; cases hx
   ·rw [if_neg e] at hx;rw [l1 x (Ne.symm e)];exact hr.heap.gone x hx
  ·by_cases e : x = id
   ·subst e;rw [l2] at hM; cases hM;exact ⟨.inr rfl, fun _ => ⟨hb, hro⟩⟩
   ·rw [l1 x e] at hM;obtain ⟨k1, k2⟩ := hr.heap.live x M hM;exact ⟨.inl k1, k2⟩
  ·by_cases e : x = id
   ·subst e;rw [l2] at hM; cases hM;by_cases e' : y = x
    ·exact e'.symm
    ·rw [l1 y e'] at hM';exact absurd ⟨y, M', hM', h2, hb'.symm⟩ how
   ·rw [l1 x e] at hM;by_cases e' : y = id
    ·subst e';rw [l2] at hM'; cases hM';exact absurd ⟨x, M, hM, h1, hb'⟩ how
    ·rw [l1 y e'] at hM';exact hr.heap.inj x y M M' hM hM' h1 h2 hb'
 ·constructor
  ·rintro ⟨x, M, hM, hv', hb'⟩;by_cases e : x = id
   ·subst e;rw [l2] at hM; cases hM;exact .inr hb'.symm
   ·rw [l1 x e] at hM;exact .inl ⟨x, M, hM, hv', hb'⟩
  ·rintro (⟨x, M, hM, hv', hb'⟩ | rfl)
   ·have : x ≠ id := fun e => by subst e; rw [hloc] at hM; cases hM
    exact ⟨x, M, by rw [l1 x this]; exact hM, hv', hb'⟩
   ·exact ⟨id, L, l2, hv.1, rfl⟩

theorem rel_aside {U : Nat -> Prop} {g : G} {get : Nat -> AV} {obj : Nat -> Option Ob} {n : Nat} {a : Act} {w w' : World} (h : Rel U g get obj n a w) {bi : Nat} (how : ¬ g.owns bi) (hro : ¬ g.ro bi)
  (hsize : w'.heap.size = w.heap.size) (hblk : ∀ b, b ≠ bi -> w'.heap[b]? = w.heap[b]?) : Rel U g get obj n a w' := by
 have hlat : zbt g w g w' := ⟨fun b hb => ⟨hb, hblk b fun e => hro (e ▸ hb)⟩, fun _ hx => hx, fun _ _ => .inl rfl⟩
 refine ⟨h.defers, h.size, fun t => zi.later hlat _ _ (h.tmp t), h.used, fun id o ho => ?_, h.heap.gone, fun id L hL => ⟨(h.heap.live id L hL).1, fun hv => by rw [hsize]; exact (h.heap.live id L hL).2 hv⟩, h.heap.inj, fun b hb => by rw [hsize]; exact h.heap.ro b hb⟩;obtain ⟨L, hL, hok⟩ := h.heap.own id o ho;exact ⟨L, hL, hok.later hlat fun hv => hblk _ fun e => how ⟨id, L, hL, hv, e⟩⟩

theorem zpd {α : Type} [DecidableEq α] : ∀ {l m : List α}, l.Nodup -> (∀ x ∈ l, x ∈ m) -> l.length <= m.length
 | [], m, _, _ => Nat.zero_le _
 | a :: l, m, hn, hs => by
  obtain ⟨h1, h2⟩ := List.nodup_cons.1 hn;have ha := hs a (by simp);have := zpd (l := l) (m := m.erase a) h2 fun x hx => by
   have hne : x ≠ a := fun e => h1 (e ▸ hx);exact (List.mem_erase_of_ne hne).2 (hs x (by simp [hx]))
  rw [List.length_erase_of_mem ha] at this;have hp := List.length_pos_of_mem ha;simp only [List.length_cons];omega
theorem perm_of_places {α : Type} {ks xs : List α} {js : List Nat} (hnd : js.Nodup) (hall : ∀ j, j < ks.length -> j ∈ js) (hxs : xs.length = js.length) (h : ∀ i j : Nat, js[i]? = some j -> j < ks.length /\ xs[i]? = ks[j]?) : xs.Perm ks := by
 have h1 : js.Perm (List.range ks.length) := by
  refine (List.perm_ext_iff_of_nodup hnd List.nodup_range).2 fun j => ?_;rw [List.mem_range];constructor
  ·intro hj;obtain ⟨i, hi⟩ := List.mem_iff_getElem?.1 hj;exact (h i j hi).1
  ·exact hall j
 have h2 : xs.map some = js.map fun j => ks[j]? := by
  refine List.ext_getElem? fun i => ?_;simp only [List.getElem?_map];cases hi : js[i]? with
  | none =>
   have : xs[i]? = none := by rw [List.getElem?_eq_none_iff] at hi ⊢; omega
   rw [this]; rfl
  | some j =>
   obtain ⟨hj, e⟩ := h i j hi;rw [e, List.getElem?_eq_getElem hj]; simp
 have h3 : ks.map some = (List.range ks.length).map fun j => ks[j]? := by
  refine List.ext_getElem? fun i => ?_;simp only [List.getElem?_map];by_cases hi : i < ks.length
  ·rw [List.getElem?_range hi, List.getElem?_eq_getElem hi]; simp
  ·rw [List.getElem?_eq_none (by omega), List.getElem?_eq_none (by simp; omega)]; rfl
 have h4 : (xs.map some).Perm (ks.map some) := by rw [h2, h3]; exact h1.map _
 have h5 := h4.filterMap id;simpa using h5

def entSt (t16 t17 t18 t19 : Tmp) (kd : D) (s : St) : St := { s with tm := (t19, .d kd) :: (t18, .any) :: (t17, .d (.bool true)) :: (t16, .any) :: s.tm }

theorem awp_maprange {P : Program} {ty : TypeId -> Option TI} (hc : Ctx P ty) (orc : List (Nat × Res)) {α : Type} {r5 r6 r7 b0 b1 : Nat} {l7 : List Oper} (post : List Oper) (o1 o2 o3 o4 o5 o6 : Oper) (hl7 : l7 = o5 :: o6 :: post) {rest : Code}
  {T kt et : TypeId} {tm tm' ti tn tb te tk : Tmp} {ti0 : TI}
  (g1 : o1.guard = none) (g2 : o2.guard = none) (g3 : o3.guard = none) (g4 : o4.guard = none) (g5 : o5.guard = none) (g6 : o6.guard = none)
  (h1 : o1.op = .move (.tmp tm)) (d1 : o1.dst = some tm') (h2 : o2.op = .range T (.tmp tm')) (d2 : o2.dst = some ti)
  (h3 : o3.op = .next (.tmp ti) false) (d3 : o3.dst = some tn) (h4 : o4.op = .extract (.tmp tn) 0) (d4 : o4.dst = some tb)
  (h5 : o5.op = .entry (.tmp ti)) (d5 : o5.dst = some te) (h6 : o6.op = .extract (.tmp te) 0) (d6 : o6.dst = some tk)
  (hne : tm ≠ tm' /\ tm ≠ ti /\ tm' ≠ ti /\ ti ≠ tn /\ ti ≠ tb /\ tn ≠ tb /\ ti ≠ te /\ te ≠ tk /\ tm ≠ tn /\ tm ≠ tb)
  (hT : ty T = some ti0) (hTk : ti0.kind = .map kt et)
  {s : St} {id : Nat} {o : Ob} (ks : List α) (kd : α -> D) (vd : List D) (hm : s.get tm = .hm id) (ho : s.obj id = some o) (hid : id < s.nxt)
  (hrows : o.rows = dr (List.zipWith (fun k v => [kd k, v]) ks vd)) (hlen : vd.length = ks.length) (hn : tm < s.n /\ tm' < s.n /\ ti < s.n /\ tn < s.n /\ tb < s.n /\ te < s.n /\ tk < s.n)
  (J : Value -> Value -> List α -> St)
  (hJ : ∀ u v xs, OffSt id (J u v xs) /\ (J u v xs).get tm = .lit v /\ (J u v xs).get ti = .lit u /\ id < (J u v xs).nxt /\ (J u v xs).n = s.n) {Q : Exit -> St -> Prop}
  (hstart : ∀ u v, zei ⟨s.n, (ti, .lit u) :: (tm', .lit v) :: (tm, .lit v) :: s.tm, (id, none) :: s.hp, s.nxt⟩ (J u v []))
  (hround : ∀ u v (xs : List α) (k : α), k ∈ ks -> xs.length < ks.length -> ∀ K : St -> Prop, (∀ s', AWp P rest (fun e s'' => match e with | .normal => zei s'' (J u v (xs ++ [k])) | _ => False) s' -> K s') ->
   wpT ty P orc (l7.map (·.dst)) (J u v xs).nxt 0 post { entSt tn tb te tk (kd k) (J u v xs) with nxt := (J u v xs).nxt + post.length } K)
  (hend : ∀ u v (xs : List α), xs.Perm ks -> Q .normal ⟨s.n, (tm, .hm id) :: (tb, .d (.bool false)) :: (tn, .any) :: (J u v xs).tm, (id, some o) :: (J u v xs).hp, (J u v xs).nxt⟩) :
  AWp P (.seq (.region r5 #[o1, o2] false) (.block b0 (.loop (.seq (.region r6 #[o3, o4] false) (.seq (.cond (.tmp tb) .skip (.exit b0)) (.block b1 (.seq (.region r7 l7.toArray false) rest))))))) Q s := by
 intro g a w hr;obtain ⟨n1, n2, n3, n4, n5, n6, n7, n8, n9, n10⟩ := hne;obtain ⟨z1, z2, z3, z4, z5, z6, z7⟩ := hn;obtain ⟨L, hL, hok⟩ := hr.heap.own id o ho;have htm := hr.tmp tm;rw [hm] at htm;simp only [zi] at htm;obtain ⟨hv, hmv⟩ := htm.2 L hL;obtain ⟨hmapM, es, clock, hb, hst, hes⟩ := hok.ents hv;obtain ⟨hblt, hbro⟩ := (hr.heap.live id L hL).2 hv.1;have hu : P.underlying T = some (.map kt et) := zrn (hc.ok T ti0 hT) hTk;rw [hrows] at hes
 -- the entries, by their places
 have hesl : es.size = ks.length := by
  have : ∀ {rows : List (List AV)} {l : List MapEntry}, zad g w rows l -> rows.length = l.length := by
   intro rows;induction rows with
   | nil => intro l hl; simp only [zad] at hl; simp [hl]
   | cons r rs ih => intro l hl; simp only [zad] at hl; obtain ⟨e, l', rfl, _, h2⟩ := hl; simp [ih h2]
  have := this hes;simp [dr, hlen] at this;exact this.symm
 have hent : ∀ (j : Nat) (k : α), ks[j]? = some k -> ∃ e, es[j]? = some e /\ zv g.ro w (kd k) e.key := by
  have key : ∀ (ks : List α) (vd : List D) (l : List MapEntry), vd.length = ks.length -> zad g w (dr (List.zipWith (fun k v => [kd k, v]) ks vd)) l -> ∀ (j : Nat) (k : α), ks[j]? = some k -> ∃ e, l[j]? = some e /\ zv g.ro w (kd k) e.key := by
   intro ks;induction ks with
   | nil => intro vd l _ _ j k hj; simp at hj
   | cons k0 ks ih =>
    intro vd l hl h j k hj;cases vd with
    | nil => simp at hl
    | cons v0 vd =>
     have h : zad g w ([AV.d (kd k0), AV.d v0] :: dr (List.zipWith (fun k v => [kd k, v]) ks vd)) l := h;simp only [zad, zk, zi] at h;obtain ⟨e, l', rfl, ⟨v1, vs1, hv1, hk1, _⟩, h2⟩ := h;simp only [List.cons.injEq] at hv1;obtain ⟨rfl, _⟩ := hv1;cases j with
     | zero => simp at hj; subst hj; exact ⟨e, rfl, hk1⟩
     | succ j => exact ih vd l' (by simpa using hl) h2 j k (by simpa using hj)
  intro j k hj;obtain ⟨e, h1, h2⟩ := key ks vd es.toList hlen hes j k hj;exact ⟨e, by simpa using h1, h2⟩
 -- the beginning
 let bm := L.blk
 let bi := w.heap.size
 let w0 := w.alloc (.mapIter (some bm) clock #[] clock)
 let pi : Value := .pointer (some ⟨bi, 0, none⟩)
 let mv : Value := .map (some bm)
 have hsz := hr.size;obtain ⟨gd, q1, q2, q3, q4, q5, q6⟩ := hr.heap.drop id;have hrd : Rel (· < s.nxt) gd s.get (zbj s.obj id none) s.n a w := ⟨hr.defers, hr.size, fun t => zi.later q6 _ _ (hr.tmp t), fun x hx => hr.used x (q1 ▸ hx), q4⟩
 have gdown : ∀ b, gd.owns b -> g.owns b /\ b ≠ bm := by
  rintro b ⟨x, M, hM, hvM, rfl⟩;rw [q3] at hM;simp only at hM;split at hM
  ·cases hM
  ·rename_i hx;exact ⟨⟨x, M, hM, hvM, rfl⟩, fun e => hx (hr.heap.inj x id M L hM hL hvM hv.1 e)⟩
 have hgdbm : ¬ gd.owns bm := fun h => (gdown bm h).2 rfl;have hgdro : ¬ gd.ro bm := by rw [q2]; exact hbro
 have low : ∀ b, gd.owns b -> b < w.heap.size := fun b ⟨x, M, hM, hvM, e⟩ => e ▸ ((q4.live x M hM).2 hvM).1;have hal : ∀ b, b < w.heap.size -> w0.heap[b]? = w.heap[b]? := fun b hb => Go.heap_alloc_old w _ hb;have hal2 : w0.heap[bi]? = some (.mapIter (some bm) clock #[] clock) := Go.heap_alloc_new w _;have hsz0 : w0.heap.size = w.heap.size + 1 := by show (w.heap.push _).size = _; simp
 have hbelow : Below w.heap.size w w0 := ⟨rfl, ⟨rfl, .inr (Nat.le_refl _)⟩, rfl, by rw [hsz0]; exact Nat.le_succ _, hal⟩
 obtain ⟨i1, i2, i3⟩ := q4.idle hbelow
 -- what holds at a round's start
 let Inv : Nat -> Act -> World -> Prop := fun m a' w' => ∃ (js : List Nat) (xs : List α) (g' : G) (last : Nat), js.Nodup /\ js.length + m = ks.length /\ xs.length = js.length /\ (∀ i : Nat, ∀ j, js[i]? = some j -> j < ks.length /\ xs[i]? = ks[j]?) /\
  zcn (J pi mv xs) g' a' w' /\ zam gd w g' w' /\ w'.heap[bi]? = some (.mapIter (some bm) clock (js.map fun j => (es[j]?.map (·.born)).getD 0).toArray last) /\ clock <= last /\ w'.heap[bm]? = some (.map es clock) /\ ¬ g'.owns bi /\ ¬ g'.ro bi /\ ¬ g'.owns bm /\ ¬ g'.ro bm /\ bi < w'.heap.size
 refine wp_seq ?_;refine wp_region ?_;rw [show List.range (#[o1, o2] : Array Oper).size = List.range' 0 [o1, o2].length from rfl, wpOps_eq_wpList (P := P) (ops := #[o1, o2]) [o1, o2] 0 (by intro j; simp)];have ex1 : (execOp a.eval o1).run P w = .ok (.value mv) w := by
  simp only [execOp, h1, Act.eval, hmv, Sem.run_pure]; rfl
 have e1 : (a.put (some tm') mv).tmps.getD tm' undef = mv := zcy (by rw [hsz]; exact z2);have ex2 : (execOp (a.put (some tm') mv).eval o2).run P w = .ok (.value pi) w0 := by
  simp only [execOp, h2, Act.eval, e1];rw [Sem.run_bind, run_range_map w T kt et bm es clock hu hb];rfl
 simp only [wpList];rw [if_pos (by simp [Region.wanted, g1])];left
 unfold Oper.wp;rw [ex1, Oper.upon_value, d1];rw [if_pos (by simp [Region.wanted, g2])];left
 rw [ex2, Oper.upon_value, d2]
 show (Code.block b0 _).wp P _ _ _
 have hwide := hrd.heap;have A0 : Rel (· < s.nxt) gd s.get (zbj s.obj id none) s.n a w0 := ⟨hr.defers, hr.size, fun t => zi.later i3 _ _ (hrd.tmp t), hrd.used, i1⟩
 have same0 : zbt gd w0 gd w0 := ⟨fun b hb => ⟨hb, rfl⟩, fun _ hx => hx, fun _ _ => .inl rfl⟩
 have A1 := zcb (U' := (· < s.nxt)) (dst := some tm') (v := .lit mv) (u := mv) A0 A0.heap same0 A0.used (by simp [zi]) (fun d hd => by cases hd; exact z2);have A2 := zcb (U' := (· < s.nxt)) (dst := some ti) (v := .lit pi) (u := pi) A1 A1.heap same0 A1.used (by simp [zi]) (fun d hd => by cases hd; exact z3);generalize hact : ((a.put (some tm') mv).put (some ti) pi) = a2 at A2 ⊢;have etm : a2.tmps.getD tm undef = mv := by rw [<- hact, zce n2, zce n1, hmv]
 have A3 : zcn ⟨s.n, (ti, .lit pi) :: (tm', .lit mv) :: (tm, .lit mv) :: s.tm, (id, none) :: s.hp, s.nxt⟩ gd a2 w0 := by
  refine ⟨A2.defers, A2.size, fun t => ?_, A2.used, ?_⟩
  ·simp only [St.get, find];have h := A2.tmp t;simp only [zhj, Option.some.injEq] at h;by_cases e3 : ti = t
   ·rw [if_pos e3] at h ⊢; exact h
   ·rw [if_neg e3] at h ⊢;by_cases e2 : tm' = t
    ·rw [if_pos e2] at h ⊢; exact h
    ·rw [if_neg e2] at h ⊢;by_cases e1 : tm = t
     ·rw [if_pos e1]; simp only [Option.getD_some, zi]; rw [<- e1, etm]
     ·rw [if_neg e1]; exact h
  ·have : (St.obj ⟨s.n, (ti, .lit pi) :: (tm', .lit mv) :: (tm, .lit mv) :: s.tm, (id, none) :: s.hp, s.nxt⟩) = zbj s.obj id none := by
    funext x
    simp only [St.obj, find, zbj];by_cases e : id = x
    ·subst e; simp
    ·rw [if_neg e, if_neg (Ne.symm e)]
   rw [this]; exact A2.heap
 obtain ⟨gs, B1, B2⟩ := hstart pi mv gd a2 w0 A3;have Sd : zam gd w gs w0 := i2.trans B2;have notown : ∀ {g' : G} {w' : World}, zam gd w g' w' -> ¬ g'.owns bm /\ ¬ g'.ro bm := fun hs => ⟨fun h => by
  rcases hs.own bm h with h1 | h1
  ·omega
  ·exact hgdbm h1, fun h => by
  rcases hs.ro' bm h with h1 | h1 | h1
  ·exact hgdro h1
  ·omega
  ·exact hgdbm h1⟩
 have hbsz : ¬ gd.owns bi /\ ¬ gd.ro bi := ⟨fun h => absurd (low bi h) (Nat.lt_irrefl _), fun h => absurd (hrd.heap.ro bi h) (Nat.lt_irrefl _)⟩
 have start : Inv ks.length a2 w0 := by
  refine ⟨[], [], gs, clock, List.nodup_nil, by simp, rfl, fun i j hj => by simp at hj, B1, Sd, by simpa using hal2, Nat.le_refl _, by rw [hal bm hblt]; exact hb, fun h => ?_, fun h => ?_, (notown Sd).1, (notown Sd).2, by rw [hsz0]; exact Nat.lt_succ_self _⟩
  ·rcases B2.own bi h with h1 | h1
   ·rw [hsz0] at h1; exact absurd h1 (by simp [bi])
   ·exact hbsz.1 h1
  ·rcases B2.ro' bi h with h1 | h1 | h1
   ·exact hbsz.2 h1
   ·rw [hsz0] at h1; exact absurd h1 (by simp [bi])
   ·exact hbsz.1 h1
 refine wp_block ?_;refine zqp Inv ?_ start;rintro m a3 w3 ⟨js, xs, g', last, hnd, hcnt, hxl, hplc, R0, S0, hbi, hlast, hbm, hno, hnr, hmo, hmr, hbilt⟩;obtain ⟨off, jm, jt, jid, jn⟩ := hJ pi mv xs;have tpi : a3.tmps.getD ti undef = pi := by
  have h := R0.tmp ti;rw [jt] at h;simpa only [zi] using h
 have tmv : a3.tmps.getD tm undef = mv := by
  have h := R0.tmp tm;rw [jm] at h;simpa only [zi] using h
 have hold : ∀ x ∈ es.toList, x.born < clock := hst.1;refine wp_seq ?_;refine wp_region ?_;rw [show List.range (#[o3, o4] : Array Oper).size = List.range' 0 [o3, o4].length from rfl, wpOps_eq_wpList (P := P) (ops := #[o3, o4]) [o3, o4] 0 (by intro j; simp)];simp only [wpList];rw [if_pos (by simp [Region.wanted, g3])];have rsz := R0.size;rcases run_next_at (P := P) w3 o3.type bi bm clock last _ es clock hbi hbm hold hlast with ⟨hnone, hrun⟩ | ⟨e, he, w4, hw4, hrun⟩
 ·have ex3 : (execOp a3.eval o3).run P w3 = .ok (.value (.tuple #[.bool false])) w3 := by
   simp only [execOp, h3, Act.eval, tpi];rw [Sem.run_bind, hrun];rfl
  have v3 : (a3.put (some tn) (.tuple #[.bool false])).tmps.getD tn undef = .tuple #[.bool false] := zcy (by rw [rsz, jn]; exact z4);have ex4 : (execOp (a3.put (some tn) (.tuple #[.bool false])).eval o4).run P w3 = .ok (.value (.bool false)) w3 := by
   simp only [execOp, h4, Act.eval, v3];simp [Instr.extract]
  left
  unfold Oper.wp;rw [ex3, Oper.upon_value, d3];rw [if_pos (by simp [Region.wanted, g4])];left
  rw [ex4, Oper.upon_value, d4];have same3 : zbt g' w3 g' w3 := ⟨fun b hb => ⟨hb, rfl⟩, fun _ hx => hx, fun _ _ => .inl rfl⟩
  have C1 := zcb (U' := (· < (J pi mv xs).nxt)) (dst := some tn) (v := .any) (u := .tuple #[.bool false]) R0 R0.heap same3 R0.used (by simp [zi]) (fun d hd => by cases hd; rw [jn]; exact z4);have C2 := zcb (U' := (· < (J pi mv xs).nxt)) (dst := some tb) (v := .d (.bool false)) (u := .bool false) C1 C1.heap same3 C1.used (by simp [zi, zv]) (fun d hd => by cases hd; rw [jn]; exact z5);generalize hact3 : ((a3.put (some tn) (.tuple #[.bool false])).put (some tb) (.bool false)) = a4 at C2 ⊢;have vb : a4.eval (.tmp tb) = .bool false := by
   show a4.tmps.getD tb undef = _
   rw [<- hact3];exact zcy (by rw [zgo, rsz, jn]; exact z5)
  have vm : a4.tmps.getD tm undef = mv := by rw [<- hact3, zce n10, zce n9, tmv]
  show (Code.seq _ _).wp P _ a4 w3
  refine wp_seq ?_;refine wp_cond_split vb (fun h => by cases h) fun _ => ?_;refine wp_exit ?_;simp only [Exit.then, Exit.inBlock, if_true];have C3 : zcn ⟨(J pi mv xs).n, (tb, .d (.bool false)) :: (tn, .any) :: (J pi mv xs).tm, (J pi mv xs).hp, (J pi mv xs).nxt⟩ g' a4 w3 := by
   refine ⟨C2.defers, C2.size, fun t => ?_, C2.used, C2.heap⟩;have h := C2.tmp t;simp only [zhj, Option.some.injEq] at h;simp only [St.get, find];by_cases e1 : tb = t
   ·rw [if_pos e1] at h ⊢; exact h
   ·rw [if_neg e1] at h ⊢;by_cases e2 : tn = t
    ·rw [if_pos e2] at h ⊢; exact h
    ·rw [if_neg e2] at h ⊢; exact h
  have off3 : OffSt id ⟨(J pi mv xs).n, (tb, .d (.bool false)) :: (tn, .any) :: (J pi mv xs).tm, (J pi mv xs).hp, (J pi mv xs).nxt⟩ := by
   refine ⟨fun t => ?_, off.gone, off.hp⟩;simp only [St.get, find];by_cases e1 : tb = t
   ·rw [if_pos e1]; rfl
   ·rw [if_neg e1];by_cases e2 : tn = t
    ·rw [if_pos e2]; rfl
    ·rw [if_neg e2]; exact off.tm t
  have hbm3 : bm < w3.heap.size := Nat.lt_of_lt_of_le hblt S0.size;have hfut : ∀ b, g.ro b -> g'.ro b /\ w3.heap[b]? = w.heap[b]? := fun b hb => ⟨S0.ro b (by rw [q2]; exact hb), S0.block b (hr.heap.ro b hb) fun ⟨x, M, hM, hvM, e⟩ => by
   have := (q4.live x M hM).2 hvM;rw [q2] at this;exact this.2 (by rw [e]; exact hb)⟩
  obtain ⟨gf, F1, F2, F3⟩ := adopt C3 off3 jid hv hbm3 hmo hmr (o := o) (fun g'' hro'' => ⟨hok.m, hok.pos, hok.len, hok.virt, fun h => (by rw [hv.2] at h; cases h.2), fun _ => ⟨hmapM, es, clock, hbm, hst, by
   rw [hrows];exact ents_data (ro := g.ro) (ro' := g'.ro) (fun b hb => ⟨by rw [hro'']; exact (hfut b hb).1, (hfut b hb).2⟩) hes⟩⟩) tm (by show tm < (J pi mv xs).n; rw [jn]; exact z1) vm
  rw [jn] at F1;refine ⟨_, gf, F1, ?_, hend pi mv xs ?_⟩
  ·refine ⟨S0.os, S0.tape, S0.output, S0.size, fun b hb hn => S0.block b hb fun h => hn (gdown b h).1, fun b hb => ?_, fun b hb => ?_, fun b hb => ?_⟩
   ·rcases (F2 b).1 hb with h | rfl
    ·exact (S0.own b h).imp (fun h => h) fun h => (gdown b h).1
    ·exact .inr ⟨id, L, hL, hv.1, rfl⟩
   ·rw [F3]; exact S0.ro b (by rw [q2]; exact hb)
   ·rw [F3] at hb;rcases S0.ro' b hb with h | h | h
    ·exact .inl (by rw [q2] at h; exact h)
    ·exact .inr (.inl h)
    ·exact .inr (.inr (gdown b h).1)
  ·refine perm_of_places hnd (fun j hj => ?_) hxl hplc;apply Classical.byContradiction
   intro hnj;have hjs : j < es.size := by rw [hesl]; exact hj
   have : es[j] ∈ leftOf es (js.map fun j => (es[j]?.map (·.born)).getD 0).toArray := by
    unfold leftOf;rw [Array.mem_filter];refine ⟨Array.getElem_mem hjs, ?_⟩;simp only [Bool.not_eq_true', List.contains_toArray, Bool.eq_false_iff, ne_eq];intro hc;have hc := List.contains_iff_mem.1 hc;obtain ⟨j', hj', ej⟩ := List.mem_map.1 hc;obtain ⟨i', hi'⟩ := List.mem_iff_getElem?.1 hj';have hlt' : j' < es.size := by rw [hesl]; exact (hplc i' j' hi').1
    rw [Array.getElem?_eq_getElem hlt'] at ej;simp only [Option.map_some, Option.getD_some] at ej;have hnd2 := hst.2.1;have : j' = j := by
     apply Classical.byContradiction
     intro hne';rcases Nat.lt_or_gt_of_ne hne' with h | h
     ·have := List.pairwise_iff_getElem.1 hnd2 j' j (by simpa using hlt') (by simpa using hjs) h;simp at this; exact this ej
     ·have := List.pairwise_iff_getElem.1 hnd2 j j' (by simpa using hjs) (by simpa using hlt') h;simp at this; exact this ej.symm
    exact hnj (this ▸ hj')
   have hpos := Array.size_pos_of_mem this;omega
 ·have hemem : e ∈ es.toList /\ (js.map fun j => (es[j]?.map (·.born)).getD 0).toArray.contains e.born = false := by
   unfold leftOf at he;simpa using he
  obtain ⟨he1, he2⟩ := hemem;obtain ⟨j0, hj0⟩ := List.mem_iff_getElem?.1 he1;have hj0' : es[j0]? = some e := by simpa using hj0
  have hj0l : j0 < ks.length := by rw [<- hesl]; exact (Array.getElem?_eq_some_iff.1 hj0').1
  obtain ⟨k, hk⟩ : ∃ k, ks[j0]? = some k := ⟨_, List.getElem?_eq_getElem hj0l⟩
  obtain ⟨e', he', hkey⟩ := hent j0 k hk;rw [hj0'] at he'; cases he';have hnj : j0 ∉ js := fun hm => by
   have : e.born ∈ (js.map fun j => (es[j]?.map (·.born)).getD 0) := List.mem_map.2 ⟨j0, hm, by simp [hj0']⟩;have h2 : (js.map fun j => (es[j]?.map (·.born)).getD 0).toArray.contains e.born = true := by simpa using this
   rw [he2] at h2; cases h2
  have hnd' : (js ++ [j0]).Nodup := by
   rw [List.nodup_append];exact ⟨hnd, by simp, fun x hx y hy => by simp at hy; subst hy; exact fun e => hnj (e ▸ hx)⟩
  have hsub : ∀ x ∈ js ++ [j0], x ∈ List.range ks.length := fun x hx => by
   rw [List.mem_range];rcases List.mem_append.1 hx with hx | hx
   ·obtain ⟨i, hi⟩ := List.mem_iff_getElem?.1 hx;exact (hplc i x hi).1
   ·simp at hx; subst hx; exact hj0l
  have hjslt : js.length < ks.length := by
   have hle := zpd hnd' hsub;simp at hle;omega
  have hw4h : w4.heap = w3.heap := by rcases hw4 with rfl | rfl <;> rfl
  let w5 := setBlock w4 bi (.mapIter (some bm) clock ((js.map fun j => (es[j]?.map (·.born)).getD 0).toArray.push e.born) clock)
  have hs5 : w5.heap.size = w3.heap.size := by show (w4.heap.setIfInBounds _ _).size = _; rw [hw4h]; simp
  have hb5 : ∀ b, b ≠ bi -> w5.heap[b]? = w3.heap[b]? := fun b hb => by
   show (w4.heap.setIfInBounds _ _)[b]? = _
   rw [hw4h, Array.getElem?_setIfInBounds_ne (Ne.symm hb)]
  have hi5 : w5.heap[bi]? = some (.mapIter (some bm) clock ((js.map fun j => (es[j]?.map (·.born)).getD 0).toArray.push e.born) clock) := by
   show (w4.heap.setIfInBounds _ _)[bi]? = _
   rw [hw4h, Array.getElem?_setIfInBounds_self_of_lt hbilt]
  have hne_bm : bm ≠ bi := Nat.ne_of_lt hblt;have hm5 : w5.heap[bm]? = some (.map es clock) := by rw [hb5 bm hne_bm]; exact hbm
  have ex3 : (execOp a3.eval o3).run P w3 = .ok (.value (.tuple #[.bool true, e.key, e.val])) w5 := by
   simp only [execOp, h3, Act.eval, tpi];rw [Sem.run_bind, hrun];rfl
  have v3 : (a3.put (some tn) (.tuple #[.bool true, e.key, e.val])).tmps.getD tn undef = .tuple #[.bool true, e.key, e.val] := zcy (by rw [rsz, jn]; exact z4);have ex4 : (execOp (a3.put (some tn) (.tuple #[.bool true, e.key, e.val])).eval o4).run P w5 = .ok (.value (.bool true)) w5 := by
   simp only [execOp, h4, Act.eval, v3];simp [Instr.extract]
  left
  unfold Oper.wp;rw [ex3, Oper.upon_value, d3];rw [if_pos (by simp [Region.wanted, g4])];left
  rw [ex4, Oper.upon_value, d4];have R5 : zcn (J pi mv xs) g' a3 w5 := rel_aside R0 hno hnr hs5 hb5;have S5 : zam gd w g' w5 := by
   refine ⟨?_, ⟨?_, ?_⟩, ?_, by rw [hs5]; exact S0.size, fun b hb hn => ?_, S0.own, S0.ro, S0.ro'⟩
   ·have : w5.os = w3.os := by rcases hw4 with rfl | rfl <;> rfl
    rw [this]; exact S0.os
   ·have : w5.tape = w3.tape := by rcases hw4 with rfl | rfl <;> rfl
    rw [this]; exact S0.tape.1
   ·refine S0.tape.2.imp (fun h => h) fun h => Nat.le_trans h ?_;rcases hw4 with rfl | rfl
    ·exact Nat.le_refl _
    ·exact Nat.le_succ _
   ·have : w5.output = w3.output := by rcases hw4 with rfl | rfl <;> rfl
    rw [this]; exact S0.output
   ·rw [hb5 b (Nat.ne_of_lt hb)];exact S0.block b hb hn
  have same5 : zbt g' w5 g' w5 := ⟨fun b hb => ⟨hb, rfl⟩, fun _ hx => hx, fun _ _ => .inl rfl⟩
  have C1 := zcb (U' := (· < (J pi mv xs).nxt)) (dst := some tn) (v := .any) (u := .tuple #[.bool true, e.key, e.val]) R5 R5.heap same5 R5.used (by simp [zi]) (fun d hd => by cases hd; rw [jn]; exact z4);have C2 := zcb (U' := (· < (J pi mv xs).nxt)) (dst := some tb) (v := .d (.bool true)) (u := .bool true) C1 C1.heap same5 C1.used (by simp [zi, zv]) (fun d hd => by cases hd; rw [jn]; exact z5);have asz : ((a3.put (some tn) (.tuple #[.bool true, e.key, e.val])).put (some tb) (.bool true)).tmps.size = s.n := by rw [zgo, zgo, rsz, jn]
  have vb : ((a3.put (some tn) (.tuple #[.bool true, e.key, e.val])).put (some tb) (.bool true)).eval (.tmp tb) = .bool true := by
   show Array.getD _ tb undef = _
   exact zcy (by rw [zgo, rsz, jn]; exact z5)
  have vi : ((a3.put (some tn) (.tuple #[.bool true, e.key, e.val])).put (some tb) (.bool true)).tmps.getD ti undef = pi := by
   rw [zce n5, zce n4, tpi]
  generalize ((a3.put (some tn) (.tuple #[.bool true, e.key, e.val])).put (some tb) (.bool true)) = a4 at C2 vb vi asz ⊢
  show (Code.seq _ _).wp P _ a4 w5
  refine wp_seq ?_;refine wp_cond_split vb (fun _ => ?_) fun h => by cases h
  refine wp_skip ?_
  show (Code.block b1 _).wp P _ a4 w5
  refine wp_block ?_;refine wp_seq ?_;refine wp_region ?_;rw [show List.range (l7.toArray).size = List.range' 0 l7.length by simp [List.range_eq_range'], wpOps_eq_wpList (P := P) (ops := l7.toArray) l7 0 (by intro j; simp)];have hgs : ∀ j : Nat, (l7.map (·.dst))[j]? = (l7.toArray[j]?).map fun o : Oper => o.dst := by intro j; simp
  have hborn : (js.map fun j => (es[j]?.map (·.born)).getD 0).toArray.push e.born = ((js ++ [j0]).map fun j => (es[j]?.map (·.born)).getD 0).toArray := by
   simp [hj0']
  have key : ∀ QQ : Exit -> Act -> World -> Prop, (∀ (a' : Act) (w' : World), (∃ s1 g1, zcn s1 g1 a' w' /\ zam g' w5 g1 w' /\ AWp P rest (fun e s'' => match e with | .normal => zei s'' (J pi mv (xs ++ [k])) | _ => False) s1) -> QQ .normal a' w') ->
    wpList P l7.toArray QQ (o5 :: o6 :: post) a4 w5 := by
   intro QQ hQQ;simp only [wpList];rw [if_pos (by simp [Region.wanted, g5])];left
   unfold Oper.wp;have ex5 : (execOp a4.eval o5).run P w5 = .ok (.value (.tuple #[e.key, e.val])) w5 := by
    simp only [execOp, h5, Act.eval, vi];rw [Sem.run_bind, run_entry_at w5 bi bm clock _ es clock e hi5 hm5 he1 hst.2.1];rfl
   have v5 : (a4.put (some te) (.tuple #[e.key, e.val])).tmps.getD te undef = .tuple #[e.key, e.val] := zcy (by rw [asz]; exact z6);have ex6 : (execOp (a4.put (some te) (.tuple #[e.key, e.val])).eval o6).run P w5 = .ok (.value e.key) w5 := by
    simp only [execOp, h6, Act.eval, v5];simp [Instr.extract]
   rw [ex5, Oper.upon_value, d5];rw [if_pos (by simp [Region.wanted, g6])];left
   rw [ex6, Oper.upon_value, d6];have C3 := zcb (U' := (· < (J pi mv xs).nxt)) (dst := some te) (v := .any) (u := .tuple #[e.key, e.val]) C2 C2.heap same5 C2.used (by simp [zi]) (fun d hd => by cases hd; rw [jn]; exact z6);have hkey5 : zv g'.ro w5 (kd k) e.key := zv.mono (fun b hb => ⟨S5.ro b (by rw [q2]; exact hb), S5.block b (hr.heap.ro b hb) fun ⟨x, M, hM, hvM, e⟩ => by
    have := (q4.live x M hM).2 hvM;rw [q2] at this;exact this.2 (by rw [e]; exact hb)⟩) _ _ hkey
   have C4 := zcb (U' := (· < (J pi mv xs).nxt)) (dst := some tk) (v := .d (kd k)) (u := e.key) C3 C3.heap same5 C3.used (by simpa only [zi] using hkey5) (fun d hd => by cases hd; rw [jn]; exact z7);refine zfo (P := P) hc (orc := orc) (gs := l7.map (·.dst)) (ops := l7.toArray) hgs (base := (J pi mv xs).nxt) (nxt := (J pi mv xs).nxt + post.length) (K := fun s' => AWp P rest (fun e s'' => match e with | .normal => zei s'' (J pi mv (xs ++ [k])) | _ => False) s') (g0 := g') (w0 := w5)
    (fun s' g'' a' w' h1 h2 h3 => hQQ a' w' ⟨s', g'', h1, h2, h3⟩) post 0 { entSt tn tb te tk (kd k) (J pi mv xs) with nxt := (J pi mv xs).nxt + post.length } g' _ w5 (by omega) rfl ?_ (zam.refl g' w5) (hround pi mv xs k (List.mem_of_getElem? hk) (by
     rw [hxl];exact hjslt) _ fun _ h => h)
   refine ⟨C4.defers, C4.size, fun t => ?_, fun x hx => C4.used x hx, C4.heap⟩;have h := C4.tmp t;simp only [zhj, Option.some.injEq] at h;simp only [entSt, St.get, find];by_cases e1 : tk = t
   ·rw [if_pos e1] at h ⊢; exact h
   ·rw [if_neg e1] at h ⊢;by_cases e2 : te = t
    ·rw [if_pos e2] at h ⊢; exact h
    ·rw [if_neg e2] at h ⊢;by_cases e3 : tb = t
     ·rw [if_pos e3] at h ⊢; exact h
     ·rw [if_neg e3] at h ⊢;by_cases e4 : tn = t
      ·rw [if_pos e4] at h ⊢; exact h
      ·rw [if_neg e4] at h ⊢; exact h
  rw [<- hl7] at key;refine key _ fun a' w' ⟨s1, g1, r1, st1, haw⟩ => ?_
  show rest.wp P _ a' w'
  refine wp_mono (haw g1 a' w' r1) fun ee a6 w6 ⟨s2, g2, r2, st2, hq⟩ => ?_;cases ee with
  | normal =>
   obtain ⟨g3, r3, st3⟩ := hq g2 a6 w6 r2;have St3 : zam g' w5 g3 w6 := (st1.trans st2).trans st3;have Sf : zam gd w g3 w6 := S5.trans St3;have hbi6 : w6.heap[bi]? = w5.heap[bi]? := St3.block bi (by rw [hs5]; exact hbilt) hno;have hbm6 : w6.heap[bm]? = w5.heap[bm]? := St3.block bm (by rw [hs5]; exact Nat.lt_of_lt_of_le hblt S0.size) hmo;refine ⟨m - 1, ?_, js ++ [j0], xs ++ [k], g3, clock, ?_, ?_, by simp [hxl], ?_, r3, Sf, by rw [hbi6, hi5, hborn], Nat.le_refl _, by rw [hbm6]; exact hm5, fun h => ?_, fun h => ?_, (notown Sf).1, (notown Sf).2, Nat.lt_of_lt_of_le (by rw [hs5]; exact hbilt) St3.size⟩
   ·omega
   ·exact hnd'
   ·simp; omega
   ·intro i j hi;by_cases hi' : i < js.length
    ·rw [List.getElem?_append_left hi'] at hi;rw [List.getElem?_append_left (by omega)];exact hplc i j hi
    ·rw [List.getElem?_append_right (by omega)] at hi;have hi0 : i - js.length = 0 := by
      have := (List.getElem?_eq_some_iff.1 hi).1;simp at this; omega
     rw [hi0] at hi;simp at hi;subst hi;refine ⟨hj0l, ?_⟩;rw [List.getElem?_append_right (by omega), hxl, hi0, hk];rfl
   ·rcases St3.own bi h with h1 | h1
    ·rw [hs5] at h1; omega
    ·exact hno h1
   ·rcases St3.ro' bi h with h1 | h1 | h1
    ·exact hnr h1
    ·rw [hs5] at h1; omega
    ·exact hno h1
  | _ => exact hq.elim
end Go.Abs

namespace Go.Proofs.YtdddknniooimmaaGreat
open Go.Abs Go.Shelf

def cand (h : Hd) : Nat -> Hd | 0 => h.l | 1 => h | _ => h.r
theorem cand_pick {hs : List Hd} {h : Hd} {i : Nat} (hi : i < 3) (hin : cand h i ∈ hs) (hpre : ∀ j, j < i -> cand h j ∉ hs) : pickH hs h = cand h i := by
 unfold pickH
 match i, hi with
 | 0, _ => rw [if_pos (show h.l ∈ hs from hin)]; rfl
 | 1, _ => rw [if_neg (show h.l ∉ hs from hpre 0 (by omega)), if_pos (show h ∈ hs from hin)]; rfl
 | 2, _ => rw [if_neg (show h.l ∉ hs from hpre 0 (by omega)), if_neg (show h ∉ hs from hpre 1 (by omega))]; rfl
theorem cand_all {hs : List Hd} {h k : Hd} (hk : k ∈ hs) (hp : pickH hs h = k) (hpre : ∀ j, j < 3 -> cand h j ∉ hs) : False := by
 have h0 : h.l ∉ hs := hpre 0 (by omega);have h1 : h ∉ hs := hpre 1 (by omega);have h2 : h.r ∉ hs := hpre 2 (by omega);unfold pickH at hp;rw [if_neg h0, if_neg h1] at hp;exact h2 (by rw [<- hp] at hk; exact hk)
theorem turnG_len : ∀ (h : Hd) (l : List Crk), (ztj h l).length <= l.length
 | h, [] => Nat.le_refl _
 | h, d :: t => by
  have := turnG_len d.h t;simp only [ztj];split <;> simp <;> omega
theorem polyOf_len : ∀ (l : List Crk), (zdp l).length <= l.length
 | [] => Nat.le_refl _
 | c :: t => by have := turnG_len c.h t; simp [zdp]; omega

def walkO (A : List (zf × List Hd)) : Ob := ⟨118, mapM, dr (zfa A)⟩
set_option maxHeartbeats 8000000 in
theorem walk_px {S : zf -> Bool} {C : List Crk} (hC : zhb S C) (hbd : ∀ d ∈ C, -100000 <= d.p.x /\ d.p.x <= 100000 /\ -100000 <= d.p.y /\ d.p.y <= 100000) {A : List (zf × List Hd)} {rem : Crk -> Prop} (hA : zej A rem) (hrem : ∀ d, rem d -> isC S d = true)
  {c : Crk} {n : Nat} (pc : Per (suc S) c n) (hn : n <= 1000000) (hr : ∀ i, i < n -> rem (itn (suc S) i c)) (lc : ∀ d ∈ orb (suc S) n c, d ≠ c -> zjk c.p d.p) {hs0 : List Hd} (hh : zab A c.p = c.h :: hs0) :
  PX Tryz.prog 89 [.hm 0, .d (.agg c.p.row)] [(0, walkO A)] [(0, 0)] [(0, walkO (zdj A (orb (suc S) n c)))] (.d (.agg [zaj (zdp (orb (suc S) n c))])) := by
 have hcC : isC S c = true := hrem _ (hr 0 pc.pos);have hnd := orb_nodup hC.cl hC.inj ((hC c).2 hcC) pc.least;have hMap := hA.walk hr hnd;have four : ∀ {A' : List (zf × List Hd)} {rem' : Crk -> Prop} (h : zej A' rem') (p : zf), (zab A' p).length <= 4 := fun {A' rem'} h p => by
  have hnd' : (zab A' p).Nodup := by
   unfold zab;cases hg : zan A' p with
   | none => exact List.nodup_nil
   | some hs => exact (h.some _ _ hg).2
  exact zpd (m := [Hd.e, Hd.n, Hd.w, Hd.s]) hnd' fun x _ => by cases x <;> simp
 have stepN : ∀ m, m < n -> (itn (suc S) (m + 1) c) = suc S (itn (suc S) m c) := fun m _ => zfl m c;have atC : ∀ m, isC S (itn (suc S) m c) = true := fun m => orb_isC hcC (n := m + 1) (zek.2 ⟨m, by omega, rfl⟩);have bdC : ∀ m, -100000 <= (itn (suc S) m c).p.x /\ (itn (suc S) m c).p.x <= 100000 /\ -100000 <= (itn (suc S) m c).p.y /\ (itn (suc S) m c).p.y <= 100000 := fun m => hbd _ ((hC _).2 (atC m))
 -- what a round needs
 have tk : ∀ m, m < n -> PX Tryz.prog 140 [.hm 0, .d (.agg (itn (suc S) m c).p.row), .d (.int .i64 (itn (suc S) m c).h.int)] [(0, walkO (zdj A (orb (suc S) m c)))] [(0, 0)] [(0, walkO (zdj A (orb (suc S) (m + 1) c)))] (.d (.bool true)) := fun m hm => by
  rw [zuz];have hM := hMap m (by omega);refine take_px _ _ ((hM.heads _ _).2 ⟨hr m hm, fun hmem => ?_⟩) (Nat.le_trans (four hM _) (by omega));have e1 : orb (suc S) n c = orb (suc S) m c ++ (itn (suc S) m c :: orb (suc S) (n - m - 1) (itn (suc S) (m + 1) c)) := by
   have : orb (suc S) n c = orb (suc S) (m + (n - m - 1 + 1)) c := by congr 1; omega
   rw [this, orb_add];simp only [orb];rw [zfl]
  rw [e1] at hnd;exact (List.nodup_append.1 hnd).2.2 _ hmem _ (by simp) rfl
 have fr : ∀ m, m < n -> PC Tryz.prog 141 [.int .i64 (itn (suc S) m c).h.int, .agg (itn (suc S) m c).p.row] (.p (.agg (itn (suc S) (m + 1) c).p.row)) := fun m hm => by
  rw [stepN m hm];exact from_ok _ _ (by have := bdC m; omega)
 have lk : ∀ m, m < n -> zgx .nl false (zhg (.agg (itn (suc S) (m + 1) c).p.row) (dr (zfa (zdj A (orb (suc S) (m + 1) c))))) (zdq (zab (zdj A (orb (suc S) (m + 1) c)) (itn (suc S) (m + 1) c).p)) = True := fun m _ => look_c _ _;have pk : ∀ m, m + 1 < n -> pickH (zab (zdj A (orb (suc S) (m + 1) c)) (itn (suc S) (m + 1) c).p) (itn (suc S) m c).h = (itn (suc S) (m + 1) c).h /\ (itn (suc S) (m + 1) c).h ∈ zab (zdj A (orb (suc S) (m + 1) c)) (itn (suc S) (m + 1) c).p := fun m hm => by
  have hM := hMap (m + 1) (by omega);have hin : (itn (suc S) (m + 1) c).h ∈ zab (zdj A (orb (suc S) (m + 1) c)) (itn (suc S) (m + 1) c).p := by
   refine (hM.heads _ _).2 ⟨hr _ hm, fun hmem => ?_⟩;have e1 : orb (suc S) n c = orb (suc S) (m + 1) c ++ (itn (suc S) (m + 1) c :: orb (suc S) (n - m - 2) (itn (suc S) (m + 2) c)) := by
    have : orb (suc S) n c = orb (suc S) (m + 1 + (n - m - 2 + 1)) c := by congr 1; omega
    rw [this, orb_add];simp only [orb];rw [zfl (m + 1)]
   rw [e1] at hnd;exact (List.nodup_append.1 hnd).2.2 _ hmem _ (by simp) rfl
  refine ⟨?_, hin⟩;have e2 : (itn (suc S) (m + 1) c).h = nxH S (itn (suc S) (m + 1) c).p (itn (suc S) m c).h := by rw [stepN m (by omega)]; rfl
  rw [e2];exact pickH_eq (fun k hk => hrem _ ((hM.heads _ _).1 hk).1) (by rw [<- e2]; exact hin)
 have zmw : ∀ m, m < n -> ((itn (suc S) (m + 1) c).p = c.p ↔ m + 1 = n) := fun m hm => by
  constructor
  ·intro e;apply Classical.byContradiction
   intro hne;have h1 := lc _ (zek.2 ⟨m + 1, by omega, rfl⟩) (pc.least (m + 1) (by omega) (by omega));rw [e] at h1;exact lowC_irr _ h1
  ·intro e; rw [e, pc.ret]
 have ps : ∀ m, zdp (orb (suc S) (m + 2) c) = if (itn (suc S) (m + 1) c).h = (itn (suc S) m c).h then zdp (orb (suc S) (m + 1) c) else zdp (orb (suc S) (m + 1) c) ++ [(itn (suc S) (m + 1) c).p] := fun m => polyOf_succ
 have pl : ∀ m, (zdp (orb (suc S) m c)).length <= m := fun m => by have := polyOf_len (orb (suc S) m c); rw [zlh] at this; exact this
 have ct : ∀ (l : List Hd) (h : Hd), l.length <= 4 -> PC Tryz.prog 144 [zdq l, .int .i64 h.int] (.p (.bool (decide (h ∈ l)))) := fun l h hl => hcont_ok l h (by omega);have len4 : ∀ m, m <= n -> ∀ p, (zab (zdj A (orb (suc S) m c)) p).length <= 4 := fun m hm p => four (hMap m hm) p;have l0 := look_c c.p A;rw [hh] at l0;have P1 : zdp (orb (suc S) 1 c) = [c.p] := rfl;have A0 : zdj A (orb (suc S) 0 c) = A := rfl;have i0 : itn (suc S) 0 c = c := rfl;have hpos := pc.pos;clear hMap four atC bdC hnd;generalize hP : (fun m => zdp (orb (suc S) m c)) = P at *;generalize hT : (fun m => zdj A (orb (suc S) m c)) = TA at *;generalize hI : (fun m => itn (suc S) m c) = cr at *;have hP' : ∀ m, zdp (orb (suc S) m c) = P m := fun m => by rw [<- hP]
 have hT' : ∀ m, zdj A (orb (suc S) m c) = TA m := fun m => by rw [<- hT]
 have hI' : ∀ m, itn (suc S) m c = cr m := fun m => by rw [<- hI]
 simp only [hP', hT', hI'] at *;clear hP' hT' hI' hP hT hI;rw [<- A0, <- i0];have l0' := l0;have back' : ∀ m, m < n -> ((cr (m + 1)).p = (cr 0).p ↔ m + 1 = n) := by rw [i0]; exact zmw
 rw [<- A0, <- i0] at l0';unfold walkO at tk ⊢;have P1' : P 1 = [(cr 0).p] := by rw [i0]; exact P1
 have lk1 : ∀ m, m < n -> zgx .nl false (zhg (.agg [.int .i64 (cr (m + 1)).p.x, .int .i64 (cr (m + 1)).p.y]) (dr (zfa (TA (m + 1))))) (zdq (zab (TA (m + 1)) (cr (m + 1)).p)) = True := lk;clear zmw P1 A0 l0 lk hh lc pc hr hrem hA hbd hC i0 A;refine zeo cx (fn := Tryz.f89) (c := _) 1 Tryz.func89 rfl rfl (lB rfl) rfl rfl fun Ls => ?_;rw [Tryz.ntmps89]; refine Nav.imp ?_;refine rg cx ?_;refine rg cx ?_;refine rx cx [(2, .p (zdq ((cr 0).h :: hs0)))] (fun K hK => by simp [push_cast, l0']; (repeat refine ob ?_); exact hK) ?_;refine rg cx ?_;refine zu (β := Nat) (fun m => ⟨55, [(0, .hm 0), (3, .ptr 1 0 0), (4, .ptr 2 0 0), (5, .ptr 3 0 0), (6, .d (.int .i64 (cr m).h.int)), (7, .ptr 5 0 0), (55, .pin 0 (Ls 0))], [(0, some ⟨118, mapM, dr (zfa (TA m))⟩), (1, some ⟨58, 2, [[.d (.int .i64 (cr 0).p.x), .d (.int .i64 (cr 0).p.y)]]⟩), (2, some ⟨55, 1, [[.nl]]⟩), (3, some ⟨55, 1, [[.hs 4 0 (P (m + 1)).length]]⟩), (4, some ⟨58, 2, dr ((P (m + 1)).map zf.row)⟩), (5, some ⟨58, 2, [[.d (.int .i64 (cr m).p.x), .d (.int .i64 (cr m).p.y)]]⟩)], 6⟩) (fun m => m < n) (fun m => n - m) 0 ?_ hpos ?_
 ·simp only [Nat.zero_add, P1'];refine wk [(0, some 0), (1, some 1), (2, some 2), (3, some 6), (4, some 4), (5, some 15)]
 ·intro m hm;have t1 := tk m hm;have f1 := fr m hm;have l1 := lk1 m hm;have k1 := back' m hm;have p1 := ps m;have q1 := pk m;have g1 := pl (m + 1);have n4 := len4 (m + 1) (by omega) (cr (m + 1)).p;generalize hpt : P (m + 1) = pts at *;generalize hpt2 : P (m + 1 + 1) = pts2 at *;refine Nav.imp ?_;refine rx cx [(3, .x ⟨[(0, 0)], [.hm 0, .d (.agg [.int .i64 (cr m).p.x, .int .i64 (cr m).p.y]), .d (.int .i64 (cr m).h.int)], [(0, ⟨118, mapM, dr (zfa (TA m))⟩)], [(0, 0)], none, [(0, ⟨118, mapM, dr (zfa (TA (m + 1)))⟩)], .d (.bool true)⟩)] (fun K hK => by simp [push_cast, t1]; (repeat refine ob ?_); exact hK) ?_;refine awp_cd true (fun hb => ?_) fun hb => ?_
  ·refine rx cx [(2, .p (.agg [.int .i64 (cr (m + 1)).p.x, .int .i64 (cr (m + 1)).p.y]))] (fun K hK => by simp [push_cast, f1]; (repeat refine ob ?_); exact hK) ?_;refine rg cx ?_;by_cases hk : m + 1 = n
   ·have hk1 := k1.2 hk;have hkx : (cr (m + 1)).p.x = (cr 0).p.x := by rw [hk1]
    have hky : (cr (m + 1)).p.y = (cr 0).p.y := by rw [hk1]
    have ht : List.take pts.length (pts.map zf.row) = pts.map zf.row := List.take_of_length_le (by simp);refine awp_cn true (by simp [push_cast, hkx, hky]) (fun hb => ?_) fun hb => ?_
    ·subst hk;rw [hpt];refine zaq 4 (pts.map zf.row) rfl (by simp [push_cast, ht]) fun K hK => ?_;simp [push_cast, St.fz, fzT, fzH, fzO, fz, fzL, fzR, zbx, zbo, zbn, zbm, ht];refine nx hK ?_; clear hK K;refine rg cx ?_;first | refine rx_r [(0, 0)] ?_ | refine rx_n [(0, 0)] ?_
     simp [push_cast];try decide
    ·simp at hb
   ·have hk1 : (cr (m + 1)).p.x = (cr 0).p.x -> ¬ (cr (m + 1)).p.y = (cr 0).p.y := fun e e' => hk (k1.1 (by cases h1 : (cr (m + 1)).p; cases h2 : (cr 0).p; simp only [h1, h2] at e e'; rw [e, e']));refine ze (b := false) (by simp [push_cast]; exact hk1) (fun hb => ?_) (fun hb => ?_) <;> (refine Nav.imp ?_)
    ·simp at hb
    ·obtain ⟨q2, q3⟩ := q1 (by omega);have h16 : (pts.length + 1) * 16 <= 140737488355328 := by omega
     have cc := fun k => ct (zab (TA (m + 1)) (cr (m + 1)).p) k n4;have lf := left_ok (cr m).h;have rgt := right_ok (cr m).h;have ne1 := (cr m).h.l_ne;have ne2 := (cr m).h.r_ne;generalize zab (TA (m + 1)) (cr (m + 1)).p = hs at *;generalize (cr m).h = h at *;generalize hnx : (cr (m + 1)).h = nx at *;refine rx cx [(1, .p (.int .i64 h.l.int)), (4, .p (.int .i64 h.r.int))] (fun K hK => by simp [push_cast, lf, rgt]; (repeat refine ob ?_); exact hK) ?_;refine zu (β := Nat) (fun i => ⟨55, [(0, .hm 0), (3, .ptr 1 0 0), (4, .ptr 2 0 0), (5, .ptr 3 0 0), (6, .d (.int .i64 h.int)), (7, .ptr 5 0 0), (34, .d (.agg [.int .i64 h.l.int, .int .i64 h.int, .int .i64 h.r.int])), (35, .d (.int .i64 i)), (55, .pin 0 (Ls 0))], [(0, some ⟨118, mapM, dr (zfa (TA (m + 1)))⟩), (1, some ⟨58, 2, [[.d (.int .i64 (cr 0).p.x), .d (.int .i64 (cr 0).p.y)]]⟩), (2, some ⟨55, 1, [[.nl]]⟩), (3, some ⟨55, 1, [[.hs 4 0 pts.length]]⟩), (4, some ⟨58, 2, dr (pts.map zf.row)⟩), (5, some ⟨58, 2, [[.d (.int .i64 (cr (m + 1)).p.x), .d (.int .i64 (cr (m + 1)).p.y)]]⟩)], 6⟩) (fun i => i <= 3 /\ ∀ j, j < i -> cand h j ∉ hs) (fun i => 3 - i) 0 ?_ ⟨by omega, by omega⟩ ?_
     ·refine wk [(0, some 0), (1, some 1), (2, some 2), (3, some 3), (4, some 4), (5, some 5)]
     ·rintro i ⟨hi, hpre⟩;refine Nav.imp ?_;refine rg cx ?_;by_cases hlt : i < 3
      ·have hb0 : ((i : Int) < 3) := by omega
       refine awp_cn true (by simp [push_cast, hb0]) (fun hb => ?_) fun hb => ?_
       ·obtain rfl | rfl | rfl : i = 0 \/ i = 1 \/ i = 2 := by omega
        ·refine rg cx ?_;by_cases hm2 : h.l ∈ hs
         ·have hx : nx = h.l := by
           have h9 := cand_pick (hs := hs) (h := h) (i := 0) (by omega) hm2 (fun j hj => hpre j hj);rw [q2] at h9;exact h9
          have c9 := cc h.l;rw [decide_eq_true hm2] at c9;refine rx cx [(2, .p (zdq hs)), (4, .p (.bool true))] (fun K hK => by simp [push_cast, l1, c9]; (repeat refine ob ?_); exact hK) ?_;refine awp_cd true (fun hb => ?_) fun hb => ?_
          ·refine rg cx ?_;have hne : ¬ h.l.int = h.int := fun e => ne1 (Hd.int_inj e);refine awp_cn true (by simp [push_cast, hne]) (fun hb => ?_) fun hb => ?_
           ·refine rx cx [] (fun K hK => by simp [push_cast, h16]; (repeat refine ob ?_); exact hK) ?_;refine rg cx ?_;refine ⟨m + 1, by omega, by omega, ?_⟩;subst hx;rw [if_neg (show ¬ h.l = h from ne1)] at p1;subst p1;refine wq [(0, some 0), (1, some 1), (2, some 2), (3, some 3), (4, some 21), (5, some 5)] (by simp [upT, upH, upR, upL, up, push_cast, hnx, hpt2])
           ·simp at hb
          ·simp at hb
         ·have c9 := cc h.l;rw [decide_eq_false hm2] at c9;refine rx cx [(2, .p (zdq hs)), (4, .p (.bool false))] (fun K hK => by simp [push_cast, l1, c9]; (repeat refine ob ?_); exact hK) ?_;refine awp_cd false (fun hb => ?_) fun hb => ?_
          ·simp at hb
          ·have w1 : IntKind.wrap .i64 (1 : Int) = 1 := wrap_i64 (by omega) (by omega);refine rx cx [] (fun K hK => by simp [push_cast, w1]; (repeat refine ob ?_); exact hK) ?_;refine ⟨0 + 1, ⟨by omega, fun j hj => ?_⟩, by omega, ?_⟩
           ·rcases Nat.lt_succ_iff_lt_or_eq.1 hj with h8 | rfl
            ·exact hpre j h8
            ·exact hm2
           ·refine wk [(0, some 0), (1, some 1), (2, some 2), (3, some 3), (4, some 4), (5, some 5)]
        ·refine rg cx ?_;by_cases hm2 : h ∈ hs
         ·have hx : nx = h := by
           have h9 := cand_pick (hs := hs) (h := h) (i := 1) (by omega) hm2 (fun j hj => hpre j hj);rw [q2] at h9;exact h9
          have c9 := cc h;rw [decide_eq_true hm2] at c9;refine rx cx [(2, .p (zdq hs)), (4, .p (.bool true))] (fun K hK => by simp [push_cast, l1, c9]; (repeat refine ob ?_); exact hK) ?_;refine awp_cd true (fun hb => ?_) fun hb => ?_
          ·refine rg cx ?_;refine awp_cd false (fun hb => ?_) fun hb => ?_
           ·simp at hb
           ·refine rg cx ?_;refine ⟨m + 1, by omega, by omega, ?_⟩;subst hx;rw [if_pos rfl] at p1;subst p1;refine wq [(0, some 0), (1, some 1), (2, some 2), (3, some 3), (4, some 4), (5, some 5)] (by simp [upT, upH, upR, upL, up, push_cast, hnx, hpt2])
          ·simp at hb
         ·have c9 := cc h;rw [decide_eq_false hm2] at c9;refine rx cx [(2, .p (zdq hs)), (4, .p (.bool false))] (fun K hK => by simp [push_cast, l1, c9]; (repeat refine ob ?_); exact hK) ?_;refine awp_cd false (fun hb => ?_) fun hb => ?_
          ·simp at hb
          ·have w1 : IntKind.wrap .i64 (2 : Int) = 2 := wrap_i64 (by omega) (by omega);refine rx cx [] (fun K hK => by simp [push_cast, w1]; (repeat refine ob ?_); exact hK) ?_;refine ⟨1 + 1, ⟨by omega, fun j hj => ?_⟩, by omega, ?_⟩
           ·rcases Nat.lt_succ_iff_lt_or_eq.1 hj with h8 | rfl
            ·exact hpre j h8
            ·exact hm2
           ·refine wk [(0, some 0), (1, some 1), (2, some 2), (3, some 3), (4, some 4), (5, some 5)]
        ·refine rg cx ?_;by_cases hm2 : h.r ∈ hs
         ·have hx : nx = h.r := by
           have h9 := cand_pick (hs := hs) (h := h) (i := 2) (by omega) hm2 (fun j hj => hpre j hj);rw [q2] at h9;exact h9
          have c9 := cc h.r;rw [decide_eq_true hm2] at c9;refine rx cx [(2, .p (zdq hs)), (4, .p (.bool true))] (fun K hK => by simp [push_cast, l1, c9]; (repeat refine ob ?_); exact hK) ?_;refine awp_cd true (fun hb => ?_) fun hb => ?_
          ·refine rg cx ?_;have hne : ¬ h.r.int = h.int := fun e => ne2 (Hd.int_inj e);refine awp_cn true (by simp [push_cast, hne]) (fun hb => ?_) fun hb => ?_
           ·refine rx cx [] (fun K hK => by simp [push_cast, h16]; (repeat refine ob ?_); exact hK) ?_;refine rg cx ?_;refine ⟨m + 1, by omega, by omega, ?_⟩;subst hx;rw [if_neg (show ¬ h.r = h from ne2)] at p1;subst p1;refine wq [(0, some 0), (1, some 1), (2, some 2), (3, some 3), (4, some 21), (5, some 5)] (by simp [upT, upH, upR, upL, up, push_cast, hnx, hpt2])
           ·simp at hb
          ·simp at hb
         ·have c9 := cc h.r;rw [decide_eq_false hm2] at c9;refine rx cx [(2, .p (zdq hs)), (4, .p (.bool false))] (fun K hK => by simp [push_cast, l1, c9]; (repeat refine ob ?_); exact hK) ?_;refine awp_cd false (fun hb => ?_) fun hb => ?_
          ·simp at hb
          ·have w1 : IntKind.wrap .i64 (3 : Int) = 3 := wrap_i64 (by omega) (by omega);refine rx cx [] (fun K hK => by simp [push_cast, w1]; (repeat refine ob ?_); exact hK) ?_;refine ⟨2 + 1, ⟨by omega, fun j hj => ?_⟩, by omega, ?_⟩
           ·rcases Nat.lt_succ_iff_lt_or_eq.1 hj with h8 | rfl
            ·exact hpre j h8
            ·exact hm2
           ·refine wk [(0, some 0), (1, some 1), (2, some 2), (3, some 3), (4, some 4), (5, some 5)]
       ·simp at hb
      ·exact (cand_all q3 q2 fun j hj => hpre j (by omega)).elim
  ·simp at hb
end Go.Proofs.YtdddknniooimmaaGreat

namespace Go.Proofs.YtdddknniooimmaaGreat
open Go.Abs Go.Shelf Go.RowKit Go.Lib Go.Sort

def sortPt_ren : Go.Shelf.Ren := ⟨fun | 6 => 87 | 15 => 133 | 14 => 139 | 28 => 191 | 29 => 192 | 20 => 203 | 21 => 204 | 22 => 205 | 23 => 206 | 24 => 207 | 25 => 208 | 26 => 209 | 27 => 210 | 46 => 242 | 47 => 234 | 48 => 235 | 49 => 243 | 50 => 244 | 57 => 276 | n => n, fun | 22 => 53 | 24 => 58 | 25 => 59 | 3 => 3 | 39 => 174 | 0 => 0 | 53 => 228 | 55 => 230 | 4 => 4 | 46 => 222 | 45 => 221 | 50 => 204 | 5 => 5 | 9 => 9 | 66 => 256 | 70 => 260 | 76 => 284 | 77 => 148 | n => n, fun n => n⟩
theorem sortPt_lays : SlLaysF0.n6 Tryz.prog sortPt_ren where
 mixed := by kernel_rfl
 f6 := ⟨Tryz.f87.name, by kernel_rfl, Tryz.func87.trans (congrArg some (by kernel_rfl))⟩
 f14 := ⟨Tryz.f139.name, by kernel_rfl, Tryz.func139.trans (congrArg some (by kernel_rfl))⟩
 f15 := Tryz.func133.trans (congrArg some (by kernel_rfl))
 f20 := ⟨Tryz.f203.name, by kernel_rfl, Tryz.func203.trans (congrArg some (by kernel_rfl))⟩
 f21 := ⟨Tryz.f204.name, by kernel_rfl, Tryz.func204.trans (congrArg some (by kernel_rfl))⟩
 f22 := ⟨Tryz.f205.name, by kernel_rfl, Tryz.func205.trans (congrArg some (by kernel_rfl))⟩
 f23 := ⟨Tryz.f206.name, by kernel_rfl, Tryz.func206.trans (congrArg some (by kernel_rfl))⟩
 f24 := ⟨Tryz.f207.name, by kernel_rfl, Tryz.func207.trans (congrArg some (by kernel_rfl))⟩
 f25 := ⟨Tryz.f208.name, by kernel_rfl, Tryz.func208.trans (congrArg some (by kernel_rfl))⟩
 f26 := ⟨Tryz.f209.name, by kernel_rfl, Tryz.func209.trans (congrArg some (by kernel_rfl))⟩
 f27 := ⟨Tryz.f210.name, by kernel_rfl, Tryz.func210.trans (congrArg some (by kernel_rfl))⟩
 f28 := Tryz.func191.trans (congrArg some (by kernel_rfl))
 f29 := Tryz.func192.trans (congrArg some (by kernel_rfl))
 f46 := ⟨Tryz.f242.name, by kernel_rfl, Tryz.func242.trans (congrArg some (by kernel_rfl))⟩
 f47 := Tryz.func234.trans (congrArg some (by kernel_rfl))
 f48 := Tryz.func235.trans (congrArg some (by kernel_rfl))
 f49 := ⟨Tryz.f243.name, by kernel_rfl, Tryz.func243.trans (congrArg some (by kernel_rfl))⟩
 f50 := ⟨Tryz.f244.name, by kernel_rfl, Tryz.func244.trans (congrArg some (by kernel_rfl))⟩
 f57 := ⟨Tryz.f276.name, by kernel_rfl, Tryz.func276.trans (congrArg some (by kernel_rfl))⟩
 t0 := Tryz.underlying0
 a0 := Tryz.isAgg0
 z0 := Tryz.sizeOf0
 v0 := Tryz.zeroValue0
 t3 := Tryz.underlying3
 a3 := Tryz.isAgg3
 z3 := Tryz.sizeOf3
 v3 := Tryz.zeroValue3
 t4 := Tryz.underlying4
 a4 := Tryz.isAgg4
 z4 := Tryz.sizeOf4
 v4 := Tryz.zeroValue4
 t5 := Tryz.underlying5
 a5 := Tryz.isAgg5
 z5 := Tryz.sizeOf5
 v5 := Tryz.zeroValue5
 t9 := Tryz.underlying9
 a9 := Tryz.isAgg9
 z9 := Tryz.sizeOf9
 v9 := Tryz.zeroValue9
 t22 := Tryz.underlying53
 a22 := Tryz.isAgg53
 z22 := Tryz.sizeOf53
 v22 := Tryz.zeroValue53
 t25 := Tryz.underlying59
 a25 := Tryz.isAgg59
 z25 := Tryz.sizeOf59
 v25 := Tryz.zeroValue59
 t39 := Tryz.underlying174
 a39 := Tryz.isAgg174
 z39 := Tryz.sizeOf174
 v39 := Tryz.zeroValue174
 t45 := Tryz.underlying221
 a45 := Tryz.isAgg221
 z45 := Tryz.sizeOf221
 v45 := Tryz.zeroValue221
 t46 := Tryz.underlying222
 a46 := Tryz.isAgg222
 z46 := Tryz.sizeOf222
 v46 := Tryz.zeroValue222
 t50 := Tryz.underlying204
 a50 := Tryz.isAgg204
 z50 := Tryz.sizeOf204
 v50 := Tryz.zeroValue204
 t53 := Tryz.underlying228
 a53 := Tryz.isAgg228
 z53 := Tryz.sizeOf228
 v53 := Tryz.zeroValue228
 t55 := Tryz.underlying230
 a55 := Tryz.isAgg230
 z55 := Tryz.sizeOf230
 v55 := Tryz.zeroValue230
 t66 := Tryz.underlying256
 a66 := Tryz.isAgg256
 z66 := Tryz.sizeOf256
 v66 := Tryz.zeroValue256
 t70 := Tryz.underlying260
 a70 := Tryz.isAgg260
 z70 := Tryz.sizeOf260
 v70 := Tryz.zeroValue260
 t76 := Tryz.underlying284
 a76 := Tryz.isAgg284
 z76 := Tryz.sizeOf284
 v76 := Tryz.zeroValue284
 t77 := Tryz.underlying148
 a77 := Tryz.isAgg148
 z77 := Tryz.sizeOf148
 v77 := Tryz.zeroValue148
def cfP : List D -> List D -> Int
 | [.int _ ax, .int _ ay], [.int _ bx, .int _ by'] => if ay ≠ by' then ay - by' else ax - bx
 | _, _ => 0
def nearC (c : zf) : Prop := -100000 <= c.x /\ c.x <= 100000 /\ -100000 <= c.y /\ c.y <= 100000
def VP (r : List D) : Prop := ∃ c : zf, r = c.row /\ nearC c
set_option maxHeartbeats 1000000 in
theorem cmpP_ok : zsj Tryz.prog 88 VP cfP := by
 rintro ro w a b va vb hro ⟨⟨ax, ay⟩, rfl, h1⟩ ⟨⟨bx, by'⟩, rfl, h2⟩ ha hb _ _;simp only [nearC] at h1 h2;simp only [zf.row, zt, zv] at ha hb;obtain ⟨_, _, rfl, rfl, _, _, rfl, rfl, rfl⟩ := ha;obtain ⟨_, _, rfl, rfl, _, _, rfl, rfl, rfl⟩ := hb;have w1 : IntKind.i64.wrap (ax - bx) = ax - bx := wrap_i64 (by omega) (by omega);have w2 : IntKind.i64.wrap (ay - by') = ay - by' := wrap_i64 (by omega) (by omega)
 go_enter Tryz.func88, Tryz.ntmps88
 go_wp2
 ·rename_i h
  go_ret
  refine ⟨?_, 0, _, by rw [alloc_eq_grow, alloc_eq_grow, grow_grow]; rfl⟩;simp at h;simp [cfP, h]
 ·rename_i h
  go_ret
  refine ⟨?_, 0, _, by rw [alloc_eq_grow, alloc_eq_grow, grow_grow]; rfl⟩;simp at h;simp [cfP, h]
theorem cfP_ord : zqg VP cfP where
 irrefl := by rintro _ ⟨⟨ax, ay⟩, rfl, _⟩; simp [cfP, zf.row]
 trans := by
  rintro _ _ _ ⟨⟨ax, ay⟩, rfl, _⟩ ⟨⟨bx, by'⟩, rfl, _⟩ ⟨⟨dx, dy⟩, rfl, _⟩;simp only [cfP, zf.row];intro h1 h2;split at h1 <;> split at h2 <;> split <;> omega
 ntrans := by
  rintro _ _ _ ⟨⟨ax, ay⟩, rfl, _⟩ ⟨⟨bx, by'⟩, rfl, _⟩ ⟨⟨dx, dy⟩, rfl, _⟩;simp only [cfP, zf.row];intro h1 h2;split at h1 <;> split at h2 <;> split <;> omega
theorem cfP_cells (a b : zf) : cfP a.row b.row < 0 ↔ zjk a b := by
 obtain ⟨ax, ay⟩ := a;obtain ⟨bx, by'⟩ := b;simp only [cfP, zf.row, zjk];split <;> omega
theorem sortPt_px (l s : List zf) (hp : s.Perm l) (hs : s.Pairwise zjk) (hon : ∀ c ∈ l, nearC c) (hl : l.length <= 100000000) : PX Tryz.prog 87 [.hs 0 0 l.length, .d (.fn (.func 88) [])] [(0, ⟨58, 2, dr (l.map zf.row)⟩)] [(0, 0)] [(0, ⟨58, 2, dr (s.map zf.row)⟩)] (.tup []) := by
 have h := zvf (P := Tryz.prog) sortPt_lays (k := 2) (by decide) (fun w => by kernel_rfl) (fun w => by kernel_rfl) ⟨_, Tryz.func87, by kernel_rfl, by kernel_rfl⟩ (cg := 88) (fun args w => by kernel_rfl) cmpP_ok cfP_ord 58 (rows := l.map zf.row) (rows' := s.map zf.row)
  (fun r hr => by obtain ⟨c, hc, rfl⟩ := List.mem_map.1 hr; exact ⟨c, rfl, hon c hc⟩)
  (fun a ha b hb h1 h2 => by
   obtain ⟨c, hc, rfl⟩ := List.mem_map.1 ha;obtain ⟨d, hd, rfl⟩ := List.mem_map.1 hb;rw [cfP_cells] at h1 h2;rcases lowC_tri c d with h | h | h
   ·exact absurd h h2
   ·rw [h]
   ·exact absurd h h1)
  (hp.map _) (by
   rw [List.pairwise_map];refine hs.imp fun {a b} h => ?_;rw [cfP_cells];exact zsw h) (by simp; omega)
 simp only [List.length_map] at h;exact h
theorem pw_of_lowC : ∀ {l : List zf}, l.Nodup -> ∃ s : List zf, s.Perm l /\ s.Pairwise zjk := fun {l} hd => by
 let le : zf -> zf -> Bool := fun a b => decide (a.y < b.y) || (decide (a.y = b.y) && decide (a.x <= b.x))
 have h1 : (l.mergeSort le).Pairwise fun a b => le a b = true := List.pairwise_mergeSort (fun a b c h1 h2 => by simp [le] at *; omega) (fun a b => by simp [le]; omega) l;have h2 : (l.mergeSort le).Nodup := (List.mergeSort_perm l le).nodup_iff.2 hd;refine ⟨_, List.mergeSort_perm l le, ?_⟩;refine (h1.and h2).imp fun {a b} h => ?_;obtain ⟨ha, hb⟩ := h;simp [le] at ha;rcases lowC_tri a b with h | h | h
 ·exact h
 ·exact absurd h hb
 ·unfold zjk at *; omega
end Go.Proofs.YtdddknniooimmaaGreat
