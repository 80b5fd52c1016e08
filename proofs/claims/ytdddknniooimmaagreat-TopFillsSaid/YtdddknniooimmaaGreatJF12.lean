/-
  Texts of this seat put together: BK1, BK2, BK3, X4, BK4, BK5, AbsH, BW3.
-/
import Derived.Test.YtdddknniooimmaaGreatJF10
import Derived.Test.YtdddknniooimmaaGreatJF11
import Derived.Test.YtdddknniooimmaaGreatJF9
import Derived.Test.YtdddknniooimmaaGreatJF8
import Derived.Test.YtdddknniooimmaaGreatChecked
import Derived.Maps.RangeRun
set_option linter.unusedVariables false
set_option linter.unusedSimpArgs false
set_option maxRecDepth 100000
set_option linter.unusedSectionVars false
namespace Go.Proofs.YtdddknniooimmaaGreat
open Go.Abs

structure Up where
 x : Int
 lo : Int
 hi : Int
 s : Int
 deriving DecidableEq
abbrev Up.row (u : Up) : List D := [.int .i64 u.x, .int .i64 u.lo, .int .i64 u.hi, .int .i64 u.s]
def edge (a b : ze) : List Up := if a.y < b.y then [⟨a.x, a.y, b.y, 1⟩] else if b.y < a.y then [⟨a.x, b.y, a.y, -1⟩] else []
def edgeAt (P : List ze) (k : Nat) : List Up := match P[k]?, P[(k + 1) % P.length]? with
 | some a, some b => edge a b
 | _, _ => []
def upsP (P : List ze) : List Up := (List.range P.length).flatMap (edgeAt P)
def ups (l : List (List ze)) : List Up := l.flatMap upsP


end Go.Proofs.YtdddknniooimmaaGreat

namespace Go.Proofs.YtdddknniooimmaaGreat
open Go.Abs Go.Shelf

def sortInt_ren : Go.Shelf.Ren := ⟨fun | 189 => 96 | 125 => 133 | 257 => 151 | 128 => 191 | 129 => 192 | 294 => 216 | 295 => 217 | 296 => 218 | 297 => 219 | 298 => 220 | 299 => 221 | 216 => 222 | 300 => 223 | 301 => 224 | 328 => 253 | 329 => 234 | 330 => 235 | 331 => 254 | 332 => 255 | 215 => 166 | 343 => 280 | n => n, fun | 28 => 134 | 3 => 3 | 46 => 174 | 0 => 0 | 51 => 228 | 53 => 230 | 4 => 4 | 183 => 222 | 182 => 221 | 131 => 204 | 5 => 5 | 9 => 9 | 218 => 256 | 222 => 260 | 228 => 284 | 229 => 148 | n => n, fun n => n⟩
theorem sortInt_lays : Lays.n189 Tryz.prog sortInt_ren where
 mixed := by kernel_rfl
 f125 := Tryz.func133.trans (congrArg some (by kernel_rfl))
 f128 := Tryz.func191.trans (congrArg some (by kernel_rfl))
 f129 := Tryz.func192.trans (congrArg some (by kernel_rfl))
 f189 := Tryz.func96.trans (congrArg some (by kernel_rfl))
 f215 := Tryz.func166.trans (congrArg some (by kernel_rfl))
 f216 := Tryz.func222.trans (congrArg some (by kernel_rfl))
 f257 := Tryz.func151.trans (congrArg some (by kernel_rfl))
 f294 := Tryz.func216.trans (congrArg some (by kernel_rfl))
 f295 := Tryz.func217.trans (congrArg some (by kernel_rfl))
 f296 := Tryz.func218.trans (congrArg some (by kernel_rfl))
 f297 := Tryz.func219.trans (congrArg some (by kernel_rfl))
 f298 := Tryz.func220.trans (congrArg some (by kernel_rfl))
 f299 := Tryz.func221.trans (congrArg some (by kernel_rfl))
 f300 := Tryz.func223.trans (congrArg some (by kernel_rfl))
 f301 := Tryz.func224.trans (congrArg some (by kernel_rfl))
 f328 := Tryz.func253.trans (congrArg some (by kernel_rfl))
 f329 := Tryz.func234.trans (congrArg some (by kernel_rfl))
 f330 := Tryz.func235.trans (congrArg some (by kernel_rfl))
 f331 := Tryz.func254.trans (congrArg some (by kernel_rfl))
 f332 := Tryz.func255.trans (congrArg some (by kernel_rfl))
 f343 := Tryz.func280.trans (congrArg some (by kernel_rfl))
 t0 := Tryz.underlying0
 a0 := Tryz.isAgg0
 z0 := Tryz.sizeOf0
 v0 := Tryz.zeroValue0
 t3 := Tryz.underlying3
 a3 := Tryz.isAgg3
 z3 := Tryz.sizeOf3
 v3 := Tryz.zeroValue3
 t4 := Tryz.underlying4
 a4 := Tryz.isAgg4
 z4 := Tryz.sizeOf4
 v4 := Tryz.zeroValue4
 t5 := Tryz.underlying5
 a5 := Tryz.isAgg5
 z5 := Tryz.sizeOf5
 v5 := Tryz.zeroValue5
 t9 := Tryz.underlying9
 a9 := Tryz.isAgg9
 z9 := Tryz.sizeOf9
 v9 := Tryz.zeroValue9
 t28 := Tryz.underlying134
 a28 := Tryz.isAgg134
 z28 := Tryz.sizeOf134
 v28 := Tryz.zeroValue134
 t46 := Tryz.underlying174
 a46 := Tryz.isAgg174
 z46 := Tryz.sizeOf174
 v46 := Tryz.zeroValue174
 t51 := Tryz.underlying228
 a51 := Tryz.isAgg228
 z51 := Tryz.sizeOf228
 v51 := Tryz.zeroValue228
 t53 := Tryz.underlying230
 a53 := Tryz.isAgg230
 z53 := Tryz.sizeOf230
 v53 := Tryz.zeroValue230
 t131 := Tryz.underlying204
 a131 := Tryz.isAgg204
 z131 := Tryz.sizeOf204
 v131 := Tryz.zeroValue204
 t182 := Tryz.underlying221
 a182 := Tryz.isAgg221
 z182 := Tryz.sizeOf221
 v182 := Tryz.zeroValue221
 t183 := Tryz.underlying222
 a183 := Tryz.isAgg222
 z183 := Tryz.sizeOf222
 v183 := Tryz.zeroValue222
 t218 := Tryz.underlying256
 a218 := Tryz.isAgg256
 z218 := Tryz.sizeOf256
 v218 := Tryz.zeroValue256
 t222 := Tryz.underlying260
 a222 := Tryz.isAgg260
 z222 := Tryz.sizeOf260
 v222 := Tryz.zeroValue260
 t228 := Tryz.underlying284
 a228 := Tryz.isAgg284
 z228 := Tryz.sizeOf284
 v228 := Tryz.zeroValue284
 t229 := Tryz.underlying148
 a229 := Tryz.isAgg148
 z229 := Tryz.sizeOf148
 v229 := Tryz.zeroValue148
def compactInt_ren : Go.Shelf.Ren := ⟨fun | 20 => 97 | n => n, fun | 22 => 134 | 3 => 3 | 4 => 4 | 0 => 0 | n => n, fun n => n⟩
theorem compactInt_lays : Lays2.n20 Tryz.prog compactInt_ren where
 mixed := by kernel_rfl
 f20 := Tryz.func97.trans (congrArg some (by kernel_rfl))
 t0 := Tryz.underlying0
 a0 := Tryz.isAgg0
 z0 := Tryz.sizeOf0
 v0 := Tryz.zeroValue0
 t3 := Tryz.underlying3
 a3 := Tryz.isAgg3
 z3 := Tryz.sizeOf3
 v3 := Tryz.zeroValue3
 t4 := Tryz.underlying4
 a4 := Tryz.isAgg4
 z4 := Tryz.sizeOf4
 v4 := Tryz.zeroValue4
 t22 := Tryz.underlying134
 a22 := Tryz.isAgg134
 z22 := Tryz.sizeOf134
 v22 := Tryz.zeroValue134
 i3 := by kernel_rfl

theorem sortInts_px (l : List Int) (hl : l.length <= 1000000000) : PX Tryz.prog 96 [.hs 0 0 l.length] [(0, ⟨3, 1, dr (l.map zcp)⟩)] [(0, 0)] [(0, ⟨3, 1, dr ((l.mergeSort fun x y => decide (x <= y)).map zcp)⟩)] (.tup []) :=
 sortI_px sortInt_lays ⟨_, Tryz.func96, by kernel_rfl, by kernel_rfl⟩ 3 l (by omega)
theorem compactInts_px (l : List Int) (hl : l.length <= 1000000000) : PX Tryz.prog 97 [.hs 0 0 l.length] [(0, ⟨3, 1, dr (l.map zcp)⟩)] [(0, 0)] [(0, ⟨3, 1, dr ((Go.Lib.compact l ++ List.replicate (l.length - (Go.Lib.compact l).length) 0).map zcp)⟩)] (.hs 0 0 (Go.Lib.compact l).length) :=
 compactI_px compactInt_lays ⟨_, Tryz.func97, by kernel_rfl, by kernel_rfl⟩ 3 l (by omega)

theorem free_runs : ∀ l : List Run, D.freess (l.map Run.row) = true
 | [] => rfl
 | c :: l => by simp [D.freess, D.frees, D.free, free_runs l]
theorem cloneR_ok (l : List Run) (hl : l.length <= 100000000) : PC Tryz.prog 99 [zn l] (.f (zn l)) := by
 have h16 : l.length * 16 <= 140737488355328 := by omega
 refine pw cx Tryz.func99 Tryz.ntmps99 ?_;refine rg cx ?_;refine rg cx ?_;refine awp_ub 4 (by simp [push_cast]; exact ⟨rfl, rfl⟩) fun bu hu1 hu2 => ?_;refine awp_cd bu (fun hb => ?_) fun hb => ?_
 ·have hl0 : l = [] := by simpa using hu1 hb
  subst hl0;refine rg cx ?_;simp [push_cast]
 ·refine rx cx [] (fun K hK => by simp [push_cast, h16]; (repeat refine ob ?_); exact hK) ?_;have ht : List.take l.length (l.map Run.row) = l.map Run.row := List.take_of_length_le (by simp);simp [push_cast, ht, free_runs]
end Go.Proofs.YtdddknniooimmaaGreat

namespace Go.Proofs.YtdddknniooimmaaGreat
open Go.Abs


end Go.Proofs.YtdddknniooimmaaGreat

namespace Go.Abs
variable [Flag]
open Go.RowKit
open Go.ChangeMaps (setBlock)

mutual
def ziq (id : Nat) : AV -> Bool
 | .hs i _ _ => !decide (i = id)
 | .ptr i _ _ => !decide (i = id)
 | .hm i => !decide (i = id)
 | .pin i _ => !decide (i = id)
 | .agg l => zgk id l
 | .clo _ l => zgk id l
 | .tup l => zgk id l
 | .opt _ x => ziq id x
 | _ => true
def zgk (id : Nat) : List AV -> Bool
 | [] => true
 | a :: avs => ziq id a && zgk id avs
end
mutual
theorem zrj {g g' : G} {w : World} {id : Nat} (hl : ∀ i, i ≠ id -> g'.loc i = g.loc i) (hu : ∀ i, g.used i -> g'.used i) (hro : g'.ro = g.ro) : ∀ (x : AV) (v : Value), ziq id x = true -> zh g w x v -> zh g' w x v
 | .any, v, _, h => by simp [zh]
 | .nl, v, _, h => by simpa [zh] using h
 | .d x, v, _, h => by simpa only [zh, hro] using h
 | .ub p q, v, _, h => by simpa only [zh] using h
 | .lit u, v, _, h => by simpa only [zh] using h
 | .hs i off len, v, ho, h => by
  have hne : i ≠ id := by simpa [ziq] using ho
  simp only [zh, hl i hne] at h ⊢;exact ⟨⟨hu i h.1.1, h.1.2⟩, h.2⟩
 | .ptr i a b, v, ho, h => by
  have hne : i ≠ id := by simpa [ziq] using ho
  simp only [zh, hl i hne] at h ⊢;exact ⟨⟨hu i h.1.1, h.1.2⟩, h.2⟩
 | .hm i, v, ho, h => by
  have hne : i ≠ id := by simpa [ziq] using ho
  simp only [zh, hl i hne] at h ⊢;exact ⟨⟨hu i h.1.1, h.1.2⟩, h.2⟩
 | .pin i L, v, ho, h => by
  have hne : i ≠ id := by simpa [ziq] using ho
  simp only [zh, hl i hne] at h ⊢;exact ⟨hu i h.1, h.2⟩
 | .agg l, v, ho, h => by
  simp only [zh] at h ⊢;obtain ⟨vs, h1, h2, h3⟩ := h;exact ⟨vs, h1, h2, zkl hl hu hro l vs (by simpa only [ziq] using ho) h3⟩
 | .clo f l, v, ho, h => by
  simp only [zh] at h ⊢;obtain ⟨vs, h1, h3⟩ := h;exact ⟨vs, h1, zkl hl hu hro l vs (by simpa only [ziq] using ho) h3⟩
 | .tup l, v, ho, h => by
  simp only [zh] at h ⊢;obtain ⟨vs, h1, h3⟩ := h;exact ⟨vs, h1, zkl hl hu hro l vs (by simpa only [ziq] using ho) h3⟩
 | .opt b x, v, ho, h => by
  simp only [zh] at h ⊢;exact ⟨fun hb => zrj hl hu hro x v (by simpa only [ziq] using ho) (h.1 hb), h.2⟩
theorem zkl {g g' : G} {w : World} {id : Nat} (hl : ∀ i, i ≠ id -> g'.loc i = g.loc i) (hu : ∀ i, g.used i -> g'.used i) (hro : g'.ro = g.ro) : ∀ (l : List AV) (vs : List Value), zgk id l = true -> zj g w l vs -> zj g' w l vs
 | [], vs, _, h => by simpa only [zj] using h
 | a :: avs, vs, ho, h => by
  simp only [zgk, Bool.and_eq_true] at ho;simp only [zj] at h ⊢;obtain ⟨v, vs', h1, h2, h3⟩ := h;exact ⟨v, vs', h1, zrj hl hu hro a v ho.1 h2, zkl hl hu hro avs vs' ho.2 h3⟩
end
theorem offIds_get {id : Nat} : ∀ {l : List AV} {j : Nat} {a : AV}, zgk id l = true -> l[j]? = some a -> ziq id a = true
 | [], _, _, _, h => by simp at h
 | b :: l, 0, a, h, e => by
  simp only [zgk, Bool.and_eq_true] at h;simp at e; subst e; exact h.1
 | b :: l, j + 1, a, h, e => by
  simp only [zgk, Bool.and_eq_true] at h;exact offIds_get h.2 (by simpa using e)

structure OffSt (id : Nat) (s : St) : Prop where
 tm : ∀ t, ziq id (s.get t) = true
 gone : s.obj id = none
 hp : ∀ x o, s.obj x = some o -> ∀ (i : Nat) (r : List AV), o.rows[i]? = some r -> zgk id r = true

theorem ents_data {ro ro' : Nat -> Prop} {g g' : G} {w w' : World} : ∀ {R : List (List D)} {es : List MapEntry}, (∀ b, g.ro b -> g'.ro b /\ w'.heap[b]? = w.heap[b]?) -> zad g w (dr R) es -> zad g' w' (dr R) es
 | [], es, _, h => by simpa [dr, zad] using h
 | r :: R, es, hf, h => by
  have h : zad g w (r.map AV.d :: dr R) es := h
  show zad g' w' (r.map AV.d :: dr R) es
  simp only [zad] at h ⊢;obtain ⟨e, es', rfl, h1, h2⟩ := h;exact ⟨e, es', rfl, zj.of_ds (zq.mono hf _ _ (zj.to_ds h1)), ents_data (ro := ro) (ro' := ro') hf h2⟩

theorem adopt {s : St} {g' : G} {a : Act} {w' : World} (hr : zcs s g' a w') {id : Nat} (hoff : OffSt id s) (hid : id < s.nxt) {L : Loc} (hv : L.virt = false /\ L.map = true) (hb : L.blk < w'.heap.size) (how : ¬ g'.owns L.blk) (hro : ¬ g'.ro L.blk) {o : Ob}
  (hok : ∀ g'', g''.ro = g'.ro -> znf g'' w' L o) (t : Tmp) (hn : t < s.n) (ht : a.tmps.getD t undef = .map (some L.blk)) :
  ∃ g'', zcs ⟨s.n, (t, .hm id) :: s.tm, (id, some o) :: s.hp, s.nxt⟩ g'' a w' /\ (∀ b, g''.owns b ↔ g'.owns b \/ b = L.blk) /\ g''.ro = g'.ro := by
 have hloc : g'.loc id = none := hr.heap.gone id hoff.gone
 let g'' : G := ⟨g'.ro, fun x => if x = id then some L else g'.loc x, fun x => g'.used x \/ x = id⟩
 have l1 : ∀ i, i ≠ id -> g''.loc i = g'.loc i := fun i hi => by simp only [g'']; rw [if_neg hi]
 have l2 : g''.loc id = some L := by simp [g'']
 have u1 : ∀ i, g'.used i -> g''.used i := fun i hi => .inl hi;refine ⟨g'', ⟨hr.defers, hr.size, fun x => ?_, fun x hx => ?_, ?_⟩, fun b => ?_, rfl⟩
 ·show zh g'' w' ((find ((t, AV.hm id) :: s.tm) x).getD .any) _
  simp only [find];by_cases e : t = x
  ·subst e;rw [if_pos rfl];simp only [Option.getD_some, zh];rw [ht];exact ⟨⟨.inr rfl, rfl⟩, fun M hM => by rw [l2] at hM; cases hM; exact ⟨hv, rfl⟩⟩
  ·rw [if_neg e];exact zrj l1 u1 rfl _ _ (hoff.tm x) (hr.tmp x)
 ·rcases hx with hx | rfl
  ·exact hr.used x hx
  ·exact hid
 ·refine ⟨fun x o' hx => ?_, fun x hx => ?_, fun x M hM => ?_, fun x y M M' hM hM' h1 h2 hb' => ?_, fun b hb' => hr.heap.ro b hb'⟩
  ·simp only [St.obj, find] at hx;by_cases e : id = x
   ·subst e;rw [if_pos rfl] at hx;simp only [Option.getD_some, Option.some.injEq] at hx;subst hx;exact ⟨L, l2, hok g'' rfl⟩
   ·rw [if_neg e] at hx;obtain ⟨M, hM, hok'⟩ := hr.heap.own x o' hx;have hrow := hoff.hp x o' hx;refine ⟨M, by rw [l1 x (Ne.symm e)]; exact hM, hok'.m, hok'.pos, hok'.len, hok'.virt, fun h => ?_, fun h => ?_⟩
    ·obtain ⟨cur, c1, c2, c3, c5⟩ := hok'.cells h;refine ⟨cur, c1, c2, c3, fun i row hi => ⟨(c5 i row hi).1, fun j av hj => ?_⟩⟩;obtain ⟨v, k1, k2, k3⟩ := (c5 i row hi).2 j av hj;exact ⟨v, k1, k2, zrj l1 u1 rfl _ _ (offIds_get (hrow i row hi) hj) k3⟩
    ·obtain ⟨c0, es, clock, c1, c2, c3⟩ := hok'.ents h;refine ⟨c0, es, clock, c1, c2, ?_⟩;have : ∀ (rows : List (List AV)) (l : List MapEntry), (∀ (i : Nat) (r : List AV), rows[i]? = some r -> zgk id r = true) -> zad g' w' rows l -> zad g'' w' rows l := by
      intro rows;induction rows with
      | nil => intro l _ hl; simpa only [zad] using hl
      | cons r rs ih =>
       intro l hr' hl;simp only [zad] at hl ⊢;obtain ⟨e', l', h1, h2, h3⟩ := hl;exact ⟨e', l', h1, zkl l1 u1 rfl _ _ (hr' 0 r rfl) h2, ih l' (fun i q hq => hr' (i + 1) q (by simpa using hq)) h3⟩
     exact this _ _ hrow c3
  ·simp only [St.obj, find] at hx;by_cases e : id = x
   ·rw [if_pos e] at hx; cases hx
   ·rw [if_neg e] at hx;rw [l1 x (Ne.symm e)];exact hr.heap.gone x hx
  ·by_cases e : x = id
   ·subst e;rw [l2] at hM; cases hM;exact ⟨.inr rfl, fun _ => ⟨hb, hro⟩⟩
   ·rw [l1 x e] at hM;obtain ⟨k1, k2⟩ := hr.heap.live x M hM;exact ⟨.inl k1, k2⟩
  ·by_cases e : x = id
   ·subst e;rw [l2] at hM; cases hM;by_cases e' : y = x
    ·exact e'.symm
    ·rw [l1 y e'] at hM';exact absurd ⟨y, M', hM', h2, hb'.symm⟩ how
   ·rw [l1 x e] at hM;by_cases e' : y = id
    ·subst e';rw [l2] at hM'; cases hM';exact absurd ⟨x, M, hM, h1, hb'⟩ how
    ·rw [l1 y e'] at hM';exact hr.heap.inj x y M M' hM hM' h1 h2 hb'
 ·constructor
  ·rintro ⟨x, M, hM, hv', hb'⟩;by_cases e : x = id
   ·subst e;rw [l2] at hM; cases hM;exact .inr hb'.symm
   ·rw [l1 x e] at hM;exact .inl ⟨x, M, hM, hv', hb'⟩
  ·rintro (⟨x, M, hM, hv', hb'⟩ | rfl)
   ·have : x ≠ id := fun e => by subst e; rw [hloc] at hM; cases hM
    exact ⟨x, M, by rw [l1 x this]; exact hM, hv', hb'⟩
   ·exact ⟨id, L, l2, hv.1, rfl⟩

theorem rel_aside {U : Nat -> Prop} {g : G} {get : Nat -> AV} {obj : Nat -> Option Ob} {n : Nat} {a : Act} {w w' : World} (h : Rel U g get obj n a w) {bi : Nat} (how : ¬ g.owns bi) (hro : ¬ g.ro bi)
  (hsize : w'.heap.size = w.heap.size) (hblk : ∀ b, b ≠ bi -> w'.heap[b]? = w.heap[b]?) : Rel U g get obj n a w' := by
 have hlat : zbs g w g w' := ⟨fun b hb => ⟨hb, hblk b fun e => hro (e ▸ hb)⟩, fun _ hx => hx, fun _ _ => .inl rfl⟩
 refine ⟨h.defers, h.size, fun t => zh.later hlat _ _ (h.tmp t), h.used, fun id o ho => ?_, h.heap.gone, fun id L hL => ⟨(h.heap.live id L hL).1, fun hv => by rw [hsize]; exact (h.heap.live id L hL).2 hv⟩, h.heap.inj, fun b hb => by rw [hsize]; exact h.heap.ro b hb⟩;obtain ⟨L, hL, hok⟩ := h.heap.own id o ho;exact ⟨L, hL, hok.later hlat fun hv => hblk _ fun e => how ⟨id, L, hL, hv, e⟩⟩

theorem znx {α : Type} [DecidableEq α] : ∀ {l m : List α}, l.Nodup -> (∀ x ∈ l, x ∈ m) -> l.length <= m.length
 | [], m, _, _ => Nat.zero_le _
 | a :: l, m, hn, hs => by
  obtain ⟨h1, h2⟩ := List.nodup_cons.1 hn;have ha := hs a (by simp);have := znx (l := l) (m := m.erase a) h2 fun x hx => by
   have hne : x ≠ a := fun e => h1 (e ▸ hx);exact (List.mem_erase_of_ne hne).2 (hs x (by simp [hx]))
  rw [List.length_erase_of_mem ha] at this;have hp := List.length_pos_of_mem ha;simp only [List.length_cons];omega
theorem perm_of_places {α : Type} {ks xs : List α} {js : List Nat} (hnd : js.Nodup) (hall : ∀ j, j < ks.length -> j ∈ js) (hxs : xs.length = js.length) (h : ∀ i j : Nat, js[i]? = some j -> j < ks.length /\ xs[i]? = ks[j]?) : xs.Perm ks := by
 have h1 : js.Perm (List.range ks.length) := by
  refine (List.perm_ext_iff_of_nodup hnd List.nodup_range).2 fun j => ?_;rw [List.mem_range];constructor
  ·intro hj;obtain ⟨i, hi⟩ := List.mem_iff_getElem?.1 hj;exact (h i j hi).1
  ·exact hall j
 have h2 : xs.map some = js.map fun j => ks[j]? := by
  refine List.ext_getElem? fun i => ?_;simp only [List.getElem?_map];cases hi : js[i]? with
  | none =>
   have : xs[i]? = none := by rw [List.getElem?_eq_none_iff] at hi ⊢; omega
   rw [this]; rfl
  | some j =>
   obtain ⟨hj, e⟩ := h i j hi;rw [e, List.getElem?_eq_getElem hj]; simp
 have h3 : ks.map some = (List.range ks.length).map fun j => ks[j]? := by
  refine List.ext_getElem? fun i => ?_;simp only [List.getElem?_map];by_cases hi : i < ks.length
  ·rw [List.getElem?_range hi, List.getElem?_eq_getElem hi]; simp
  ·rw [List.getElem?_eq_none (by omega), List.getElem?_eq_none (by simp; omega)]; rfl
 have h4 : (xs.map some).Perm (ks.map some) := by rw [h2, h3]; exact h1.map _
 have h5 := h4.filterMap id;simpa using h5

def entSt (t16 t17 t18 t19 : Tmp) (kd : D) (s : St) : St := { s with tm := (t19, .d kd) :: (t18, .any) :: (t17, .d (.bool true)) :: (t16, .any) :: s.tm }

theorem awp_maprange {P : Program} {ty : TypeId -> Option TI} (hc : Ctx P ty) (orc : List (Nat × Res)) {α : Type} {r5 r6 r7 b0 b1 : Nat} {l7 : List Oper} (post : List Oper) (o1 o2 o3 o4 o5 o6 : Oper) (hl7 : l7 = o5 :: o6 :: post) {rest : Code}
  {T kt et : TypeId} {tm tm' ti tn tb te tk : Tmp} {ti0 : TI}
  (g1 : o1.guard = none) (g2 : o2.guard = none) (g3 : o3.guard = none) (g4 : o4.guard = none) (g5 : o5.guard = none) (g6 : o6.guard = none)
  (h1 : o1.op = .move (.tmp tm)) (d1 : o1.dst = some tm') (h2 : o2.op = .range T (.tmp tm')) (d2 : o2.dst = some ti)
  (h3 : o3.op = .next (.tmp ti) false) (d3 : o3.dst = some tn) (h4 : o4.op = .extract (.tmp tn) 0) (d4 : o4.dst = some tb)
  (h5 : o5.op = .entry (.tmp ti)) (d5 : o5.dst = some te) (h6 : o6.op = .extract (.tmp te) 0) (d6 : o6.dst = some tk)
  (hne : tm ≠ tm' /\ tm ≠ ti /\ tm' ≠ ti /\ ti ≠ tn /\ ti ≠ tb /\ tn ≠ tb /\ ti ≠ te /\ te ≠ tk /\ tm ≠ tn /\ tm ≠ tb)
  (hT : ty T = some ti0) (hTk : ti0.kind = .map kt et)
  {s : St} {id : Nat} {o : Ob} (ks : List α) (kd : α -> D) (vd : List D) (hm : s.get tm = .hm id) (ho : s.obj id = some o) (hid : id < s.nxt)
  (hrows : o.rows = dr (List.zipWith (fun k v => [kd k, v]) ks vd)) (hlen : vd.length = ks.length) (hn : tm < s.n /\ tm' < s.n /\ ti < s.n /\ tn < s.n /\ tb < s.n /\ te < s.n /\ tk < s.n)
  (J : Value -> Value -> List α -> St)
  (hJ : ∀ u v xs, OffSt id (J u v xs) /\ (J u v xs).get tm = .lit v /\ (J u v xs).get ti = .lit u /\ id < (J u v xs).nxt /\ (J u v xs).n = s.n) {Q : Exit -> St -> Prop}
  (hstart : ∀ u v, zeh ⟨s.n, (ti, .lit u) :: (tm', .lit v) :: (tm, .lit v) :: s.tm, (id, none) :: s.hp, s.nxt⟩ (J u v []))
  (hround : ∀ u v (xs : List α) (k : α), k ∈ ks -> xs.length < ks.length -> ∀ K : St -> Prop, (∀ s', AWp P rest (fun e s'' => match e with | .normal => zeh s'' (J u v (xs ++ [k])) | _ => False) s' -> K s') ->
   wpT ty P orc (l7.map (·.dst)) (J u v xs).nxt 0 post { entSt tn tb te tk (kd k) (J u v xs) with nxt := (J u v xs).nxt + post.length } K)
  (hend : ∀ u v (xs : List α), xs.Perm ks -> Q .normal ⟨s.n, (tm, .hm id) :: (tb, .d (.bool false)) :: (tn, .any) :: (J u v xs).tm, (id, some o) :: (J u v xs).hp, (J u v xs).nxt⟩) :
  AWp P (.seq (.region r5 #[o1, o2] false) (.block b0 (.loop (.seq (.region r6 #[o3, o4] false) (.seq (.cond (.tmp tb) .skip (.exit b0)) (.block b1 (.seq (.region r7 l7.toArray false) rest))))))) Q s := by
 intro g a w hr;obtain ⟨n1, n2, n3, n4, n5, n6, n7, n8, n9, n10⟩ := hne;obtain ⟨z1, z2, z3, z4, z5, z6, z7⟩ := hn;obtain ⟨L, hL, hok⟩ := hr.heap.own id o ho;have htm := hr.tmp tm;rw [hm] at htm;simp only [zh] at htm;obtain ⟨hv, hmv⟩ := htm.2 L hL;obtain ⟨hmapM, es, clock, hb, hst, hes⟩ := hok.ents hv;obtain ⟨hblt, hbro⟩ := (hr.heap.live id L hL).2 hv.1;have hu : P.underlying T = some (.map kt et) := zqd (hc.ok T ti0 hT) hTk;rw [hrows] at hes
 -- the entries, by their places
 have hesl : es.size = ks.length := by
  have : ∀ {rows : List (List AV)} {l : List MapEntry}, zad g w rows l -> rows.length = l.length := by
   intro rows;induction rows with
   | nil => intro l hl; simp only [zad] at hl; simp [hl]
   | cons r rs ih => intro l hl; simp only [zad] at hl; obtain ⟨e, l', rfl, _, h2⟩ := hl; simp [ih h2]
  have := this hes;simp [dr, hlen] at this;exact this.symm
 have hent : ∀ (j : Nat) (k : α), ks[j]? = some k -> ∃ e, es[j]? = some e /\ zr g.ro w (kd k) e.key := by
  have key : ∀ (ks : List α) (vd : List D) (l : List MapEntry), vd.length = ks.length -> zad g w (dr (List.zipWith (fun k v => [kd k, v]) ks vd)) l -> ∀ (j : Nat) (k : α), ks[j]? = some k -> ∃ e, l[j]? = some e /\ zr g.ro w (kd k) e.key := by
   intro ks;induction ks with
   | nil => intro vd l _ _ j k hj; simp at hj
   | cons k0 ks ih =>
    intro vd l hl h j k hj;cases vd with
    | nil => simp at hl
    | cons v0 vd =>
     have h : zad g w ([AV.d (kd k0), AV.d v0] :: dr (List.zipWith (fun k v => [kd k, v]) ks vd)) l := h;simp only [zad, zj, zh] at h;obtain ⟨e, l', rfl, ⟨v1, vs1, hv1, hk1, _⟩, h2⟩ := h;simp only [List.cons.injEq] at hv1;obtain ⟨rfl, _⟩ := hv1;cases j with
     | zero => simp at hj; subst hj; exact ⟨e, rfl, hk1⟩
     | succ j => exact ih vd l' (by simpa using hl) h2 j k (by simpa using hj)
  intro j k hj;obtain ⟨e, h1, h2⟩ := key ks vd es.toList hlen hes j k hj;exact ⟨e, by simpa using h1, h2⟩
 -- the beginning
 let bm := L.blk
 let bi := w.heap.size
 let w0 := w.alloc (.mapIter (some bm) clock #[] clock)
 let pi : Value := .pointer (some ⟨bi, 0, none⟩)
 let mv : Value := .map (some bm)
 have hsz := hr.size;obtain ⟨gd, q1, q2, q3, q4, q5, q6⟩ := hr.heap.drop id;have hrd : Rel (· < s.nxt) gd s.get (zbh s.obj id none) s.n a w := ⟨hr.defers, hr.size, fun t => zh.later q6 _ _ (hr.tmp t), fun x hx => hr.used x (q1 ▸ hx), q4⟩
 have gdown : ∀ b, gd.owns b -> g.owns b /\ b ≠ bm := by
  rintro b ⟨x, M, hM, hvM, rfl⟩;rw [q3] at hM;simp only at hM;split at hM
  ·cases hM
  ·rename_i hx;exact ⟨⟨x, M, hM, hvM, rfl⟩, fun e => hx (hr.heap.inj x id M L hM hL hvM hv.1 e)⟩
 have hgdbm : ¬ gd.owns bm := fun h => (gdown bm h).2 rfl;have hgdro : ¬ gd.ro bm := by rw [q2]; exact hbro
 have low : ∀ b, gd.owns b -> b < w.heap.size := fun b ⟨x, M, hM, hvM, e⟩ => e ▸ ((q4.live x M hM).2 hvM).1;have hal : ∀ b, b < w.heap.size -> w0.heap[b]? = w.heap[b]? := fun b hb => Go.heap_alloc_old w _ hb;have hal2 : w0.heap[bi]? = some (.mapIter (some bm) clock #[] clock) := Go.heap_alloc_new w _;have hsz0 : w0.heap.size = w.heap.size + 1 := by show (w.heap.push _).size = _; simp
 have hbelow : Below w.heap.size w w0 := ⟨rfl, ⟨rfl, .inr (Nat.le_refl _)⟩, rfl, by rw [hsz0]; exact Nat.le_succ _, hal⟩
 obtain ⟨i1, i2, i3⟩ := q4.idle hbelow
 -- what holds at a round's start
 let Inv : Nat -> Act -> World -> Prop := fun m a' w' => ∃ (js : List Nat) (xs : List α) (g' : G) (last : Nat), js.Nodup /\ js.length + m = ks.length /\ xs.length = js.length /\ (∀ i : Nat, ∀ j, js[i]? = some j -> j < ks.length /\ xs[i]? = ks[j]?) /\
  zcs (J pi mv xs) g' a' w' /\ zan gd w g' w' /\ w'.heap[bi]? = some (.mapIter (some bm) clock (js.map fun j => (es[j]?.map (·.born)).getD 0).toArray last) /\ clock <= last /\ w'.heap[bm]? = some (.map es clock) /\ ¬ g'.owns bi /\ ¬ g'.ro bi /\ ¬ g'.owns bm /\ ¬ g'.ro bm /\ bi < w'.heap.size
 refine wp_seq ?_;refine wp_region ?_;rw [show List.range (#[o1, o2] : Array Oper).size = List.range' 0 [o1, o2].length from rfl, wpOps_eq_wpList (P := P) (ops := #[o1, o2]) [o1, o2] 0 (by intro j; simp)];have ex1 : (execOp a.eval o1).run P w = .ok (.value mv) w := by
  simp only [execOp, h1, Act.eval, hmv, Sem.run_pure]; rfl
 have e1 : (a.put (some tm') mv).tmps.getD tm' undef = mv := zcv (by rw [hsz]; exact z2);have ex2 : (execOp (a.put (some tm') mv).eval o2).run P w = .ok (.value pi) w0 := by
  simp only [execOp, h2, Act.eval, e1];rw [Sem.run_bind, run_range_map w T kt et bm es clock hu hb];rfl
 simp only [wpList];rw [if_pos (by simp [Region.wanted, g1])];left
 unfold Oper.wp;rw [ex1, Oper.upon_value, d1];rw [if_pos (by simp [Region.wanted, g2])];left
 rw [ex2, Oper.upon_value, d2]
 show (Code.block b0 _).wp P _ _ _
 have hwide := hrd.heap;have A0 : Rel (· < s.nxt) gd s.get (zbh s.obj id none) s.n a w0 := ⟨hr.defers, hr.size, fun t => zh.later i3 _ _ (hrd.tmp t), hrd.used, i1⟩
 have same0 : zbs gd w0 gd w0 := ⟨fun b hb => ⟨hb, rfl⟩, fun _ hx => hx, fun _ _ => .inl rfl⟩
 have A1 := zcf (U' := (· < s.nxt)) (dst := some tm') (v := .lit mv) (u := mv) A0 A0.heap same0 A0.used (by simp [zh]) (fun d hd => by cases hd; exact z2);have A2 := zcf (U' := (· < s.nxt)) (dst := some ti) (v := .lit pi) (u := pi) A1 A1.heap same0 A1.used (by simp [zh]) (fun d hd => by cases hd; exact z3);generalize hact : ((a.put (some tm') mv).put (some ti) pi) = a2 at A2 ⊢;have etm : a2.tmps.getD tm undef = mv := by rw [<- hact, zcd n2, zcd n1, hmv]
 have A3 : zcs ⟨s.n, (ti, .lit pi) :: (tm', .lit mv) :: (tm, .lit mv) :: s.tm, (id, none) :: s.hp, s.nxt⟩ gd a2 w0 := by
  refine ⟨A2.defers, A2.size, fun t => ?_, A2.used, ?_⟩
  ·simp only [St.get, find];have h := A2.tmp t;simp only [zgu, Option.some.injEq] at h;by_cases e3 : ti = t
   ·rw [if_pos e3] at h ⊢; exact h
   ·rw [if_neg e3] at h ⊢;by_cases e2 : tm' = t
    ·rw [if_pos e2] at h ⊢; exact h
    ·rw [if_neg e2] at h ⊢;by_cases e1 : tm = t
     ·rw [if_pos e1]; simp only [Option.getD_some, zh]; rw [<- e1, etm]
     ·rw [if_neg e1]; exact h
  ·have : (St.obj ⟨s.n, (ti, .lit pi) :: (tm', .lit mv) :: (tm, .lit mv) :: s.tm, (id, none) :: s.hp, s.nxt⟩) = zbh s.obj id none := by
    funext x
    simp only [St.obj, find, zbh];by_cases e : id = x
    ·subst e; simp
    ·rw [if_neg e, if_neg (Ne.symm e)]
   rw [this]; exact A2.heap
 obtain ⟨gs, B1, B2⟩ := hstart pi mv gd a2 w0 A3;have Sd : zan gd w gs w0 := i2.trans B2;have notown : ∀ {g' : G} {w' : World}, zan gd w g' w' -> ¬ g'.owns bm /\ ¬ g'.ro bm := fun hs => ⟨fun h => by
  rcases hs.own bm h with h1 | h1
  ·omega
  ·exact hgdbm h1, fun h => by
  rcases hs.ro' bm h with h1 | h1 | h1
  ·exact hgdro h1
  ·omega
  ·exact hgdbm h1⟩
 have hbsz : ¬ gd.owns bi /\ ¬ gd.ro bi := ⟨fun h => absurd (low bi h) (Nat.lt_irrefl _), fun h => absurd (hrd.heap.ro bi h) (Nat.lt_irrefl _)⟩
 have start : Inv ks.length a2 w0 := by
  refine ⟨[], [], gs, clock, List.nodup_nil, by simp, rfl, fun i j hj => by simp at hj, B1, Sd, by simpa using hal2, Nat.le_refl _, by rw [hal bm hblt]; exact hb, fun h => ?_, fun h => ?_, (notown Sd).1, (notown Sd).2, by rw [hsz0]; exact Nat.lt_succ_self _⟩
  ·rcases B2.own bi h with h1 | h1
   ·rw [hsz0] at h1; exact absurd h1 (by simp [bi])
   ·exact hbsz.1 h1
  ·rcases B2.ro' bi h with h1 | h1 | h1
   ·exact hbsz.2 h1
   ·rw [hsz0] at h1; exact absurd h1 (by simp [bi])
   ·exact hbsz.1 h1
 refine wp_block ?_;refine zpf Inv ?_ start;rintro m a3 w3 ⟨js, xs, g', last, hnd, hcnt, hxl, hplc, R0, S0, hbi, hlast, hbm, hno, hnr, hmo, hmr, hbilt⟩;obtain ⟨off, jm, jt, jid, jn⟩ := hJ pi mv xs;have tpi : a3.tmps.getD ti undef = pi := by
  have h := R0.tmp ti;rw [jt] at h;simpa only [zh] using h
 have tmv : a3.tmps.getD tm undef = mv := by
  have h := R0.tmp tm;rw [jm] at h;simpa only [zh] using h
 have hold : ∀ x ∈ es.toList, x.born < clock := hst.1;refine wp_seq ?_;refine wp_region ?_;rw [show List.range (#[o3, o4] : Array Oper).size = List.range' 0 [o3, o4].length from rfl, wpOps_eq_wpList (P := P) (ops := #[o3, o4]) [o3, o4] 0 (by intro j; simp)];simp only [wpList];rw [if_pos (by simp [Region.wanted, g3])];have rsz := R0.size;rcases run_next_at (P := P) w3 o3.type bi bm clock last _ es clock hbi hbm hold hlast with ⟨hnone, hrun⟩ | ⟨e, he, w4, hw4, hrun⟩
 ·have ex3 : (execOp a3.eval o3).run P w3 = .ok (.value (.tuple #[.bool false])) w3 := by
   simp only [execOp, h3, Act.eval, tpi];rw [Sem.run_bind, hrun];rfl
  have v3 : (a3.put (some tn) (.tuple #[.bool false])).tmps.getD tn undef = .tuple #[.bool false] := zcv (by rw [rsz, jn]; exact z4);have ex4 : (execOp (a3.put (some tn) (.tuple #[.bool false])).eval o4).run P w3 = .ok (.value (.bool false)) w3 := by
   simp only [execOp, h4, Act.eval, v3];simp [Instr.extract]
  left
  unfold Oper.wp;rw [ex3, Oper.upon_value, d3];rw [if_pos (by simp [Region.wanted, g4])];left
  rw [ex4, Oper.upon_value, d4];have same3 : zbs g' w3 g' w3 := ⟨fun b hb => ⟨hb, rfl⟩, fun _ hx => hx, fun _ _ => .inl rfl⟩
  have C1 := zcf (U' := (· < (J pi mv xs).nxt)) (dst := some tn) (v := .any) (u := .tuple #[.bool false]) R0 R0.heap same3 R0.used (by simp [zh]) (fun d hd => by cases hd; rw [jn]; exact z4);have C2 := zcf (U' := (· < (J pi mv xs).nxt)) (dst := some tb) (v := .d (.bool false)) (u := .bool false) C1 C1.heap same3 C1.used (by simp [zh, zr]) (fun d hd => by cases hd; rw [jn]; exact z5);generalize hact3 : ((a3.put (some tn) (.tuple #[.bool false])).put (some tb) (.bool false)) = a4 at C2 ⊢;have vb : a4.eval (.tmp tb) = .bool false := by
   show a4.tmps.getD tb undef = _
   rw [<- hact3];exact zcv (by rw [zga, rsz, jn]; exact z5)
  have vm : a4.tmps.getD tm undef = mv := by rw [<- hact3, zcd n10, zcd n9, tmv]
  show (Code.seq _ _).wp P _ a4 w3
  refine wp_seq ?_;refine wp_cond_split vb (fun h => by cases h) fun _ => ?_;refine wp_exit ?_;simp only [Exit.then, Exit.inBlock, if_true];have C3 : zcs ⟨(J pi mv xs).n, (tb, .d (.bool false)) :: (tn, .any) :: (J pi mv xs).tm, (J pi mv xs).hp, (J pi mv xs).nxt⟩ g' a4 w3 := by
   refine ⟨C2.defers, C2.size, fun t => ?_, C2.used, C2.heap⟩;have h := C2.tmp t;simp only [zgu, Option.some.injEq] at h;simp only [St.get, find];by_cases e1 : tb = t
   ·rw [if_pos e1] at h ⊢; exact h
   ·rw [if_neg e1] at h ⊢;by_cases e2 : tn = t
    ·rw [if_pos e2] at h ⊢; exact h
    ·rw [if_neg e2] at h ⊢; exact h
  have off3 : OffSt id ⟨(J pi mv xs).n, (tb, .d (.bool false)) :: (tn, .any) :: (J pi mv xs).tm, (J pi mv xs).hp, (J pi mv xs).nxt⟩ := by
   refine ⟨fun t => ?_, off.gone, off.hp⟩;simp only [St.get, find];by_cases e1 : tb = t
   ·rw [if_pos e1]; rfl
   ·rw [if_neg e1];by_cases e2 : tn = t
    ·rw [if_pos e2]; rfl
    ·rw [if_neg e2]; exact off.tm t
  have hbm3 : bm < w3.heap.size := Nat.lt_of_lt_of_le hblt S0.size;have hfut : ∀ b, g.ro b -> g'.ro b /\ w3.heap[b]? = w.heap[b]? := fun b hb => ⟨S0.ro b (by rw [q2]; exact hb), S0.block b (hr.heap.ro b hb) fun ⟨x, M, hM, hvM, e⟩ => by
   have := (q4.live x M hM).2 hvM;rw [q2] at this;exact this.2 (by rw [e]; exact hb)⟩
  obtain ⟨gf, F1, F2, F3⟩ := adopt C3 off3 jid hv hbm3 hmo hmr (o := o) (fun g'' hro'' => ⟨hok.m, hok.pos, hok.len, hok.virt, fun h => (by rw [hv.2] at h; cases h.2), fun _ => ⟨hmapM, es, clock, hbm, hst, by
   rw [hrows];exact ents_data (ro := g.ro) (ro' := g'.ro) (fun b hb => ⟨by rw [hro'']; exact (hfut b hb).1, (hfut b hb).2⟩) hes⟩⟩) tm (by show tm < (J pi mv xs).n; rw [jn]; exact z1) vm
  rw [jn] at F1;refine ⟨_, gf, F1, ?_, hend pi mv xs ?_⟩
  ·refine ⟨S0.os, S0.tape, S0.output, S0.size, fun b hb hn => S0.block b hb fun h => hn (gdown b h).1, fun b hb => ?_, fun b hb => ?_, fun b hb => ?_⟩
   ·rcases (F2 b).1 hb with h | rfl
    ·exact (S0.own b h).imp (fun h => h) fun h => (gdown b h).1
    ·exact .inr ⟨id, L, hL, hv.1, rfl⟩
   ·rw [F3]; exact S0.ro b (by rw [q2]; exact hb)
   ·rw [F3] at hb;rcases S0.ro' b hb with h | h | h
    ·exact .inl (by rw [q2] at h; exact h)
    ·exact .inr (.inl h)
    ·exact .inr (.inr (gdown b h).1)
  ·refine perm_of_places hnd (fun j hj => ?_) hxl hplc;apply Classical.byContradiction
   intro hnj;have hjs : j < es.size := by rw [hesl]; exact hj
   have : es[j] ∈ leftOf es (js.map fun j => (es[j]?.map (·.born)).getD 0).toArray := by
    unfold leftOf;rw [Array.mem_filter];refine ⟨Array.getElem_mem hjs, ?_⟩;simp only [Bool.not_eq_true', List.contains_toArray, Bool.eq_false_iff, ne_eq];intro hc;have hc := List.contains_iff_mem.1 hc;obtain ⟨j', hj', ej⟩ := List.mem_map.1 hc;obtain ⟨i', hi'⟩ := List.mem_iff_getElem?.1 hj';have hlt' : j' < es.size := by rw [hesl]; exact (hplc i' j' hi').1
    rw [Array.getElem?_eq_getElem hlt'] at ej;simp only [Option.map_some, Option.getD_some] at ej;have hnd2 := hst.2.1;have : j' = j := by
     apply Classical.byContradiction
     intro hne';rcases Nat.lt_or_gt_of_ne hne' with h | h
     ·have := List.pairwise_iff_getElem.1 hnd2 j' j (by simpa using hlt') (by simpa using hjs) h;simp at this; exact this ej
     ·have := List.pairwise_iff_getElem.1 hnd2 j j' (by simpa using hjs) (by simpa using hlt') h;simp at this; exact this ej.symm
    exact hnj (this ▸ hj')
   have hpos := Array.size_pos_of_mem this;omega
 ·have hemem : e ∈ es.toList /\ (js.map fun j => (es[j]?.map (·.born)).getD 0).toArray.contains e.born = false := by
   unfold leftOf at he;simpa using he
  obtain ⟨he1, he2⟩ := hemem;obtain ⟨j0, hj0⟩ := List.mem_iff_getElem?.1 he1;have hj0' : es[j0]? = some e := by simpa using hj0
  have hj0l : j0 < ks.length := by rw [<- hesl]; exact (Array.getElem?_eq_some_iff.1 hj0').1
  obtain ⟨k, hk⟩ : ∃ k, ks[j0]? = some k := ⟨_, List.getElem?_eq_getElem hj0l⟩
  obtain ⟨e', he', hkey⟩ := hent j0 k hk;rw [hj0'] at he'; cases he';have hnj : j0 ∉ js := fun hm => by
   have : e.born ∈ (js.map fun j => (es[j]?.map (·.born)).getD 0) := List.mem_map.2 ⟨j0, hm, by simp [hj0']⟩;have h2 : (js.map fun j => (es[j]?.map (·.born)).getD 0).toArray.contains e.born = true := by simpa using this
   rw [he2] at h2; cases h2
  have hnd' : (js ++ [j0]).Nodup := by
   rw [List.nodup_append];exact ⟨hnd, by simp, fun x hx y hy => by simp at hy; subst hy; exact fun e => hnj (e ▸ hx)⟩
  have hsub : ∀ x ∈ js ++ [j0], x ∈ List.range ks.length := fun x hx => by
   rw [List.mem_range];rcases List.mem_append.1 hx with hx | hx
   ·obtain ⟨i, hi⟩ := List.mem_iff_getElem?.1 hx;exact (hplc i x hi).1
   ·simp at hx; subst hx; exact hj0l
  have hjslt : js.length < ks.length := by
   have hle := znx hnd' hsub;simp at hle;omega
  have hw4h : w4.heap = w3.heap := by rcases hw4 with rfl | rfl <;> rfl
  let w5 := setBlock w4 bi (.mapIter (some bm) clock ((js.map fun j => (es[j]?.map (·.born)).getD 0).toArray.push e.born) clock)
  have hs5 : w5.heap.size = w3.heap.size := by show (w4.heap.setIfInBounds _ _).size = _; rw [hw4h]; simp
  have hb5 : ∀ b, b ≠ bi -> w5.heap[b]? = w3.heap[b]? := fun b hb => by
   show (w4.heap.setIfInBounds _ _)[b]? = _
   rw [hw4h, Array.getElem?_setIfInBounds_ne (Ne.symm hb)]
  have hi5 : w5.heap[bi]? = some (.mapIter (some bm) clock ((js.map fun j => (es[j]?.map (·.born)).getD 0).toArray.push e.born) clock) := by
   show (w4.heap.setIfInBounds _ _)[bi]? = _
   rw [hw4h, Array.getElem?_setIfInBounds_self_of_lt hbilt]
  have hne_bm : bm ≠ bi := Nat.ne_of_lt hblt;have hm5 : w5.heap[bm]? = some (.map es clock) := by rw [hb5 bm hne_bm]; exact hbm
  have ex3 : (execOp a3.eval o3).run P w3 = .ok (.value (.tuple #[.bool true, e.key, e.val])) w5 := by
   simp only [execOp, h3, Act.eval, tpi];rw [Sem.run_bind, hrun];rfl
  have v3 : (a3.put (some tn) (.tuple #[.bool true, e.key, e.val])).tmps.getD tn undef = .tuple #[.bool true, e.key, e.val] := zcv (by rw [rsz, jn]; exact z4);have ex4 : (execOp (a3.put (some tn) (.tuple #[.bool true, e.key, e.val])).eval o4).run P w5 = .ok (.value (.bool true)) w5 := by
   simp only [execOp, h4, Act.eval, v3];simp [Instr.extract]
  left
  unfold Oper.wp;rw [ex3, Oper.upon_value, d3];rw [if_pos (by simp [Region.wanted, g4])];left
  rw [ex4, Oper.upon_value, d4];have R5 : zcs (J pi mv xs) g' a3 w5 := rel_aside R0 hno hnr hs5 hb5;have S5 : zan gd w g' w5 := by
   refine ⟨?_, ⟨?_, ?_⟩, ?_, by rw [hs5]; exact S0.size, fun b hb hn => ?_, S0.own, S0.ro, S0.ro'⟩
   ·have : w5.os = w3.os := by rcases hw4 with rfl | rfl <;> rfl
    rw [this]; exact S0.os
   ·have : w5.tape = w3.tape := by rcases hw4 with rfl | rfl <;> rfl
    rw [this]; exact S0.tape.1
   ·refine S0.tape.2.imp (fun h => h) fun h => Nat.le_trans h ?_;rcases hw4 with rfl | rfl
    ·exact Nat.le_refl _
    ·exact Nat.le_succ _
   ·have : w5.output = w3.output := by rcases hw4 with rfl | rfl <;> rfl
    rw [this]; exact S0.output
   ·rw [hb5 b (Nat.ne_of_lt hb)];exact S0.block b hb hn
  have same5 : zbs g' w5 g' w5 := ⟨fun b hb => ⟨hb, rfl⟩, fun _ hx => hx, fun _ _ => .inl rfl⟩
  have C1 := zcf (U' := (· < (J pi mv xs).nxt)) (dst := some tn) (v := .any) (u := .tuple #[.bool true, e.key, e.val]) R5 R5.heap same5 R5.used (by simp [zh]) (fun d hd => by cases hd; rw [jn]; exact z4);have C2 := zcf (U' := (· < (J pi mv xs).nxt)) (dst := some tb) (v := .d (.bool true)) (u := .bool true) C1 C1.heap same5 C1.used (by simp [zh, zr]) (fun d hd => by cases hd; rw [jn]; exact z5);have asz : ((a3.put (some tn) (.tuple #[.bool true, e.key, e.val])).put (some tb) (.bool true)).tmps.size = s.n := by rw [zga, zga, rsz, jn]
  have vb : ((a3.put (some tn) (.tuple #[.bool true, e.key, e.val])).put (some tb) (.bool true)).eval (.tmp tb) = .bool true := by
   show Array.getD _ tb undef = _
   exact zcv (by rw [zga, rsz, jn]; exact z5)
  have vi : ((a3.put (some tn) (.tuple #[.bool true, e.key, e.val])).put (some tb) (.bool true)).tmps.getD ti undef = pi := by
   rw [zcd n5, zcd n4, tpi]
  generalize ((a3.put (some tn) (.tuple #[.bool true, e.key, e.val])).put (some tb) (.bool true)) = a4 at C2 vb vi asz ⊢
  show (Code.seq _ _).wp P _ a4 w5
  refine wp_seq ?_;refine wp_cond_split vb (fun _ => ?_) fun h => by cases h
  refine wp_skip ?_
  show (Code.block b1 _).wp P _ a4 w5
  refine wp_block ?_;refine wp_seq ?_;refine wp_region ?_;rw [show List.range (l7.toArray).size = List.range' 0 l7.length by simp [List.range_eq_range'], wpOps_eq_wpList (P := P) (ops := l7.toArray) l7 0 (by intro j; simp)];have hgs : ∀ j : Nat, (l7.map (·.dst))[j]? = (l7.toArray[j]?).map fun o : Oper => o.dst := by intro j; simp
  have hborn : (js.map fun j => (es[j]?.map (·.born)).getD 0).toArray.push e.born = ((js ++ [j0]).map fun j => (es[j]?.map (·.born)).getD 0).toArray := by
   simp [hj0']
  have key : ∀ QQ : Exit -> Act -> World -> Prop, (∀ (a' : Act) (w' : World), (∃ s1 g1, zcs s1 g1 a' w' /\ zan g' w5 g1 w' /\ AWp P rest (fun e s'' => match e with | .normal => zeh s'' (J pi mv (xs ++ [k])) | _ => False) s1) -> QQ .normal a' w') ->
    wpList P l7.toArray QQ (o5 :: o6 :: post) a4 w5 := by
   intro QQ hQQ;simp only [wpList];rw [if_pos (by simp [Region.wanted, g5])];left
   unfold Oper.wp;have ex5 : (execOp a4.eval o5).run P w5 = .ok (.value (.tuple #[e.key, e.val])) w5 := by
    simp only [execOp, h5, Act.eval, vi];rw [Sem.run_bind, run_entry_at w5 bi bm clock _ es clock e hi5 hm5 he1 hst.2.1];rfl
   have v5 : (a4.put (some te) (.tuple #[e.key, e.val])).tmps.getD te undef = .tuple #[e.key, e.val] := zcv (by rw [asz]; exact z6);have ex6 : (execOp (a4.put (some te) (.tuple #[e.key, e.val])).eval o6).run P w5 = .ok (.value e.key) w5 := by
    simp only [execOp, h6, Act.eval, v5];simp [Instr.extract]
   rw [ex5, Oper.upon_value, d5];rw [if_pos (by simp [Region.wanted, g6])];left
   rw [ex6, Oper.upon_value, d6];have C3 := zcf (U' := (· < (J pi mv xs).nxt)) (dst := some te) (v := .any) (u := .tuple #[e.key, e.val]) C2 C2.heap same5 C2.used (by simp [zh]) (fun d hd => by cases hd; rw [jn]; exact z6);have hkey5 : zr g'.ro w5 (kd k) e.key := zr.mono (fun b hb => ⟨S5.ro b (by rw [q2]; exact hb), S5.block b (hr.heap.ro b hb) fun ⟨x, M, hM, hvM, e⟩ => by
    have := (q4.live x M hM).2 hvM;rw [q2] at this;exact this.2 (by rw [e]; exact hb)⟩) _ _ hkey
   have C4 := zcf (U' := (· < (J pi mv xs).nxt)) (dst := some tk) (v := .d (kd k)) (u := e.key) C3 C3.heap same5 C3.used (by simpa only [zh] using hkey5) (fun d hd => by cases hd; rw [jn]; exact z7);refine zgp (P := P) hc (orc := orc) (gs := l7.map (·.dst)) (ops := l7.toArray) hgs (base := (J pi mv xs).nxt) (nxt := (J pi mv xs).nxt + post.length) (K := fun s' => AWp P rest (fun e s'' => match e with | .normal => zeh s'' (J pi mv (xs ++ [k])) | _ => False) s') (g0 := g') (w0 := w5)
    (fun s' g'' a' w' h1 h2 h3 => hQQ a' w' ⟨s', g'', h1, h2, h3⟩) post 0 { entSt tn tb te tk (kd k) (J pi mv xs) with nxt := (J pi mv xs).nxt + post.length } g' _ w5 (by omega) rfl ?_ (zan.refl g' w5) (hround pi mv xs k (List.mem_of_getElem? hk) (by
     rw [hxl];exact hjslt) _ fun _ h => h)
   refine ⟨C4.defers, C4.size, fun t => ?_, fun x hx => C4.used x hx, C4.heap⟩;have h := C4.tmp t;simp only [zgu, Option.some.injEq] at h;simp only [entSt, St.get, find];by_cases e1 : tk = t
   ·rw [if_pos e1] at h ⊢; exact h
   ·rw [if_neg e1] at h ⊢;by_cases e2 : te = t
    ·rw [if_pos e2] at h ⊢; exact h
    ·rw [if_neg e2] at h ⊢;by_cases e3 : tb = t
     ·rw [if_pos e3] at h ⊢; exact h
     ·rw [if_neg e3] at h ⊢;by_cases e4 : tn = t
      ·rw [if_pos e4] at h ⊢; exact h
      ·rw [if_neg e4] at h ⊢; exact h
  rw [<- hl7] at key;refine key _ fun a' w' ⟨s1, g1, r1, st1, haw⟩ => ?_
  show rest.wp P _ a' w'
  refine wp_mono (haw g1 a' w' r1) fun ee a6 w6 ⟨s2, g2, r2, st2, hq⟩ => ?_;cases ee with
  | normal =>
   obtain ⟨g3, r3, st3⟩ := hq g2 a6 w6 r2;have St3 : zan g' w5 g3 w6 := (st1.trans st2).trans st3;have Sf : zan gd w g3 w6 := S5.trans St3;have hbi6 : w6.heap[bi]? = w5.heap[bi]? := St3.block bi (by rw [hs5]; exact hbilt) hno;have hbm6 : w6.heap[bm]? = w5.heap[bm]? := St3.block bm (by rw [hs5]; exact Nat.lt_of_lt_of_le hblt S0.size) hmo;refine ⟨m - 1, ?_, js ++ [j0], xs ++ [k], g3, clock, ?_, ?_, by simp [hxl], ?_, r3, Sf, by rw [hbi6, hi5, hborn], Nat.le_refl _, by rw [hbm6]; exact hm5, fun h => ?_, fun h => ?_, (notown Sf).1, (notown Sf).2, Nat.lt_of_lt_of_le (by rw [hs5]; exact hbilt) St3.size⟩
   ·omega
   ·exact hnd'
   ·simp; omega
   ·intro i j hi;by_cases hi' : i < js.length
    ·rw [List.getElem?_append_left hi'] at hi;rw [List.getElem?_append_left (by omega)];exact hplc i j hi
    ·rw [List.getElem?_append_right (by omega)] at hi;have hi0 : i - js.length = 0 := by
      have := (List.getElem?_eq_some_iff.1 hi).1;simp at this; omega
     rw [hi0] at hi;simp at hi;subst hi;refine ⟨hj0l, ?_⟩;rw [List.getElem?_append_right (by omega), hxl, hi0, hk];rfl
   ·rcases St3.own bi h with h1 | h1
    ·rw [hs5] at h1; omega
    ·exact hno h1
   ·rcases St3.ro' bi h with h1 | h1 | h1
    ·exact hnr h1
    ·rw [hs5] at h1; omega
    ·exact hno h1
  | _ => exact hq.elim
end Go.Abs

namespace Go.Proofs.YtdddknniooimmaaGreat
open Go.Abs Go.Shelf

def cand (h : Hd) : Nat -> Hd | 0 => h.l | 1 => h | _ => h.r
theorem cand_pick {hs : List Hd} {h : Hd} {i : Nat} (hi : i < 3) (hin : cand h i ∈ hs) (hpre : ∀ j, j < i -> cand h j ∉ hs) : pickH hs h = cand h i := by
 unfold pickH
 match i, hi with
 | 0, _ => rw [if_pos (show h.l ∈ hs from hin)]; rfl
 | 1, _ => rw [if_neg (show h.l ∉ hs from hpre 0 (by omega)), if_pos (show h ∈ hs from hin)]; rfl
 | 2, _ => rw [if_neg (show h.l ∉ hs from hpre 0 (by omega)), if_neg (show h ∉ hs from hpre 1 (by omega))]; rfl
theorem cand_all {hs : List Hd} {h k : Hd} (hk : k ∈ hs) (hp : pickH hs h = k) (hpre : ∀ j, j < 3 -> cand h j ∉ hs) : False := by
 have h0 : h.l ∉ hs := hpre 0 (by omega);have h1 : h ∉ hs := hpre 1 (by omega);have h2 : h.r ∉ hs := hpre 2 (by omega);unfold pickH at hp;rw [if_neg h0, if_neg h1] at hp;exact h2 (by rw [<- hp] at hk; exact hk)
theorem turnG_len : ∀ (h : Hd) (l : List Crk), (zfw h l).length <= l.length
 | h, [] => Nat.le_refl _
 | h, d :: t => by
  have := turnG_len d.h t;simp only [zfw];split <;> simp <;> omega
theorem polyOf_len : ∀ (l : List Crk), (zay l).length <= l.length
 | [] => Nat.le_refl _
 | c :: t => by have := turnG_len c.h t; simp [zay]; omega

def walkO (A : List (ze × List Hd)) : Ob := ⟨118, mapM, dr (zei A)⟩
set_option maxHeartbeats 8000000 in
theorem walk_px {S : ze -> Bool} {C : List Crk} (hC : zdg S C) (hbd : ∀ d ∈ C, -100000 <= d.p.x /\ d.p.x <= 100000 /\ -100000 <= d.p.y /\ d.p.y <= 100000) {A : List (ze × List Hd)} {rem : Crk -> Prop} (hA : zec A rem) (hrem : ∀ d, rem d -> isC S d = true)
  {c : Crk} {n : Nat} (pc : Per (suc S) c n) (hn : n <= 1000000) (hr : ∀ i, i < n -> rem (itn (suc S) i c)) (lc : ∀ d ∈ orb (suc S) n c, d ≠ c -> zdq c.p d.p) {hs0 : List Hd} (hh : zac A c.p = c.h :: hs0) :
  PX Tryz.prog 89 [.hm 0, .d (.agg c.p.row)] [(0, walkO A)] [(0, 0)] [(0, walkO (zde A (orb (suc S) n c)))] (.d (.agg [zai (zay (orb (suc S) n c))])) := by
 have hcC : isC S c = true := hrem _ (hr 0 pc.pos);have hnd := zmo hC.cl hC.inj ((hC c).2 hcC) pc.least;have hMap := hA.walk hr hnd;have four : ∀ {A' : List (ze × List Hd)} {rem' : Crk -> Prop} (h : zec A' rem') (p : ze), (zac A' p).length <= 4 := fun {A' rem'} h p => by
  have hnd' : (zac A' p).Nodup := by
   unfold zac;cases hg : zdp A' p with
   | none => exact List.nodup_nil
   | some hs => exact (h.some _ _ hg).2
  exact znx (m := [Hd.e, Hd.n, Hd.w, Hd.s]) hnd' fun x _ => by cases x <;> simp
 have stepN : ∀ m, m < n -> (itn (suc S) (m + 1) c) = suc S (itn (suc S) m c) := fun m _ => zdk m c;have atC : ∀ m, isC S (itn (suc S) m c) = true := fun m => znu hcC (n := m + 1) (zbt.2 ⟨m, by omega, rfl⟩);have bdC : ∀ m, -100000 <= (itn (suc S) m c).p.x /\ (itn (suc S) m c).p.x <= 100000 /\ -100000 <= (itn (suc S) m c).p.y /\ (itn (suc S) m c).p.y <= 100000 := fun m => hbd _ ((hC _).2 (atC m))
 -- what a round needs
 have tk : ∀ m, m < n -> PX Tryz.prog 140 [.hm 0, .d (.agg (itn (suc S) m c).p.row), .d (.int .i64 (itn (suc S) m c).h.int)] [(0, walkO (zde A (orb (suc S) m c)))] [(0, 0)] [(0, walkO (zde A (orb (suc S) (m + 1) c)))] (.d (.bool true)) := fun m hm => by
  rw [zuh];have hM := hMap m (by omega);refine take_px _ _ ((hM.heads _ _).2 ⟨hr m hm, fun hmem => ?_⟩) (Nat.le_trans (four hM _) (by omega));have e1 : orb (suc S) n c = orb (suc S) m c ++ (itn (suc S) m c :: orb (suc S) (n - m - 1) (itn (suc S) (m + 1) c)) := by
   have : orb (suc S) n c = orb (suc S) (m + (n - m - 1 + 1)) c := by congr 1; omega
   rw [this, zli];simp only [orb];rw [zdk]
  rw [e1] at hnd;exact (List.nodup_append.1 hnd).2.2 _ hmem _ (by simp) rfl
 have fr : ∀ m, m < n -> PC Tryz.prog 141 [.int .i64 (itn (suc S) m c).h.int, .agg (itn (suc S) m c).p.row] (.p (.agg (itn (suc S) (m + 1) c).p.row)) := fun m hm => by
  rw [stepN m hm];exact from_ok _ _ (by have := bdC m; omega)
 have lk : ∀ m, m < n -> zic .nl false (zhd (.agg (itn (suc S) (m + 1) c).p.row) (dr (zei (zde A (orb (suc S) (m + 1) c))))) (zdm (zac (zde A (orb (suc S) (m + 1) c)) (itn (suc S) (m + 1) c).p)) = True := fun m _ => look_c _ _;have pk : ∀ m, m + 1 < n -> pickH (zac (zde A (orb (suc S) (m + 1) c)) (itn (suc S) (m + 1) c).p) (itn (suc S) m c).h = (itn (suc S) (m + 1) c).h /\ (itn (suc S) (m + 1) c).h ∈ zac (zde A (orb (suc S) (m + 1) c)) (itn (suc S) (m + 1) c).p := fun m hm => by
  have hM := hMap (m + 1) (by omega);have hin : (itn (suc S) (m + 1) c).h ∈ zac (zde A (orb (suc S) (m + 1) c)) (itn (suc S) (m + 1) c).p := by
   refine (hM.heads _ _).2 ⟨hr _ hm, fun hmem => ?_⟩;have e1 : orb (suc S) n c = orb (suc S) (m + 1) c ++ (itn (suc S) (m + 1) c :: orb (suc S) (n - m - 2) (itn (suc S) (m + 2) c)) := by
    have : orb (suc S) n c = orb (suc S) (m + 1 + (n - m - 2 + 1)) c := by congr 1; omega
    rw [this, zli];simp only [orb];rw [zdk (m + 1)]
   rw [e1] at hnd;exact (List.nodup_append.1 hnd).2.2 _ hmem _ (by simp) rfl
  refine ⟨?_, hin⟩;have e2 : (itn (suc S) (m + 1) c).h = nxH S (itn (suc S) (m + 1) c).p (itn (suc S) m c).h := by rw [stepN m (by omega)]; rfl
  rw [e2];exact pickH_eq (fun k hk => hrem _ ((hM.heads _ _).1 hk).1) (by rw [<- e2]; exact hin)
 have zmd : ∀ m, m < n -> ((itn (suc S) (m + 1) c).p = c.p ↔ m + 1 = n) := fun m hm => by
  constructor
  ·intro e;apply Classical.byContradiction
   intro hne;have h1 := lc _ (zbt.2 ⟨m + 1, by omega, rfl⟩) (pc.least (m + 1) (by omega) (by omega));rw [e] at h1;exact zms _ h1
  ·intro e; rw [e, pc.ret]
 have ps : ∀ m, zay (orb (suc S) (m + 2) c) = if (itn (suc S) (m + 1) c).h = (itn (suc S) m c).h then zay (orb (suc S) (m + 1) c) else zay (orb (suc S) (m + 1) c) ++ [(itn (suc S) (m + 1) c).p] := fun m => polyOf_succ
 have pl : ∀ m, (zay (orb (suc S) m c)).length <= m := fun m => by have := polyOf_len (orb (suc S) m c); rw [zdj] at this; exact this
 have ct : ∀ (l : List Hd) (h : Hd), l.length <= 4 -> PC Tryz.prog 144 [zdm l, .int .i64 h.int] (.p (.bool (decide (h ∈ l)))) := fun l h hl => hcont_ok l h (by omega);have len4 : ∀ m, m <= n -> ∀ p, (zac (zde A (orb (suc S) m c)) p).length <= 4 := fun m hm p => four (hMap m hm) p;have l0 := look_c c.p A;rw [hh] at l0;have P1 : zay (orb (suc S) 1 c) = [c.p] := rfl;have A0 : zde A (orb (suc S) 0 c) = A := rfl;have i0 : itn (suc S) 0 c = c := rfl;have hpos := pc.pos;clear hMap four atC bdC hnd;generalize hP : (fun m => zay (orb (suc S) m c)) = P at *;generalize hT : (fun m => zde A (orb (suc S) m c)) = TA at *;generalize hI : (fun m => itn (suc S) m c) = cr at *;have hP' : ∀ m, zay (orb (suc S) m c) = P m := fun m => by rw [<- hP]
 have hT' : ∀ m, zde A (orb (suc S) m c) = TA m := fun m => by rw [<- hT]
 have hI' : ∀ m, itn (suc S) m c = cr m := fun m => by rw [<- hI]
 simp only [hP', hT', hI'] at *;clear hP' hT' hI' hP hT hI;rw [<- A0, <- i0];have l0' := l0;have back' : ∀ m, m < n -> ((cr (m + 1)).p = (cr 0).p ↔ m + 1 = n) := by rw [i0]; exact zmd
 rw [<- A0, <- i0] at l0';unfold walkO at tk ⊢;have P1' : P 1 = [(cr 0).p] := by rw [i0]; exact P1
 have lk1 : ∀ m, m < n -> zic .nl false (zhd (.agg [.int .i64 (cr (m + 1)).p.x, .int .i64 (cr (m + 1)).p.y]) (dr (zei (TA (m + 1))))) (zdm (zac (TA (m + 1)) (cr (m + 1)).p)) = True := lk;clear zmd P1 A0 l0 lk hh lc pc hr hrem hA hbd hC i0 A;refine zbv cx (fn := Tryz.f89) (c := _) 1 Tryz.func89 rfl rfl (lB rfl) rfl rfl fun Ls => ?_;rw [Tryz.ntmps89]; refine Nav.imp ?_;refine rg cx ?_;refine rg cx ?_;refine rx cx [(2, .p (zdm ((cr 0).h :: hs0)))] (fun K hK => by simp [push_cast, l0']; (repeat refine ob ?_); exact hK) ?_;refine rg cx ?_;refine zz (β := Nat) (fun m => ⟨55, [(0, .hm 0), (3, .ptr 1 0 0), (4, .ptr 2 0 0), (5, .ptr 3 0 0), (6, .d (.int .i64 (cr m).h.int)), (7, .ptr 5 0 0), (55, .pin 0 (Ls 0))], [(0, some ⟨118, mapM, dr (zei (TA m))⟩), (1, some ⟨58, 2, [[.d (.int .i64 (cr 0).p.x), .d (.int .i64 (cr 0).p.y)]]⟩), (2, some ⟨55, 1, [[.nl]]⟩), (3, some ⟨55, 1, [[.hs 4 0 (P (m + 1)).length]]⟩), (4, some ⟨58, 2, dr ((P (m + 1)).map ze.row)⟩), (5, some ⟨58, 2, [[.d (.int .i64 (cr m).p.x), .d (.int .i64 (cr m).p.y)]]⟩)], 6⟩) (fun m => m < n) (fun m => n - m) 0 ?_ hpos ?_
 ·simp only [Nat.zero_add, P1'];refine wk [(0, some 0), (1, some 1), (2, some 2), (3, some 6), (4, some 4), (5, some 15)]
 ·intro m hm;have t1 := tk m hm;have f1 := fr m hm;have l1 := lk1 m hm;have k1 := back' m hm;have p1 := ps m;have q1 := pk m;have g1 := pl (m + 1);have n4 := len4 (m + 1) (by omega) (cr (m + 1)).p;generalize hpt : P (m + 1) = pts at *;generalize hpt2 : P (m + 1 + 1) = pts2 at *;refine Nav.imp ?_;refine rx cx [(3, .x ⟨[(0, 0)], [.hm 0, .d (.agg [.int .i64 (cr m).p.x, .int .i64 (cr m).p.y]), .d (.int .i64 (cr m).h.int)], [(0, ⟨118, mapM, dr (zei (TA m))⟩)], [(0, 0)], none, [(0, ⟨118, mapM, dr (zei (TA (m + 1)))⟩)], .d (.bool true)⟩)] (fun K hK => by simp [push_cast, t1]; (repeat refine ob ?_); exact hK) ?_;refine awp_cd true (fun hb => ?_) fun hb => ?_
  ·refine rx cx [(2, .p (.agg [.int .i64 (cr (m + 1)).p.x, .int .i64 (cr (m + 1)).p.y]))] (fun K hK => by simp [push_cast, f1]; (repeat refine ob ?_); exact hK) ?_;refine rg cx ?_;by_cases hk : m + 1 = n
   ·have hk1 := k1.2 hk;have hkx : (cr (m + 1)).p.x = (cr 0).p.x := by rw [hk1]
    have hky : (cr (m + 1)).p.y = (cr 0).p.y := by rw [hk1]
    have ht : List.take pts.length (pts.map ze.row) = pts.map ze.row := List.take_of_length_le (by simp);refine awp_cn true (by simp [push_cast, hkx, hky]) (fun hb => ?_) fun hb => ?_
    ·subst hk;rw [hpt];refine zaf 4 (pts.map ze.row) rfl (by simp [push_cast, ht]) fun K hK => ?_;simp [push_cast, St.fz, fzT, fzH, fzO, fz, fzL, fzR, zbc, zat, zas, zaq, ht];refine nx hK ?_; clear hK K;refine rg cx ?_;first | refine znr [(0, 0)] ?_ | refine zns [(0, 0)] ?_
     simp [push_cast];try decide
    ·simp at hb
   ·have hk1 : (cr (m + 1)).p.x = (cr 0).p.x -> ¬ (cr (m + 1)).p.y = (cr 0).p.y := fun e e' => hk (k1.1 (by cases h1 : (cr (m + 1)).p; cases h2 : (cr 0).p; simp only [h1, h2] at e e'; rw [e, e']));refine zd (b := false) (by simp [push_cast]; exact hk1) (fun hb => ?_) (fun hb => ?_) <;> (refine Nav.imp ?_)
    ·simp at hb
    ·obtain ⟨q2, q3⟩ := q1 (by omega);have h16 : (pts.length + 1) * 16 <= 140737488355328 := by omega
     have cc := fun k => ct (zac (TA (m + 1)) (cr (m + 1)).p) k n4;have lf := left_ok (cr m).h;have rgt := right_ok (cr m).h;have ne1 := (cr m).h.l_ne;have ne2 := (cr m).h.r_ne;generalize zac (TA (m + 1)) (cr (m + 1)).p = hs at *;generalize (cr m).h = h at *;generalize hnx : (cr (m + 1)).h = nx at *;refine rx cx [(1, .p (.int .i64 h.l.int)), (4, .p (.int .i64 h.r.int))] (fun K hK => by simp [push_cast, lf, rgt]; (repeat refine ob ?_); exact hK) ?_;refine zz (β := Nat) (fun i => ⟨55, [(0, .hm 0), (3, .ptr 1 0 0), (4, .ptr 2 0 0), (5, .ptr 3 0 0), (6, .d (.int .i64 h.int)), (7, .ptr 5 0 0), (34, .d (.agg [.int .i64 h.l.int, .int .i64 h.int, .int .i64 h.r.int])), (35, .d (.int .i64 i)), (55, .pin 0 (Ls 0))], [(0, some ⟨118, mapM, dr (zei (TA (m + 1)))⟩), (1, some ⟨58, 2, [[.d (.int .i64 (cr 0).p.x), .d (.int .i64 (cr 0).p.y)]]⟩), (2, some ⟨55, 1, [[.nl]]⟩), (3, some ⟨55, 1, [[.hs 4 0 pts.length]]⟩), (4, some ⟨58, 2, dr (pts.map ze.row)⟩), (5, some ⟨58, 2, [[.d (.int .i64 (cr (m + 1)).p.x), .d (.int .i64 (cr (m + 1)).p.y)]]⟩)], 6⟩) (fun i => i <= 3 /\ ∀ j, j < i -> cand h j ∉ hs) (fun i => 3 - i) 0 ?_ ⟨by omega, by omega⟩ ?_
     ·refine wk [(0, some 0), (1, some 1), (2, some 2), (3, some 3), (4, some 4), (5, some 5)]
     ·rintro i ⟨hi, hpre⟩;refine Nav.imp ?_;refine rg cx ?_;by_cases hlt : i < 3
      ·have hb0 : ((i : Int) < 3) := by omega
       refine awp_cn true (by simp [push_cast, hb0]) (fun hb => ?_) fun hb => ?_
       ·obtain rfl | rfl | rfl : i = 0 \/ i = 1 \/ i = 2 := by omega
        ·refine rg cx ?_;by_cases hm2 : h.l ∈ hs
         ·have hx : nx = h.l := by
           have h9 := cand_pick (hs := hs) (h := h) (i := 0) (by omega) hm2 (fun j hj => hpre j hj);rw [q2] at h9;exact h9
          have c9 := cc h.l;rw [decide_eq_true hm2] at c9;refine rx cx [(2, .p (zdm hs)), (4, .p (.bool true))] (fun K hK => by simp [push_cast, l1, c9]; (repeat refine ob ?_); exact hK) ?_;refine awp_cd true (fun hb => ?_) fun hb => ?_
          ·refine rg cx ?_;have hne : ¬ h.l.int = h.int := fun e => ne1 (Hd.int_inj e);refine awp_cn true (by simp [push_cast, hne]) (fun hb => ?_) fun hb => ?_
           ·refine rx cx [] (fun K hK => by simp [push_cast, h16]; (repeat refine ob ?_); exact hK) ?_;refine rg cx ?_;refine ⟨m + 1, by omega, by omega, ?_⟩;subst hx;rw [if_neg (show ¬ h.l = h from ne1)] at p1;subst p1;refine wq [(0, some 0), (1, some 1), (2, some 2), (3, some 3), (4, some 21), (5, some 5)] (by simp [upT, upH, upR, upL, up, push_cast, hnx, hpt2])
           ·simp at hb
          ·simp at hb
         ·have c9 := cc h.l;rw [decide_eq_false hm2] at c9;refine rx cx [(2, .p (zdm hs)), (4, .p (.bool false))] (fun K hK => by simp [push_cast, l1, c9]; (repeat refine ob ?_); exact hK) ?_;refine awp_cd false (fun hb => ?_) fun hb => ?_
          ·simp at hb
          ·have w1 : IntKind.wrap .i64 (1 : Int) = 1 := wrap_i64 (by omega) (by omega);refine rx cx [] (fun K hK => by simp [push_cast, w1]; (repeat refine ob ?_); exact hK) ?_;refine ⟨0 + 1, ⟨by omega, fun j hj => ?_⟩, by omega, ?_⟩
           ·rcases Nat.lt_succ_iff_lt_or_eq.1 hj with h8 | rfl
            ·exact hpre j h8
            ·exact hm2
           ·refine wk [(0, some 0), (1, some 1), (2, some 2), (3, some 3), (4, some 4), (5, some 5)]
        ·refine rg cx ?_;by_cases hm2 : h ∈ hs
         ·have hx : nx = h := by
           have h9 := cand_pick (hs := hs) (h := h) (i := 1) (by omega) hm2 (fun j hj => hpre j hj);rw [q2] at h9;exact h9
          have c9 := cc h;rw [decide_eq_true hm2] at c9;refine rx cx [(2, .p (zdm hs)), (4, .p (.bool true))] (fun K hK => by simp [push_cast, l1, c9]; (repeat refine ob ?_); exact hK) ?_;refine awp_cd true (fun hb => ?_) fun hb => ?_
          ·refine rg cx ?_;refine awp_cd false (fun hb => ?_) fun hb => ?_
           ·simp at hb
           ·refine rg cx ?_;refine ⟨m + 1, by omega, by omega, ?_⟩;subst hx;rw [if_pos rfl] at p1;subst p1;refine wq [(0, some 0), (1, some 1), (2, some 2), (3, some 3), (4, some 4), (5, some 5)] (by simp [upT, upH, upR, upL, up, push_cast, hnx, hpt2])
          ·simp at hb
         ·have c9 := cc h;rw [decide_eq_false hm2] at c9;refine rx cx [(2, .p (zdm hs)), (4, .p (.bool false))] (fun K hK => by simp [push_cast, l1, c9]; (repeat refine ob ?_); exact hK) ?_;refine awp_cd false (fun hb => ?_) fun hb => ?_
          ·simp at hb
          ·have w1 : IntKind.wrap .i64 (2 : Int) = 2 := wrap_i64 (by omega) (by omega);refine rx cx [] (fun K hK => by simp [push_cast, w1]; (repeat refine ob ?_); exact hK) ?_;refine ⟨1 + 1, ⟨by omega, fun j hj => ?_⟩, by omega, ?_⟩
           ·rcases Nat.lt_succ_iff_lt_or_eq.1 hj with h8 | rfl
            ·exact hpre j h8
            ·exact hm2
           ·refine wk [(0, some 0), (1, some 1), (2, some 2), (3, some 3), (4, some 4), (5, some 5)]
        ·refine rg cx ?_;by_cases hm2 : h.r ∈ hs
         ·have hx : nx = h.r := by
           have h9 := cand_pick (hs := hs) (h := h) (i := 2) (by omega) hm2 (fun j hj => hpre j hj);rw [q2] at h9;exact h9
          have c9 := cc h.r;rw [decide_eq_true hm2] at c9;refine rx cx [(2, .p (zdm hs)), (4, .p (.bool true))] (fun K hK => by simp [push_cast, l1, c9]; (repeat refine ob ?_); exact hK) ?_;refine awp_cd true (fun hb => ?_) fun hb => ?_
          ·refine rg cx ?_;have hne : ¬ h.r.int = h.int := fun e => ne2 (Hd.int_inj e);refine awp_cn true (by simp [push_cast, hne]) (fun hb => ?_) fun hb => ?_
           ·refine rx cx [] (fun K hK => by simp [push_cast, h16]; (repeat refine ob ?_); exact hK) ?_;refine rg cx ?_;refine ⟨m + 1, by omega, by omega, ?_⟩;subst hx;rw [if_neg (show ¬ h.r = h from ne2)] at p1;subst p1;refine wq [(0, some 0), (1, some 1), (2, some 2), (3, some 3), (4, some 21), (5, some 5)] (by simp [upT, upH, upR, upL, up, push_cast, hnx, hpt2])
           ·simp at hb
          ·simp at hb
         ·have c9 := cc h.r;rw [decide_eq_false hm2] at c9;refine rx cx [(2, .p (zdm hs)), (4, .p (.bool false))] (fun K hK => by simp [push_cast, l1, c9]; (repeat refine ob ?_); exact hK) ?_;refine awp_cd false (fun hb => ?_) fun hb => ?_
          ·simp at hb
          ·have w1 : IntKind.wrap .i64 (3 : Int) = 3 := wrap_i64 (by omega) (by omega);refine rx cx [] (fun K hK => by simp [push_cast, w1]; (repeat refine ob ?_); exact hK) ?_;refine ⟨2 + 1, ⟨by omega, fun j hj => ?_⟩, by omega, ?_⟩
           ·rcases Nat.lt_succ_iff_lt_or_eq.1 hj with h8 | rfl
            ·exact hpre j h8
            ·exact hm2
           ·refine wk [(0, some 0), (1, some 1), (2, some 2), (3, some 3), (4, some 4), (5, some 5)]
       ·simp at hb
      ·exact (cand_all q3 q2 fun j hj => hpre j (by omega)).elim
  ·simp at hb
end Go.Proofs.YtdddknniooimmaaGreat
