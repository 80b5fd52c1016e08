/-
  Texts of this seat put together: T5, AbsS, S1, T6, B2, X3, X6, AbsZ.
-/
import Derived.Test.YtdddknniooimmaaGreatJT6
import Derived.Test.YtdddknniooimmaaGreatJT3
import Derived.Test.YtdddknniooimmaaGreatJT5
import Derived.Test.YtdddknniooimmaaGreatJT7
import Derived.Shelf.SlSortCmp.NoneTotal
import Derived.Lib.QuietBelow
import Derived.Test.YtdddknniooimmaaGreatChecked
import Derived.Deep.RegionHeld3
import Derived.Deep.DrawnRows
import Derived.Shelf.Sort.Plain
import Derived.Shelf.Slices.In.SortNone
import Derived.Shelf.Slices.CompactI
import Derived.Lib.RowBridge
set_option linter.unusedVariables false
set_option linter.unusedSimpArgs false
set_option maxRecDepth 100000
set_option linter.unusedSectionVars false
namespace Go.Proofs.YtdddknniooimmaaGreat
open Go.Abs

set_option maxHeartbeats 1000000 in
theorem rsame_ok (a b : List Row) (ha : zbw a) : PC Tryz.prog 26 [.agg (zp a), .agg (zp b)] (.p (.bool (decide (a = b)))) := by
 have hal := ha.1;refine pw cx Tryz.func26 Tryz.ntmps26 ?_;refine rg cx ?_;refine rg cx ?_;refine ze (by simp [push_cast] <;> exact rfl) (fun hb => ?_) (fun hb => ?_) <;> (refine Nav.imp ?_)
 ·simp at hb;have hne : a ≠ b := by intro e; subst e; simp at hb
  refine rg cx ?_;simp [push_cast, hne]
 ·have hlen : a.length = b.length := by simp at hb; omega
  clear hb;refine rg cx ?_;refine zu (β := Nat) (fun k => ⟨65, [(2, .ptr 0 0 0), (3, .ptr 1 0 0), (5, .d (.int .i64 k))], [(0, some ⟨24, 1, [(zp a).map .d]⟩), (1, some ⟨24, 1, [(zp b).map .d]⟩)], 2⟩) (fun k => k <= a.length /\ a.take k = b.take k) (fun k => a.length - k) 0 ?_ ⟨Nat.zero_le _, by simp⟩ ?_
  ·refine wk [(0, some 0), (1, some 1)]
  ·rintro k ⟨hk, hpre⟩;refine Nav.imp ?_;refine rg cx ?_;refine awp_cd (decide ((k : Int) < a.length)) (fun hb => ?_) fun hb => ?_
   ·have hlt : k < a.length := by simpa using hb
    obtain ⟨x, hx⟩ := zap hlt;obtain ⟨y, hy⟩ : ∃ y, b[k]? = some y := zap (by omega);have e0 := wI ((k : Int) + 1);have hxl := ha.2 x (List.mem_of_getElem? hx);have hno : x ≠ y -> a ≠ b := fun h e => by
     subst e;rw [hx] at hy;exact h (Option.some.inj hy)
    obtain ⟨xy, xr⟩ := x;obtain ⟨yy, yr⟩ := y;simp only at hxl;refine rd cx mixed [] (fun K hK => by simp [push_cast, hx, hy, Row.row]; (repeat refine ob ?_); exact hK) ?_;refine rx cx [] (fun K hK => by simp [push_cast, Row.row]; (repeat refine ob ?_); exact hK) ?_;refine ze (by simp [push_cast] <;> exact rfl) (fun hb => ?_) (fun hb => ?_) <;> (refine Nav.imp ?_)
    ·have hn : a ≠ b := hno (by rintro ⟨⟩; simp at hb);refine rg cx ?_;simp [push_cast, hn]
    ·simp at hb;obtain ⟨hy0, hl0⟩ := hb;have hl0 : xr.length = yr.length := by omega
     subst hy0;refine rg cx ?_;refine zu (β := Nat) (fun j => ⟨65, [(2, .ptr 0 0 0), (3, .ptr 1 0 0), (5, .d (.int .i64 k)), (6, .ptr 2 0 0), (7, .ptr 3 0 0), (8, .d (.int .i64 j))], [(0, some ⟨24, 1, [(zp a).map .d]⟩), (1, some ⟨24, 1, [(zp b).map .d]⟩), (2, some ⟨65, 2, [(Row.row ⟨xy, xr⟩).map .d]⟩), (3, some ⟨65, 2, [(Row.row ⟨xy, yr⟩).map .d]⟩)], 4⟩) (fun j => j <= xr.length /\ xr.take j = yr.take j) (fun j => xr.length - j) 0 ?_ ⟨Nat.zero_le _, by simp⟩ ?_
     ·refine wq [(0, some 0), (1, some 1), (2, some 17), (3, some 18)] (by simp [upT, upH, upR, upL, up, push_cast, Row.row])
     ·rintro j ⟨hj, hpr⟩;refine Nav.imp ?_;refine rx cx [] (fun K hK => by simp [push_cast, Row.row]; (repeat refine ob ?_); exact hK) ?_;refine awp_cd (decide ((j : Int) < xr.length)) (fun hb => ?_) fun hb => ?_
      ·have hjl : j < xr.length := by simpa using hb
       obtain ⟨p, hp⟩ := zap hjl;obtain ⟨q, hq⟩ : ∃ y, yr[j]? = some y := zap (by omega);have e1 := wI ((j : Int) + 1);have hn2 : p ≠ q -> a ≠ b := fun h => hno fun e => by
        injection e with _ e2
        subst e2;rw [hp] at hq;exact h (Option.some.inj hq)
       obtain ⟨pa, pb⟩ := p;obtain ⟨qa, qb⟩ := q;refine rd cx mixed [] (fun K hK => by simp [push_cast, hp, hq, Row.row, Run.row]; (repeat refine ob ?_); exact hK) ?_;refine ze (by simp [push_cast] <;> exact rfl) (fun hb => ?_) (fun hb => ?_) <;> (refine Nav.imp ?_)
       ·have hn : a ≠ b := hn2 (by rintro ⟨⟩; simp at hb);refine rg cx ?_;simp [push_cast, hn]
       ·simp at hb;obtain ⟨h1, h2⟩ := hb;subst h1 h2;refine rx cx [] (fun K hK => by simp [push_cast, e1]; (repeat refine ob ?_); exact hK) ?_;refine ⟨j + 1, ⟨hjl, zux hpr hp hq rfl⟩, by omega, ?_⟩;refine wq [(0, some 0), (1, some 1), (2, some 2), (3, some 3)] (by simp [upT, upH, upR, upL, up, push_cast, Row.row])
      ·have hjn : j = xr.length := by simp at hb; omega
       subst hjn;rw [List.take_length, hl0, List.take_length] at hpr;subst hpr;refine rx cx [] (fun K hK => by simp [push_cast, e0]; (repeat refine ob ?_); exact hK) ?_;refine ⟨k + 1, ⟨hlt, zux hpre hx hy rfl⟩, by omega, ?_⟩;refine wk [(0, some 0), (1, some 1)]
   ·have hge : k = a.length := by simp at hb; omega
    subst hge;rw [List.take_length, hlen, List.take_length] at hpre;refine rg cx ?_;simp [push_cast, hpre]
end Go.Proofs.YtdddknniooimmaaGreat

namespace Go.Abs
variable [Flag]
open Go.Shelf Go.RowKit Go.Lib Go.Sort Go.Proofs

theorem sorted_uniq {α : Type} (le : α -> α -> Prop) : ∀ (l l' : List α), l.Perm l' -> l.Pairwise le -> l'.Pairwise le -> (∀ a ∈ l, ∀ b ∈ l, le a b -> le b a -> a = b) -> l = l'
 | [], l', h, _, _, _ => by have := h.length_eq; simp at this; exact (List.length_eq_zero_iff.1 this.symm).symm
 | a :: l, [], h, _, _, _ => by have := h.length_eq; simp at this
 | a :: l, b :: l', h, h1, h2, h3 => by
  have hab : a = b := by
   have ha : a ∈ b :: l' := h.subset (by simp);have hb : b ∈ a :: l := h.symm.subset (by simp);rcases List.mem_cons.1 ha with e | ha
   ·exact e
   ·rcases List.mem_cons.1 hb with e | hb
    ·exact e.symm
    ·exact h3 a (by simp) b (by simp [hb]) ((List.pairwise_cons.1 h1).1 b hb) ((List.pairwise_cons.1 h2).1 a ha)
  subst hab;rw [sorted_uniq le l l' h.cons_inv (List.pairwise_cons.1 h1).2 (List.pairwise_cons.1 h2).2 (fun x hx y hy => h3 x (by simp [hx]) y (by simp [hy]))]

def zsj (P : Program) (cg : FuncId) (V : List D -> Prop) (cf : List D -> List D -> Int) : Prop :=
 ∀ (ro : Nat -> Prop) (w : World) (a b : List D) (va vb : List Value), (∀ blk, ro blk -> blk < w.heap.size) -> V a -> V b -> zt ro w a va -> zt ro w b vb -> zbk va -> zbk vb ->
  Calls P cg #[.agg va.toArray, .agg vb.toArray] w fun e w' => e = .returned (.int .i64 (cf a b)) /\ ∃ q os, w' = grow (w.drewN q) os

structure zqg (V : List D -> Prop) (cf : List D -> List D -> Int) : Prop where
 irrefl : ∀ a, V a -> ¬ cf a a < 0
 trans : ∀ a b c, V a -> V b -> V c -> cf a b < 0 -> cf b c < 0 -> cf a c < 0
 ntrans : ∀ a b c, V a -> V b -> V c -> ¬ cf a b < 0 -> ¬ cf b c < 0 -> ¬ cf a c < 0

section
variable (ro : Nat -> Prop) (w : World) (V : List D -> Prop) (k : Nat)
def Elt : Type := { x : List D × List Value // V x.1 /\ x.2.length = k /\ zbk x.2 /\ zt ro w x.1 x.2 }
def Elt.enc (x : Elt ro w V k) : List Value := x.1.2
end

theorem heap_sort {α : Type} [Inhabited α] (enc : α -> List Value) (k : Nat) (w : World) (blk m : Nat) (d : Array α) (os : Array Obj) {b : Nat} (hb : b < w.heap.size) (hne : b ≠ blk) : (sortWorldK enc k w blk 0 m d os).heap[b]? = w.heap[b]? := by
 unfold sortWorldK;rw [heap_grow_old _ _ (by simpa [putRowK] using hb)];simp only [putRowK, putRow, mapBlock, heap_ahead];rw [Array.getElem?_modify, if_neg (fun h => hne h.symm)]

theorem ztr {α : Type} [Inhabited α] (enc : α -> List Value) (k : Nat) (w : World) (blk m : Nat) (d : Array α) (os : Array Obj) {cur : Array Value} {e : TypeId} {fr : Nat × Nat} (h : w.heap[blk]? = some (.cells cur e fr)) : (sortWorldK enc k w blk 0 m d os).heap[blk]? = some (.cells (Go.Sort.putCells id 0 (flatK enc k d) cur) e fr) := by
 have hb : blk < w.heap.size := (Array.getElem?_eq_some_iff.1 h).1;unfold sortWorldK;rw [heap_grow_old _ _ (by simpa [putRowK] using hb)];simp only [putRowK, putRow, mapBlock, heap_ahead];rw [Array.getElem?_modify, if_pos rfl, h];rfl

theorem size_sort {α : Type} [Inhabited α] (enc : α -> List Value) (k : Nat) (w : World) (blk m : Nat) (d : Array α) (os : Array Obj) : w.heap.size <= (sortWorldK enc k w blk 0 m d os).heap.size := by
 unfold sortWorldK;rw [size_grow];simp [putRowK]

theorem drawn_sort {α : Type} [Inhabited α] (enc : α -> List Value) (k : Nat) (w : World) (blk m : Nat) (d : Array α) (os : Array Obj) : w.drawn <= (sortWorldK enc k w blk 0 m d os).drawn := by
 simp [sortWorldK, putRowK, grow, putRow, mapBlock, ahead]

theorem ztc {P : Program} {cg : FuncId} {V : List D -> Prop} {cf : List D -> List D -> Int} (h : ∀ a b, V a -> V b -> PC P cg [.agg a, .agg b] (.p (.int .i64 (cf a b)))) (hF : ¬ Flag.p := by exact fun h => h) : zsj P cg V cf := by
 intro ro w a b va vb hro ha hb ra rb oa ob;refine ((h a b ha hb).2 ro w [.agg va.toArray, .agg vb.toArray] hro ?_).mono ?_
 ·simp only [zt, zv];exact ⟨_, _, rfl, ⟨va, rfl, oa, ra⟩, _, _, rfl, ⟨vb, rfl, ob, rb⟩, rfl⟩
 ·rintro e w' ⟨v, he, hB, hr⟩;simp only [zdu, zv] at hr;refine ⟨by rw [he, hr], ?_⟩;obtain ⟨p, hp⟩ := regrown_of_below hB.kit;have hd : w'.drawn = w.drawn + (w'.drawn - w.drawn) := by have := hB.tape.2.resolve_left hF; omega
  refine ⟨w'.drawn - w.drawn, p.os, ?_⟩;have hpd : p.d = w'.drawn := by rw [hp]; rfl
  rw [hp];simp only [grow, redrawn, World.drewN];rw [hp] at hd;simp only [grow, redrawn] at hd
  congr 1

theorem cmp_lays {P : Program} {cg : FuncId} {V : List D -> Prop} {cf : List D -> List D -> Int} (hc : zsj P cg V cf) {ro : Nat -> Prop} {w : World} {k blk size : Nat} (hro : ∀ b, ro b -> b < w.heap.size /\ b ≠ blk) [Inhabited (Elt ro w V k)] :
  CmpLays P cg #[] (Elt.enc ro w V k) k (fun x y => cf x.1.1 y.1.1) blk 0 size w := by
 intro m os dk _ x y;have hf : Fut ro w ro (sortWorldK (Elt.enc ro w V k) k w blk 0 m dk os) := fun b hb => ⟨hb, heap_sort _ _ _ _ _ _ _ (hro b hb).1 (hro b hb).2⟩
 obtain ⟨hx1, _, ox, hx2⟩ := x.2;obtain ⟨hy1, _, oy, hy2⟩ := y.2;have := hc ro (sortWorldK (Elt.enc ro w V k) k w blk 0 m dk os) x.1.1 y.1.1 x.1.2 y.1.2 (fun b hb => Nat.lt_of_lt_of_le (hro b hb).1 (size_sort _ _ _ _ _ _ _)) hx1 hy1 (zt.mono hf _ _ hx2) (zt.mono hf _ _ hy2) ox oy;simpa [Elt.enc] using this

theorem sortFunc_px {P : Program} {ρ : Ren} (L : SlLaysF0.n6 P ρ) {k : Nat} (hk0 : 0 < k) (aE : ∀ w, (isAgg (ρ.t 24)).run P w = .ok true w) (zE : ∀ w, (Go.sizeOf (ρ.t 24)).run P w = .ok k w) (hent : zha P (ρ.f 6)) {cg : FuncId}
  (eg : ∀ args w, (callFunc cg args).run P w = .ok (.enter cg args) w) {V : List D -> Prop} {cf : List D -> List D -> Int} (hc : zsj P cg V cf) (hO : zqg V cf) (e : TypeId) {rows rows' : List (List D)} (hV : ∀ r ∈ rows, V r)
  (hanti : ∀ a ∈ rows, ∀ b ∈ rows, ¬ cf b a < 0 -> ¬ cf a b < 0 -> a = b) (hp : rows'.Perm rows) (hs : rows'.Pairwise fun a b => ¬ cf b a < 0) (hn : 0 < rows.length) (hsz : rows.length < 4611686018427387904) (fv : AV)
  (hfv : ∀ g w v, zi g w fv v -> v = .func (.func cg) #[] #[]) :
  PX P (ρ.f 6) [.hs 0 0 rows.length, fv] [(0, ⟨e, k, dr rows⟩)] [(0, 0)] [(0, ⟨e, k, dr rows'⟩)] (.tup []) := by
 refine ⟨hent, fun g w vs h hu hvs => ?_⟩;simp only [zk] at hvs;obtain ⟨v0, _, rfl, h0, v1, _, rfl, h1, rfl⟩ := hvs;have e1 := hfv g w v1 h1;obtain ⟨L0, hL, hok⟩ := h.own 0 ⟨e, k, dr rows⟩ (by simp [zfy, find]);have hkm : L0.m = k := hok.m;have hlenr : (dr rows).length = rows.length := by simp [dr]
 have hvirt : L0.virt = false := by
  cases hv : L0.virt with
  | false => rfl
  | true =>
   have h2 : (dr rows).length = 0 := by rw [show dr rows = [] from hok.virt hv]; rfl
   omega
 simp only [zi] at h0;have hflat : L0.virt = false /\ L0.map = false := by
  rcases h0.2 L0 hL with ⟨hv, _⟩ | ⟨hv, _⟩
  ·rw [hvirt] at hv; cases hv
  ·exact hv
 have hvm := hflat.2;obtain ⟨cur, hR, hcs, hcap, hrows⟩ := hok.cells hflat;have hR' := hR;obtain ⟨el0, fr0, hblk, hx1, hx2⟩ := hR';have e0 : v0 = .slice (some ⟨L0.blk, 0, none⟩) rows.length L0.cap := by
  rcases h0.2 L0 hL with ⟨hv, _⟩ | ⟨_, _, hv⟩
  ·rw [hvirt] at hv; cases hv
  ·rw [hv]; simp
 have hcapl : rows.length <= L0.cap := by have := hok.len hvm; rw [hlenr] at this; exact this
 have hblt : L0.blk < w.heap.size := (Array.getElem?_eq_some_iff.1 hblk).1;have hnro : ¬ g.ro L0.blk := ((h.live 0 L0 hL).2 hvirt).2;have hro : ∀ b, g.ro b -> b < w.heap.size /\ b ≠ L0.blk := fun b hb => ⟨h.ro b hb, fun e => hnro (e ▸ hb)⟩
 have hcsz : rows.length * k <= cur.size := by rw [hcs, hkm]; exact Nat.mul_le_mul_right k hcapl
 have hin : ∀ i, i < rows.length -> i * k + k <= cur.size := fun i hi => by
  have := Nat.mul_le_mul_right k (show i + 1 <= rows.length from hi);rw [Nat.add_mul, Nat.one_mul] at this; omega
 -- the cells of element i
 have hel : ∀ i (hi : i < rows.length), V rows[i] /\ (cur.toList.drop (i * k) |>.take k).length = k /\ zbk (cur.toList.drop (i * k) |>.take k) /\ zt g.ro w rows[i] (cur.toList.drop (i * k) |>.take k) := by
  intro i hi;have hrow := hrows i (rows[i].map AV.d) (by simp [dr, hi]);have hl : (cur.toList.drop (i * k) |>.take k).length = k := by
   have := hin i hi;simp only [List.length_take, List.length_drop, Array.length_toList]; omega
  have hget : ∀ j, j < k -> (cur.toList.drop (i * k) |>.take k)[j]? = cur[i * k + j]? := fun j hj => by
   rw [List.getElem?_take, if_pos hj, List.getElem?_drop, Array.getElem?_toList]
  have hrl : rows[i].length = k := by have := hrow.1; rw [hkm] at this; simpa using this
  refine ⟨hV _ (List.getElem_mem hi), hl, ?_, ?_⟩
  ·intro v hv;obtain ⟨j, hj⟩ := List.mem_iff_getElem?.1 hv;have hjk : j < k := by have := (List.getElem?_eq_some_iff.1 hj).1; omega
   rw [hget j hjk] at hj;obtain ⟨u, hu1, hu2, _⟩ := hrow.2 j (.d (rows[i][j]'(by omega))) (by simp [show j < rows[i].length by omega]);rw [hkm, hj] at hu1;cases hu1;exact hu2
  ·refine zt.of_get (by rw [hl, hrl]) fun j x hj => ?_;have hjk : j < k := by have := (List.getElem?_eq_some_iff.1 hj).1; omega
   obtain ⟨u, hu1, _, hu3⟩ := hrow.2 j (.d x) (by simp [hj]);rw [hkm] at hu1;exact ⟨u, by rw [hget j hjk, hu1], by simpa only [zi] using hu3⟩
 let mk : _root_.Fin rows.length -> Elt g.ro w V k := fun i => ⟨(rows[i.1], (cur.toList.drop (i.1 * k)).take k), hel i.1 i.2⟩
 let d : Array (Elt g.ro w V k) := Array.ofFn mk
 haveI : Inhabited (Elt g.ro w V k) := ⟨mk ⟨0, hn⟩⟩
 have hds : d.size = rows.length := by simp [d]
 have hdi : ∀ i (hi : i < rows.length), d[i]! = mk ⟨i, hi⟩ := fun i hi => by
  rw [getElem!_pos d i (by rw [hds]; exact hi)]; simp [d]
 have hdl : d.toList.map (fun x => x.1.1) = rows := by
  apply List.ext_getElem
  ·simp [d]
  ·intro i h1 h2;have hi : i < d.size := by simpa using h1
   rw [List.getElem_map, Array.getElem_toList];have e := hdi i h2;rw [getElem!_pos d i hi] at e;rw [e]
 have hH : HoldsK (Elt.enc g.ro w V k) k w L0.blk 0 d := by
  intro j hj;have hjs : j < rows.length * k := by simpa [hds] using hj
  have hdk : j / k < rows.length := Nat.div_lt_of_lt_mul (by rwa [Nat.mul_comm] at hjs);have hmod : j % k < k := Nat.mod_lt j hk0;have hdm : j / k * k + j % k = j := by rw [Nat.mul_comm]; exact Nat.div_add_mod j k
  rw [get_flatK _ _ _ _ (by rw [hds]; exact hjs), hdi _ hdk];have hlt : j < cur.size := by omega
  refine ⟨?_, ?_⟩
  ·simp only [World.cell?, hblk, Nat.zero_add];simp only [Option.isSome_none, Bool.false_eq_true, if_false, id_eq];have hl2 := (hel _ hdk).2.1;rw [getElem!_pos _ _ (by rw [show (Elt.enc g.ro w V k (mk ⟨j / k, hdk⟩)) = (cur.toList.drop (j / k * k)).take k from rfl, hl2]; exact hmod)];simp only [Elt.enc, mk, List.getElem_take, List.getElem_drop, Array.getElem_toList, hdm];exact Array.getElem?_eq_getElem hlt
  ·simpa using hR.open (o := j) hlt
 have hswo : SWO (ltOf fun x y : Elt g.ro w V k => cf x.1.1 y.1.1) := by
  refine ⟨fun x => ?_, fun x y z h1 h2 => ?_, fun x y z h1 h2 => ?_⟩
  ·simpa [ltOf] using hO.irrefl x.1.1 x.2.1
  ·simp only [ltOf, decide_eq_true_eq] at h1 h2 ⊢;exact hO.trans _ _ _ x.2.1 y.2.1 z.2.1 h1 h2
  ·simp only [ltOf, decide_eq_false_iff_not] at h1 h2 ⊢;exact hO.ntrans _ _ _ x.2.1 y.2.1 z.2.1 h1 h2
 have hmain := AnyQ.slices_SortFunc L k aE zE (Elt.enc g.ro w V k) (fun x => x.2.2.1) (fun x v hv => x.2.2.2.1 v hv) (fun x y => cf x.1.1 y.1.1) hswo cg #[] L0.blk 0 L0.cap d w eg (cmp_lays hc hro) hH hblt (by rw [hds]; exact hsz);rw [hds] at hmain;rw [e0, e1];refine hmain.mono ?_;rintro ex w' ⟨rfl, d', n, os, hperm, hsort, rfl⟩;obtain ⟨hps, _, hpp⟩ := hperm;have hex : ∀ a : Array (Elt g.ro w V k), a.size = rows.length -> (a.extract 0 rows.length) = a := fun a ha => by rw [<- ha]; simp
 rw [hex d' (by rw [hps, hds]), hex d hds] at hpp;have hrows' : d'.toList.map (fun x => x.1.1) = rows' := by
  refine sorted_uniq (fun a b => ¬ cf b a < 0) _ _ ((hpp.map _).trans (by rw [hdl]; exact hp.symm)) ?_ hs ?_
  ·rw [List.pairwise_map, List.pairwise_iff_getElem];intro i j hi hj hij;have hj' : j < d'.size := by simpa using hj
   have := hsort i j (Nat.zero_le _) hij (by rw [hps, hds] at hj'; exact hj');rw [getElem!_pos d' i (by omega), getElem!_pos d' j hj'] at this;simpa [ltOf] using this
  ·intro a ha b hb hab hba;have hsub : ∀ x, x ∈ d'.toList.map (fun x => x.1.1) -> x ∈ rows := fun x hx => by
    have := (hpp.map (fun x : Elt g.ro w V k => x.1.1)).subset hx
    rwa [hdl] at this
   exact hanti a (hsub a ha) b (hsub b hb) hab hba
 have hd's : d'.size = rows.length := by rw [hps, hds]
 have hbs : zgc ((sortWorldK (Elt.enc g.ro w V k) k w L0.blk 0 n d' os).heap[L0.blk]?) e (Go.Sort.putCells id 0 (flatK (Elt.enc g.ro w V k) k d') cur) := ⟨el0, fr0, ztr _ _ _ _ _ _ _ hblk, hx1, by simp only [Go.Sort.putCells, Array.size_mapIdx]; exact hx2⟩
 obtain ⟨g', h1, h2, h3, h4, h5, h6⟩ := zah.write h hL hflat (id' := 0) (.inl rfl) ⟨e, k, dr rows'⟩ (Go.Sort.putCells id 0 (flatK (Elt.enc g.ro w V k) k d') cur) (w' := sortWorldK (Elt.enc g.ro w V k) k w L0.blk 0 n d' os) (cap := L0.cap) (B := L0.blk) rfl ⟨rfl, .inr (drawn_sort _ _ _ _ _ _ _)⟩ rfl (size_sort _ _ _ _ _ _ _)
  (fun b hb hne => heap_sort _ _ _ _ _ _ _ hb hne) (.inl rfl) hbs hkm.symm hok.pos (by simp only [Go.Sort.putCells, Array.size_mapIdx]; exact hcs) (by have := hp.length_eq; simp [dr]; omega) hcap (fun _ => ⟨rfl, rfl⟩) (by
   intro i row hi;have hil : i < rows'.length := by have := (List.getElem?_eq_some_iff.1 hi).1; simpa [dr] using this
   have hil2 : i < rows.length := by have := hp.length_eq; omega
   have hid : i < d'.size := by omega
   have hri : rows'[i] = (d'[i]'hid).1.1 := by
    have : (d'.toList.map (fun x => x.1.1))[i]'(by simpa using hid) = rows'[i] := by simp only [hrows']
    rw [<- this]; simp
   have hrow : row = rows'[i].map AV.d := by
    have : (dr rows')[i]? = some (rows'[i].map AV.d) := by simp [dr, hil]
    rw [this] at hi; exact (Option.some.inj hi).symm
   obtain ⟨x1, x2, x3, x4⟩ := (d'[i]'hid).2;subst hrow;rw [hri, hkm];have hxl : (d'[i]'hid).1.1.length = k := by have := x4.length; omega
   refine ⟨by simp [hxl], fun j av hj => ?_⟩;have hjk : j < k := by have := (List.getElem?_eq_some_iff.1 hj).1; simp at this; omega
   have hav : av = .d ((d'[i]'hid).1.1[j]'(by omega)) := by
    rw [List.getElem?_map, List.getElem?_eq_getElem (by omega)] at hj;exact (Option.some.inj hj).symm
   obtain ⟨v, hv1, hv2⟩ := x4.get j _ (List.getElem?_eq_getElem (by omega));have hdiv : (i * k + j) / k = i := (blk_iff k i _ hk0).1 ⟨by omega, by omega⟩;have hmod : (i * k + j) % k = j := by rw [Nat.mod_eq_sub_div_mul, hdiv]; omega
   have hlt : i * k + j < rows.length * k := by have := Nat.mul_le_mul_right k (show i + 1 <= rows.length from hil2); rw [Nat.add_mul, Nat.one_mul] at this; omega
   refine ⟨v, ?_, x3 v (List.mem_of_getElem? hv1), ?_⟩
   ·have hlc : i * k + j < cur.size := by omega
    have hc1 : (Go.Sort.putCells id 0 (flatK (Elt.enc g.ro w V k) k d') cur)[i * k + j]? = some ((flatK (Elt.enc g.ro w V k) k d')[i * k + j]!) := by
     simp only [Go.Sort.putCells, Array.getElem?_mapIdx, Array.getElem?_eq_getElem hlc, Option.map_some];rw [if_pos ⟨Nat.zero_le _, by rw [size_flatK, hd's]; omega⟩];simp
    rw [hc1, get_flatK _ _ _ _ (by rw [hd's]; exact hlt), hdiv, hmod, getElem!_pos d' i hid];simp only [Elt.enc];obtain ⟨hjl, hjv⟩ := List.getElem?_eq_some_iff.1 hv1;rw [getElem!_pos _ j hjl, hjv]
   ·rw [hav];simpa only [zi] using hv2)
 refine ⟨_, g', rfl, ?_, ?_, h5, ?_⟩
 ·have : (zbj (zbj (zfy [(0, ⟨e, k, dr rows⟩)]) 0 none) 0 (some ⟨e, k, dr rows'⟩)) = zfy [(0, ⟨e, k, dr rows'⟩)] := by
   funext x
   simp only [zbj, zfy, find];by_cases hx : x = 0
   ·subst hx; simp
   ·have hx' : ¬ (0 = x) := fun h => hx h.symm;simp [hx, hx']
  rw [<- this]; exact h4
 ·simp only [zi, zk];exact ⟨[], rfl, rfl⟩
 ·intro i j hij;simp only [List.mem_cons, List.not_mem_nil, or_false, Prod.mk.injEq] at hij;obtain ⟨rfl, rfl⟩ := hij;rw [h1, hL];cases L0; simp_all

theorem zve {P : Program} {ρ : Ren} (L : SlLaysF0.n6 P ρ) {k : Nat} (hk0 : 0 < k) (hent : zha P (ρ.f 6)) (e : TypeId) (fv : AV) :
  PX P (ρ.f 6) [.hs 0 0 0, fv] [(0, ⟨e, k, []⟩)] [(0, 0)] [(0, ⟨e, k, []⟩)] (.tup []) := by
 refine ⟨hent, fun g w vs h hu hvs => ?_⟩;simp only [zk] at hvs;obtain ⟨v0, _, rfl, h0, v1, _, rfl, h1, rfl⟩ := hvs;obtain ⟨L0, hL, hok⟩ := h.own 0 ⟨e, k, []⟩ (by simp [zfy, find]);simp only [zi] at h0;have e0 : ∃ p c, v0 = .slice p 0 c := by
  rcases h0.2 L0 hL with ⟨_, _, _, a0, hv⟩ | ⟨_, _, hv⟩
  ·exact ⟨a0, _, hv⟩
  ·exact ⟨_, _, hv⟩
 obtain ⟨p, c, rfl⟩ := e0;refine (AnyF.slices_SortFunc_none { L with } p c v1 w).mono ?_;rintro ex w' ⟨rfl, rfl⟩;refine ⟨_, g, rfl, h, ?_, zam.refl g _, ?_⟩
 ·simp only [zi, zk]; exact ⟨[], rfl, rfl⟩
 ·intro i j hij;simp only [List.mem_cons, List.not_mem_nil, or_false, Prod.mk.injEq] at hij;obtain ⟨rfl, rfl⟩ := hij;rfl

theorem zvf {P : Program} {ρ : Ren} (L : SlLaysF0.n6 P ρ) {k : Nat} (hk0 : 0 < k) (aE : ∀ w, (isAgg (ρ.t 24)).run P w = .ok true w) (zE : ∀ w, (Go.sizeOf (ρ.t 24)).run P w = .ok k w) (hent : zha P (ρ.f 6)) {cg : FuncId}
  (eg : ∀ args w, (callFunc cg args).run P w = .ok (.enter cg args) w) {V : List D -> Prop} {cf : List D -> List D -> Int} (hc : zsj P cg V cf) (hO : zqg V cf) (e : TypeId) {rows rows' : List (List D)} (hV : ∀ r ∈ rows, V r)
  (hanti : ∀ a ∈ rows, ∀ b ∈ rows, ¬ cf b a < 0 -> ¬ cf a b < 0 -> a = b) (hp : rows'.Perm rows) (hs : rows'.Pairwise fun a b => ¬ cf b a < 0) (hsz : rows.length < 4611686018427387904) :
  PX P (ρ.f 6) [.hs 0 0 rows.length, .d (.fn (.func cg) [])] [(0, ⟨e, k, dr rows⟩)] [(0, 0)] [(0, ⟨e, k, dr rows'⟩)] (.tup []) := by
 by_cases hn : rows = []
 ·subst hn;have : rows' = [] := hp.eq_nil;subst this;exact zve L hk0 hent e _
 ·refine sortFunc_px L hk0 aE zE hent eg hc hO e hV hanti hp hs (List.length_pos_iff.2 hn) hsz _ fun g w v hv => ?_;simp only [zi, zv] at hv;obtain ⟨vs, rfl, h2⟩ := hv;simp only [zt] at h2;rw [h2]

end Go.Abs

namespace Go.Proofs.YtdddknniooimmaaGreat
open Go.Abs Go.Shelf Go.RowKit Go.Lib Go.Sort

def sortCell_ren : Go.Shelf.Ren := ⟨fun | 6 => 77 | 15 => 133 | 14 => 132 | 28 => 191 | 29 => 192 | 20 => 183 | 21 => 184 | 22 => 185 | 23 => 186 | 24 => 187 | 25 => 188 | 26 => 189 | 27 => 190 | 46 => 233 | 47 => 234 | 48 => 235 | 49 => 236 | 50 => 237 | 57 => 274 | n => n, fun | 22 => 75 | 24 => 67 | 25 => 107 | 3 => 3 | 39 => 174 | 0 => 0 | 53 => 228 | 55 => 230 | 4 => 4 | 46 => 222 | 45 => 221 | 50 => 204 | 5 => 5 | 9 => 9 | 66 => 256 | 70 => 260 | 76 => 284 | 77 => 148 | n => n, fun n => n⟩
theorem sortCell_lays : SlLaysF0.n6 Tryz.prog sortCell_ren where
 mixed := by kernel_rfl
 f6 := ⟨Tryz.f77.name, by kernel_rfl, Tryz.func77.trans (congrArg some (by kernel_rfl))⟩
 f14 := ⟨Tryz.f132.name, by kernel_rfl, Tryz.func132.trans (congrArg some (by kernel_rfl))⟩
 f15 := Tryz.func133.trans (congrArg some (by kernel_rfl))
 f20 := ⟨Tryz.f183.name, by kernel_rfl, Tryz.func183.trans (congrArg some (by kernel_rfl))⟩
 f21 := ⟨Tryz.f184.name, by kernel_rfl, Tryz.func184.trans (congrArg some (by kernel_rfl))⟩
 f22 := ⟨Tryz.f185.name, by kernel_rfl, Tryz.func185.trans (congrArg some (by kernel_rfl))⟩
 f23 := ⟨Tryz.f186.name, by kernel_rfl, Tryz.func186.trans (congrArg some (by kernel_rfl))⟩
 f24 := ⟨Tryz.f187.name, by kernel_rfl, Tryz.func187.trans (congrArg some (by kernel_rfl))⟩
 f25 := ⟨Tryz.f188.name, by kernel_rfl, Tryz.func188.trans (congrArg some (by kernel_rfl))⟩
 f26 := ⟨Tryz.f189.name, by kernel_rfl, Tryz.func189.trans (congrArg some (by kernel_rfl))⟩
 f27 := ⟨Tryz.f190.name, by kernel_rfl, Tryz.func190.trans (congrArg some (by kernel_rfl))⟩
 f28 := Tryz.func191.trans (congrArg some (by kernel_rfl))
 f29 := Tryz.func192.trans (congrArg some (by kernel_rfl))
 f46 := ⟨Tryz.f233.name, by kernel_rfl, Tryz.func233.trans (congrArg some (by kernel_rfl))⟩
 f47 := Tryz.func234.trans (congrArg some (by kernel_rfl))
 f48 := Tryz.func235.trans (congrArg some (by kernel_rfl))
 f49 := ⟨Tryz.f236.name, by kernel_rfl, Tryz.func236.trans (congrArg some (by kernel_rfl))⟩
 f50 := ⟨Tryz.f237.name, by kernel_rfl, Tryz.func237.trans (congrArg some (by kernel_rfl))⟩
 f57 := ⟨Tryz.f274.name, by kernel_rfl, Tryz.func274.trans (congrArg some (by kernel_rfl))⟩
 t0 := Tryz.underlying0
 a0 := Tryz.isAgg0
 z0 := Tryz.sizeOf0
 v0 := Tryz.zeroValue0
 t3 := Tryz.underlying3
 a3 := Tryz.isAgg3
 z3 := Tryz.sizeOf3
 v3 := Tryz.zeroValue3
 t4 := Tryz.underlying4
 a4 := Tryz.isAgg4
 z4 := Tryz.sizeOf4
 v4 := Tryz.zeroValue4
 t5 := Tryz.underlying5
 a5 := Tryz.isAgg5
 z5 := Tryz.sizeOf5
 v5 := Tryz.zeroValue5
 t9 := Tryz.underlying9
 a9 := Tryz.isAgg9
 z9 := Tryz.sizeOf9
 v9 := Tryz.zeroValue9
 t22 := Tryz.underlying75
 a22 := Tryz.isAgg75
 z22 := Tryz.sizeOf75
 v22 := Tryz.zeroValue75
 t25 := Tryz.underlying107
 a25 := Tryz.isAgg107
 z25 := Tryz.sizeOf107
 v25 := Tryz.zeroValue107
 t39 := Tryz.underlying174
 a39 := Tryz.isAgg174
 z39 := Tryz.sizeOf174
 v39 := Tryz.zeroValue174
 t45 := Tryz.underlying221
 a45 := Tryz.isAgg221
 z45 := Tryz.sizeOf221
 v45 := Tryz.zeroValue221
 t46 := Tryz.underlying222
 a46 := Tryz.isAgg222
 z46 := Tryz.sizeOf222
 v46 := Tryz.zeroValue222
 t50 := Tryz.underlying204
 a50 := Tryz.isAgg204
 z50 := Tryz.sizeOf204
 v50 := Tryz.zeroValue204
 t53 := Tryz.underlying228
 a53 := Tryz.isAgg228
 z53 := Tryz.sizeOf228
 v53 := Tryz.zeroValue228
 t55 := Tryz.underlying230
 a55 := Tryz.isAgg230
 z55 := Tryz.sizeOf230
 v55 := Tryz.zeroValue230
 t66 := Tryz.underlying256
 a66 := Tryz.isAgg256
 z66 := Tryz.sizeOf256
 v66 := Tryz.zeroValue256
 t70 := Tryz.underlying260
 a70 := Tryz.isAgg260
 z70 := Tryz.sizeOf260
 v70 := Tryz.zeroValue260
 t76 := Tryz.underlying284
 a76 := Tryz.isAgg284
 z76 := Tryz.sizeOf284
 v76 := Tryz.zeroValue284
 t77 := Tryz.underlying148
 a77 := Tryz.isAgg148
 z77 := Tryz.sizeOf148
 v77 := Tryz.zeroValue148
def VC (r : List D) : Prop := ∃ c : zf, r = c.row /\ onG c = true

end Go.Proofs.YtdddknniooimmaaGreat

namespace Go.Proofs.YtdddknniooimmaaGreat
open Go.Abs

def cfD : List D -> List D -> Int
 | [.int _ ax, .int _ ay], [.int _ bx, .int _ by'] => orI (zhu ay by') (zhu ax bx)
 | _, _ => 0
theorem orI_lt (a b c d : Int) : orI (zhu a b) (zhu c d) < 0 ↔ a < b \/ a = b /\ c < d := by
 unfold orI zhu;split <;> (try split) <;> (try split) <;> (try split) <;> omega
theorem zkr (a b : zf) : cfD a.row b.row < 0 ↔ bef a b = true := by
 obtain ⟨ax, ay⟩ := a;obtain ⟨bx, b'⟩ := b;simp only [cfD, zf.row, orI_lt, bef];simp
theorem cfD_ok : zsj Tryz.prog 115 VC cfD := by
 refine ztc ?_;rintro _ _ ⟨a, rfl, _⟩ ⟨b, rfl, _⟩;have := ofCmp_ok a b;exact this
theorem cfD_ord : zqg VC cfD where
 irrefl := by rintro _ ⟨a, rfl, _⟩; rw [zkr]; simp [bef]
 trans := by
  rintro _ _ _ ⟨a, rfl, _⟩ ⟨b, rfl, _⟩ ⟨c, rfl, _⟩;rw [zkr, zkr, zkr];simp [bef]; omega
 ntrans := by
  rintro _ _ _ ⟨a, rfl, _⟩ ⟨b, rfl, _⟩ ⟨c, rfl, _⟩;rw [zkr, zkr, zkr];simp [bef]; omega
theorem sortO_px (l : List zf) (hon : ∀ c ∈ l, onG c = true) (hl : l.length <= 1000000) : PX Tryz.prog 77 [.hs 0 0 l.length, .d (.fn (.func 115) [])] [(0, ⟨67, 2, dr (l.map zf.row)⟩)] [(0, 0)] [(0, ⟨67, 2, dr ((ztm l).map zf.row)⟩)] (.tup []) := by
 have h := zvf (P := Tryz.prog) sortCell_lays (k := 2) (by decide) (fun w => by kernel_rfl) (fun w => by kernel_rfl) ⟨_, Tryz.func77, by kernel_rfl, by kernel_rfl⟩ (cg := 115) (fun args w => by kernel_rfl) cfD_ok cfD_ord 67 (rows := l.map zf.row) (rows' := (ztm l).map zf.row)
  (fun r hr => by obtain ⟨c, hc, rfl⟩ := List.mem_map.1 hr; exact ⟨c, rfl, hon c hc⟩)
  (fun a ha b hb h1 h2 => by
   obtain ⟨c, hc, rfl⟩ := List.mem_map.1 ha;obtain ⟨d, hd, rfl⟩ := List.mem_map.1 hb;rw [zkr] at h1 h2;have e : c = d := leY_anti (bef_leY (by simpa using h1)) (bef_leY (by simpa using h2));rw [e])
  ((zot l).map _) (by
    rw [List.pairwise_map];refine (sortY_le l).imp fun {a b} h => ?_;rw [zkr];simp [bef, leY] at *; omega) (by simp; omega)
 simp only [List.length_map] at h;exact h

def zri : Option (Int × List Run) -> List (List AV)
 | none => []
 | some (y, L) => [[.d (.int .i64 y), .hs 3 0 L.length]]
def ztf : Option (Int × List Run) -> List Run
 | none => []
 | some (_, L) => L
def ofX (P : List Row) : Option (Int × List Run) -> List Row
 | none => P
 | some (y, L) => P ++ [⟨y, L⟩]

set_option maxHeartbeats 4000000 in
theorem of_ok (l : List zf) (hl : l.length <= 1000000) : PC Tryz.prog 52 [zaj l] (.p (ofD l)) := by
 have hD : ofD l = .tup [.agg (zp (ofR l)), .int .i64 (ofE l)] := rfl;rw [hD];refine pw cx Tryz.func52 Tryz.ntmps52 ?_;refine rg cx ?_;refine rg cx ?_;refine zu (β := Nat) (fun k => ⟨124, [(0, .d (zaj l)), (2, .ptr 0 0 0), (3, .d (.int .i64 0)), (13, .d (zaj l)), (14, .d (.int .i64 l.length)), (15, .d (.int .i64 k))], [(0, some ⟨24, 1, [[.nl]]⟩)], 1⟩) (fun k => k <= l.length /\ ∀ c ∈ l.take k, onG c = true) (fun k => l.length - k) 0 ?_ ⟨Nat.zero_le _, by simp⟩ ?_
 ·refine wk [(0, some 0)]
 ·rintro k ⟨hk, hon⟩;refine Nav.imp ?_;refine rg cx ?_;refine awp_cd (decide ((k : Int) < l.length)) (fun hb => ?_) fun hb => ?_
  ·have hlt : k < l.length := by simpa using hb
   obtain ⟨c, hc⟩ := zap hlt;have e0 := wI ((k : Int) + 1);have c1 := ok_ok c.x;have c2 := ok_ok c.y;have hv : onG c = (okB c.x && okB c.y) := by simp [onG, okB, Bool.and_assoc]
   have hbad : onG c = false -> ofR l = [] /\ ofE l = 8 := fun h => by
    have hall : l.all onG = false := by
     rw [Bool.eq_false_iff];intro h';have := List.all_eq_true.1 h' c (List.mem_of_getElem? hc);rw [h] at this; cases this
    exact ⟨by simp [ofR, hall], by simp [ofE, hall]⟩
   obtain ⟨x, y⟩ := c;simp only at c1 c2 hv;generalize okB x = p at *;generalize okB y = q at *;refine rx cx [] (fun K hK => by simp [push_cast, hc]; (repeat refine ob ?_); exact hK) ?_;cases p with
   | false =>
    obtain ⟨h1, h2⟩ := hbad (by rw [hv]; rfl);rw [h1, h2];refine rx cx [(2, .p (.bool false)), (7, .skip)] (fun K hK => by simp [push_cast, c1]; (repeat refine ob ?_); exact hK) ?_;refine awp_cd true (fun hb => ?_) fun hb => ?_
    ·refine rg cx ?_;simp [push_cast]
    ·simp at hb
   | true =>
    refine rx cx [(2, .p (.bool true)), (7, .p (.bool q))] (fun K hK => by simp [push_cast, c1, c2]; (repeat refine ob ?_); exact hK) ?_;refine awp_cd (!q) (fun hb => ?_) fun hb => ?_
    ·simp at hb;obtain ⟨h1, h2⟩ := hbad (by rw [hv, hb]; rfl);rw [h1, h2];refine rg cx ?_;simp [push_cast]
    ·simp at hb;refine rx cx [] (fun K hK => by simp [push_cast, e0]; (repeat refine ob ?_); exact hK) ?_;refine ⟨k + 1, ⟨hlt, fun d hd => ?_⟩, by omega, ?_⟩
     ·rw [zat hc] at hd;rcases List.mem_append.1 hd with hd | hd
      ·exact hon d hd
      ·simp at hd; subst hd; rw [hv, hb]; rfl
     ·refine wk [(0, some 0)]
  ·have hge : k = l.length := by simp at hb; omega
   subst hge;rw [List.take_length] at hon;have hall : l.all onG = true := List.all_eq_true.2 hon;have h1 : ofR l = build (ztm l) := by simp [ofR, hall]
   have h2 : ofE l = 0 := by simp [ofE, hall]
   have c1 := clone_ok l hl;have c2 := sortO_px l hon hl;have hslen : (ztm l).length = l.length := (zot l).length_eq;have hson : ∀ c ∈ ztm l, onG c = true := fun c hc => hon c ((zot l).mem_iff.1 hc);rw [h1, h2];clear h1 h2 hb hall;generalize ztm l = s at *;refine rx cx [(1, .o 67 2 (l.map zf.row))] (fun K hK => by simp [push_cast, c1]; (repeat refine ob ?_); exact hK) ?_;refine rx cx [(1, .x ⟨[(0, 3)], [.hs 0 0 l.length, .d (.fn (.func 115) [])], [(0, ⟨67, 2, dr (l.map zf.row)⟩)], [(0, 0)], none, [(0, ⟨67, 2, dr (s.map zf.row)⟩)], .tup []⟩)] (fun K hK => by simp [push_cast, c2]; (repeat refine ob ?_); exact hK) ?_;rw [<- hslen];have hsl : s.length <= 1000000 := by omega
   refine zaq 3 (s.map zf.row) rfl (by simp [push_cast]) fun K hK => ?_;simp [push_cast, St.fz, fzT, fzH, fzO, fz, fzL, fzR, zbx, zbo, zbn, zbm];refine nx hK ?_; clear hK K;refine rg cx ?_;refine rg cx ?_;refine zu (β := Nat × List Row × Option (Int × List Run)) (fun b => ⟨124, [(2, .ptr 0 0 0), (3, .d (.int .i64 0)), (7, .ptr 1 0 0), (35, .d (zaj s)), (36, .d (.int .i64 s.length)), (37, .d (.int .i64 b.1))], [(0, some ⟨24, 1, [[.nl]]⟩), (1, some ⟨24, 1, [[.hs 2 0 (b.2.1.length + (zri b.2.2).length)]]⟩), (2, some ⟨65, 2, dr (b.2.1.map Row.row) ++ zri b.2.2⟩), (3, some ⟨85, 2, dr ((ztf b.2.2).map Run.row)⟩)], 4⟩)
    (fun b => b.1 <= s.length /\ ofX b.2.1 b.2.2 = build (s.take b.1) /\ (b.2.2 = none -> b.2.1 = []) /\ (∀ y L, b.2.2 = some (y, L) -> L ≠ [])) (fun b => s.length - b.1) (0, [], none) ?_ ⟨Nat.zero_le _, by simp [ofX, build], fun _ => rfl, fun y L h => by cases h⟩ ?_
   ·refine wq [(0, some 0), (1, some 7), (2, none), (3, none)] (by simp [upT, upH, upR, upL, up, push_cast, zri, ztf])
   ·rintro ⟨k, P, o⟩ ⟨hk, hX, hP0, hL0⟩;simp only at hk hX hP0 hL0;refine Nav.imp ?_;refine rx cx [] (fun K hK => by simp [push_cast, zri, ztf]; (repeat refine ob ?_); exact hK) ?_;refine awp_cd (decide ((k : Int) < s.length)) (fun hb => ?_) fun hb => ?_
    ·have hlt : k < s.length := by simpa using hb
     obtain ⟨c, hc⟩ := zap hlt;have e0 := wI ((k : Int) + 1);have hcg := onG_bd (hson c (List.mem_of_getElem? hc));have hnx : build (s.take (k + 1)) = zti (ofX P o) c := by rw [build_take hc, hX]
     have hsm := build_small (s.take k);rw [<- hX] at hsm;have hXl : (ofX P o).length <= 1000000 := by have := hsm.1; simp at this; omega
     have hXr : ∀ w ∈ ofX P o, w.runs.length <= 1000000 := fun w hw => by have := hsm.2 w hw; simp at this; omega
     clear hX hsm;obtain ⟨x, y⟩ := c;simp only at hcg;have ex := wI (x + 1);rcases o with _ | ⟨wy, L⟩
     ·have hP := hP0 rfl;subst hP;simp only [ofX, zwy] at hnx;refine rx cx [] (fun K hK => by simp [push_cast, hc, zri, ztf]; (repeat refine ob ?_); exact hK) ?_;refine rg cx ?_;refine rd cx mixed [] (fun K hK => by simp [push_cast]; (repeat refine ob ?_); exact hK) ?_;refine awp_cd true (fun hb => ?_) fun hb => ?_
      ·refine rx cx [] (fun K hK => by simp [push_cast, ex]; (repeat refine ob ?_); exact hK) ?_;refine rx cx [] (fun K hK => by simp [push_cast, e0]; (repeat refine ob ?_); exact hK) ?_;refine ⟨(k + 1, [], some (y, [⟨x, x + 1⟩])), ⟨hlt, hnx.symm, fun h => (by cases h), fun y L h => (by cases h; simp)⟩, by simp only; omega, ?_⟩;refine wq [(0, some 0), (1, some 1), (2, some 40), (3, some 37)] (by simp [upT, upH, upR, upL, up, push_cast, Row.row, Run.row, zri, ztf])
      ·simp at hb
     ·have hLne := hL0 wy L rfl;simp only [ofX] at hnx hXl hXr;rw [zom] at hnx;have hLl := hXr ⟨wy, L⟩ (by simp);simp only at hnx hLl;simp at hXl;have hP32 : (P.length + 1 + 1) * 32 <= 140737488355328 := by omega
      have hL16 : (L.length + 1) * 16 <= 140737488355328 := by omega
      have hget : (dr (P.map Row.row) ++ [[AV.d (.int .i64 wy), AV.hs 3 0 L.length]])[P.length]? = some [AV.d (.int .i64 wy), AV.hs 3 0 L.length] := by
       rw [List.getElem?_append_right (by simp [dr])]; simp [dr]
      have hset : ∀ v, (dr (P.map Row.row) ++ [[AV.d (.int .i64 wy), AV.hs 3 0 L.length]]).set P.length v = dr (P.map Row.row) ++ [v] := fun v => by
       rw [List.set_append_right _ _ (by simp [dr])]; simp [dr]
      obtain ⟨A, hA⟩ : ∃ A, A = P ++ [(⟨wy, L⟩ : Row)] := ⟨_, rfl⟩
      have hfold : dr (P.map Row.row) ++ [[AV.d (.int .i64 wy), AV.d (.sl (L.map Run.row))]] = dr (A.map Row.row) := by rw [hA]; simp [dr, Row.row]
      have hAl : P.length + 1 = A.length := by rw [hA]; simp
      have e4 : ((P.length : Int) + 1 == 0) = false := by simp; omega
      have e6 := wI ((P.length : Int));refine rx cx [] (fun K hK => by simp [push_cast, hc, zri, ztf]; (repeat refine ob ?_); exact hK) ?_;refine rg cx ?_;refine rd cx mixed [] (fun K hK => by simp [push_cast, hget, e4, e6]; (repeat refine ob ?_); exact hK) ?_;refine awp_cn (wy != y) (by simp [push_cast, e4]) (fun hb => ?_) fun hb => ?_
      ·have hb : ¬ wy = y := by simpa using hb
       rw [if_neg hb, <- hA] at hnx;refine zaq 3 (L.map Run.row) rfl (by simp [push_cast, hfold]) fun K hK => ?_;simp [push_cast, St.fz, fzT, fzH, fzO, fz, fzL, fzR, zbx, zbo, zbn, zbm, hfold];refine nx hK ?_; clear hK K;rw [hAl] at hP32 ⊢;clear hA hfold hget hset;refine rx cx [] (fun K hK => by simp [push_cast, ex, hP32]; (repeat refine ob ?_); exact hK) ?_;refine rx cx [] (fun K hK => by simp [push_cast, e0]; (repeat refine ob ?_); exact hK) ?_;refine ⟨(k + 1, A, some (y, [⟨x, x + 1⟩])), ⟨hlt, hnx.symm, fun h => (by cases h), fun y L h => (by cases h; simp)⟩, by simp only; omega, ?_⟩;refine wq [(0, some 0), (1, some 1), (2, some 40), (3, some 37)] (by simp [upT, upH, upR, upL, up, push_cast, Row.row, Run.row, zri, ztf])
      ·have hb : wy = y := by simpa using hb
       subst hb;rw [if_pos rfl] at hnx;obtain ⟨L', r, rfl⟩ : ∃ L' r, L = L' ++ [r] := by
        rcases List.eq_nil_or_concat L with e | ⟨L', r, e⟩
        ·exact absurd e hLne
        ·exact ⟨L', r, by rw [e, List.concat_eq_append]⟩
       have hadd := zqf L' r x;obtain ⟨ra, rb⟩ := r;simp only at hadd;have hz : (L' ++ [(⟨ra, rb⟩ : Run)])[L'.length]? = some ⟨ra, rb⟩ := by simp
       have hlen : (L' ++ [(⟨ra, rb⟩ : Run)]).length = L'.length + 1 := by simp
       have hset2 : ∀ m : Int, (dr ((L' ++ [(⟨ra, rb⟩ : Run)]).map Run.row)).set L'.length [AV.d (.int .i64 ra), AV.d (.int .i64 m)] = dr ((L' ++ [(⟨ra, m⟩ : Run)]).map Run.row) := fun m => by
        simp [dr, Run.row]
       have hlen2 : ∀ m : Int, (L' ++ [(⟨ra, m⟩ : Run)]).length = (L' ++ [(⟨ra, rb⟩ : Run)]).length := fun m => by simp
       generalize hB : L' ++ [(⟨ra, rb⟩ : Run)] = B at *;have e7 := wI ((B.length : Int) - 1);have e8 : ((B.length : Int) - 1).toNat = L'.length := by omega
       have e9 : (0 : Int) <= (B.length : Int) - 1 := by omega
       refine rx cx [] (fun K hK => by simp [push_cast, hget, e6]; (repeat refine ob ?_); exact hK) ?_;refine rd cx mixed [] (fun K hK => by simp [push_cast, hget, hz, e7, e8, e9]; (repeat refine ob ?_); exact hK) ?_;refine rd cx mixed [] (fun K hK => by simp [push_cast, hget, hz, Run.row]; (repeat refine ob ?_); exact hK) ?_;refine awp_cd (decide (rb < x)) (fun hb => ?_) fun hb => ?_
       ·have hb : rb < x := by simpa using hb
        rw [if_pos hb] at hadd;rw [hadd] at hnx;refine rd cx mixed [] (fun K hK => by simp [push_cast, hget, ex, hL16, hset]; (repeat refine ob ?_); exact hK) ?_;refine rx cx [] (fun K hK => by simp [push_cast, e0]; (repeat refine ob ?_); exact hK) ?_;refine ⟨(k + 1, P, some (wy, B ++ [(⟨x, x + 1⟩ : Run)])), ⟨hlt, hnx.symm, fun h => (by cases h), fun y L h => (by cases h; simp)⟩, by simp only; omega, ?_⟩;refine wq [(0, some 0), (1, some 1), (2, some 2), (3, some 64)] (by simp [upT, upH, upR, upL, up, push_cast, Row.row, Run.row, zri, ztf])
       ·have hb : ¬ rb < x := by simpa using hb
        rw [if_neg hb] at hadd;rw [hadd] at hnx;have hne2 : L' ++ [(⟨ra, max rb (x + 1)⟩ : Run)] ≠ [] := by simp
        have hset2 := hset2 (max rb (x + 1));have hlen2 := hlen2 (max rb (x + 1));generalize L' ++ [(⟨ra, max rb (x + 1)⟩ : Run)] = C at *;refine rd cx mixed [] (fun K hK => by simp [push_cast, hget, hz, ex, hset2, Run.row]; (repeat refine ob ?_); exact hK) ?_;refine rx cx [] (fun K hK => by simp [push_cast, e0]; (repeat refine ob ?_); exact hK) ?_;rw [<- hlen2];refine ⟨(k + 1, P, some (wy, C)), ⟨hlt, hnx.symm, fun h => (by cases h), fun y L h => (by cases h; exact hne2)⟩, by simp only; omega, ?_⟩;refine wq [(0, some 0), (1, some 1), (2, some 2), (3, some 3)] (by simp [upT, upH, upR, upL, up, push_cast, Row.row, Run.row, zri, ztf])
    ·have hge : k = s.length := by simp at hb; omega
     subst hge;rw [List.take_length] at hX;rw [<- hX];rcases o with _ | ⟨wy, L⟩
     ·have hP := hP0 rfl;subst hP;simp only [ofX, zri, ztf];refine zaq 2 ([] : List (List D)) rfl (by simp [push_cast]) fun K hK => ?_;simp [push_cast, St.fz, fzT, fzH, fzO, fz, fzL, fzR, zbx, zbo, zbn, zbm];refine nx hK ?_; clear hK K;refine rg cx ?_;simp [push_cast]
     ·simp only [ofX, zri, ztf];obtain ⟨A, hA⟩ : ∃ A, A = P ++ [(⟨wy, L⟩ : Row)] := ⟨_, rfl⟩
      have hfold : dr (P.map Row.row) ++ [[AV.d (.int .i64 wy), AV.d (.sl (L.map Run.row))]] = dr (A.map Row.row) := by rw [hA]; simp [dr, Row.row]
      have hAl : P.length + 1 = A.length := by rw [hA]; simp
      rw [<- hA];refine zaq 3 (L.map Run.row) rfl (by simp [push_cast, hfold]) fun K hK => ?_;simp [push_cast, St.fz, fzT, fzH, fzO, fz, fzL, fzR, zbx, zbo, zbn, zbm, hfold];refine nx hK ?_; clear hK K;rw [hAl];clear hA hfold;refine zaq 2 (A.map Row.row) rfl (by simp [push_cast, Row.row]) fun K hK => ?_;simp [push_cast, St.fz, fzT, fzH, fzO, fz, fzL, fzR, zbx, zbo, zbn, zbm, Row.row];refine nx hK ?_; clear hK K;refine rg cx ?_;simp [push_cast]


def LbAt (R : List Row) (y : Int) (i : Nat) : Prop := i <= R.length /\ (∀ j w, R[j]? = some w -> (j < i ↔ w.y < y))
theorem lb_exists : ∀ {R : List Row}, (R.Pairwise fun a b => a.y < b.y) -> ∀ y, ∃ i, LbAt R y i
 | [], _, y => ⟨0, by simp, fun j w h => by simp at h⟩
 | w :: R, h, y => by
  have h1 := List.pairwise_cons.1 h;by_cases e : w.y < y
  ·obtain ⟨i, hi, hp⟩ := lb_exists h1.2 y;refine ⟨i + 1, by simp; exact hi, fun j v hv => ?_⟩;cases j with
   | zero => simp at hv; subst hv; simp [e]
   | succ j => simp at hv; have := hp j v hv; omega
  ·refine ⟨0, by simp, fun j v hv => ?_⟩;cases j with
   | zero => simp at hv; subst hv; simp; omega
   | succ j => simp at hv; have := h1.1 v (List.mem_of_getElem? hv); omega

theorem rowcmp_ok (w : Row) (y : Int) : PC Tryz.prog 175 [.agg w.row, .int .i64 y] (.p (.int .i64 (zhu w.y y))) := by
 have c1 := zul w.y y;obtain ⟨wy, wr⟩ := w;simp only at c1;generalize zhu wy y = z at *;refine pw cx Tryz.func175 Tryz.ntmps175 ?_;refine rx cx [] (fun K hK => by simp [push_cast, Row.row]; (repeat refine ob ?_); exact hK) ?_;refine rx cx [(3, .p (.int .i64 z))] (fun K hK => by simp [push_cast, c1, Row.row]; (repeat refine ob ?_); exact hK) ?_;simp [push_cast]

theorem cmpI_lt {a b : Int} : (zhu a b < 0) ↔ a < b := by unfold zhu; split <;> (try split) <;> omega
theorem cmpI_eq {a b : Int} : (zhu a b = 0) ↔ a = b := by unfold zhu; split <;> (try split) <;> omega

set_option maxHeartbeats 1000000 in
theorem bsearch_ok (R : List Row) (y : Int) (i : Nat) (hl : R.length <= 1000000) (hi : LbAt R y i) : PC Tryz.prog 174 [zz R, .int .i64 y, .fn (.func 175) []] (.p (.tup [.int .i64 i, .bool (match R[i]? with | some w => decide (w.y = y) | none => false)])) := by
 obtain ⟨hil, hip⟩ := hi;refine pw cx Tryz.func174 Tryz.ntmps174 ?_;iterate 3 refine rg cx ?_
 refine zu (β := Nat × Nat) (fun b => ⟨49, [(0, .d (zz R)), (1, .d (.int .i64 y)), (2, .d (.fn (.func 175) [])), (8, .d (.int .i64 R.length)), (9, .d (.int .i64 b.1)), (10, .d (.int .i64 b.2))], [], 0⟩) (fun b => b.1 <= i /\ i <= b.2 /\ b.2 <= R.length) (fun b => b.2 - b.1) (0, R.length) ?_ ⟨Nat.zero_le _, hil, Nat.le_refl _⟩ ?_
 ·refine wk []
 ·rintro ⟨lo, hi⟩ ⟨h1, h2, h3⟩;simp only at h1 h2 h3;refine Nav.imp ?_;refine rg cx ?_;refine awp_cd (decide (lo < hi)) (fun hb => ?_) fun hb => ?_
  ·have hlh : lo < hi := by simpa using hb
   have e1 := wI ((lo : Int) + hi);have e2 : IntKind.u64.wrap ((lo : Int) + hi) = (lo : Int) + hi := by rw [IntKind.wrap_u64]; omega
   obtain ⟨h, hh⟩ : ∃ h : Nat, h = (lo + hi) / 2 := ⟨_, rfl⟩
   have e3 : ((lo : Int) + hi).fdiv (2 ^ min 1 IntKind.u64.bits) = h := by
    have : (2 : Int) ^ min 1 IntKind.u64.bits = 2 := by decide
    rw [this, Int.fdiv_eq_ediv_of_nonneg _ (by omega)]; omega
   have e4 := wI ((h : Int));have hhl : h < R.length := by omega
   obtain ⟨w, hw⟩ := zap hhl;have hip' := hip h w hw;have c1 := rowcmp_ok w y;have hz : (decide (zhu w.y y < 0)) = decide (w.y < y) := by rw [Bool.eq_iff_iff]; simp [cmpI_lt]
   have e5 := wI ((h : Int) + 1);generalize zhu w.y y = z at *;refine rx cx [] (fun K hK => by simp [push_cast, e1, e2, e3, e4]; (repeat refine ob ?_); exact hK) ?_;refine rx cx [(6, .p (.int .i64 z))] (fun K hK => by simp [push_cast, hw, c1, hz]; (repeat refine ob ?_); exact hK) ?_;refine awp_cd (decide (w.y < y)) (fun hb => ?_) fun hb => ?_
   ·have hb : w.y < y := by simpa using hb
    refine rx cx [] (fun K hK => by simp [push_cast, e5]; (repeat refine ob ?_); exact hK) ?_;refine ⟨(h + 1, hi), ⟨by simp only; omega, h2, h3⟩, by simp only; omega, ?_⟩;refine wk []
   ·have hb : ¬ w.y < y := by simpa using hb
    refine rg cx ?_;refine ⟨(lo, h), ⟨h1, by simp only; omega, by simp only; omega⟩, by simp only; omega, ?_⟩;refine wk []
  ·have hlh : ¬ lo < hi := by simpa using hb
   have : lo = i := by omega
   subst this;cases hw : R[lo]? with
   | none =>
    have hge : ¬ lo < R.length := fun h => by rw [List.getElem?_eq_getElem h] at hw; cases hw
    have hge' : ¬ (lo : Int) < R.length := by omega
    refine rx cx [(11, .skip)] (fun K hK => by simp [push_cast, hw, hge, hge']; (repeat refine ob ?_); exact hK) ?_;simp [push_cast, hw]
   | some w =>
    have hlt := (List.getElem?_eq_some_iff.1 hw).1;have hlt' : (lo : Int) < R.length := by omega
    have c1 := rowcmp_ok w y;have hz : (zhu w.y y == 0) = decide (w.y = y) := by rw [Bool.eq_iff_iff]; simp [cmpI_eq]
    generalize zhu w.y y = z at *;refine rx cx [(11, .p (.int .i64 z))] (fun K hK => by simp [push_cast, hw, c1, hlt', Row.row, hz]; (repeat refine ob ?_); exact hK) ?_;simp [push_cast, hlt, hz]

theorem row_ok (R : List Row) (y : Int) (hR : zbw R) (hv : zo R = true) : PC Tryz.prog 122 [.agg (zp R), .int .i64 y] (.p (zm (zy R y))) := by
 obtain ⟨i, hi⟩ := lb_exists (ziw hv) y;have c1 := bsearch_ok R y i hR.1 hi;have hl := hR.1;cases hw : R[i]? with
 | none =>
  rw [hw] at c1;simp only at c1;have hn : zy R y = [] := by
   refine zih fun w hwm hy => ?_;obtain ⟨j, hj⟩ := List.mem_iff_getElem?.1 hwm;have h1 := (List.getElem?_eq_some_iff.1 hj).1;have h2 : ¬ i < R.length := fun h => by rw [List.getElem?_eq_getElem h] at hw; cases hw
   have := (hi.2 j w hj).1 (by omega);omega
  rw [hn];refine pw cx Tryz.func122 Tryz.ntmps122 ?_;refine rg cx ?_;refine rx cx [(3, .p (.tup [.int .i64 i, .bool false]))] (fun K hK => by simp [push_cast, c1]; (repeat refine ob ?_); exact hK) ?_;refine rg cx ?_;refine awp_cd true (fun hb => ?_) fun hb => ?_
  ·refine rg cx ?_;simp [push_cast]
  ·simp at hb
 | some w =>
  rw [hw] at c1;simp only at c1;have hwm := List.mem_of_getElem? hw;by_cases e : w.y = y
  ·rw [decide_eq_true e] at c1;have hn : zy R y = w.runs := by rw [<- e]; exact zfp hv hwm
   rw [hn];obtain ⟨wy, wr⟩ := w;refine pw cx Tryz.func122 Tryz.ntmps122 ?_;refine rg cx ?_;refine rx cx [(3, .p (.tup [.int .i64 i, .bool true]))] (fun K hK => by simp [push_cast, c1]; (repeat refine ob ?_); exact hK) ?_;refine rg cx ?_;refine awp_cd false (fun hb => ?_) fun hb => ?_
   ·simp at hb
   ·refine rx cx [] (fun K hK => by simp [push_cast, hw, Row.row]; (repeat refine ob ?_); exact hK) ?_;simp [push_cast]
  ·rw [decide_eq_false e] at c1;have hn : zy R y = [] := by
    refine zih fun v hvm hy => ?_;obtain ⟨j, hj⟩ := List.mem_iff_getElem?.1 hvm;have h1 := hi.2 j v hj;have h2 := hi.2 i w hw;rcases Nat.lt_trichotomy j i with h | h | h
    ·have := h1.1 h; omega
    ·subst h; rw [hw] at hj; cases hj; exact e hy
    ·have := zvg hv j i v w h hj hw; omega
   rw [hn];refine pw cx Tryz.func122 Tryz.ntmps122 ?_;refine rg cx ?_;refine rx cx [(3, .p (.tup [.int .i64 i, .bool false]))] (fun K hK => by simp [push_cast, c1]; (repeat refine ob ?_); exact hK) ?_;refine rg cx ?_;refine awp_cd true (fun hb => ?_) fun hb => ?_
   ·refine rg cx ?_;simp [push_cast]
   ·simp at hb

def zvv (x : Int) (r : Run) : Bool := decide (r.a <= x) && decide (x < r.b)
def conB (R : List Row) (c : zf) : Bool := zo R && inR (zy R c.y) c.x
theorem conB_mem {R : List Row} (h : zo R = true) (c : zf) : conB R c = decide (c ∈ zl R) := by
 unfold conB;rw [h, Bool.true_and, Bool.eq_iff_iff, decide_eq_true_eq];exact (znf h c).symm
theorem tw_len : ∀ {l : List Run} {k : Nat} {x : Int} {r : Run}, (∀ q ∈ l.take k, zvv x q = false) -> l[k]? = some r -> zvv x r = true -> (l.takeWhile fun q => !zvv x q).length = k
 | [], k, x, r, _, h, _ => by simp at h
 | q :: l, 0, x, r, _, h, hr => by simp at h; subst h; simp [hr]
 | q :: l, k + 1, x, r, hp, h, hr => by
  have hq := hp q (by simp);have := tw_len (l := l) (k := k) (x := x) (r := r) (fun s hs => hp s (by simp [hs])) (by simpa using h) hr;simp [hq, this]
def idxR (l : List Run) (x : Int) : Int := if inR l x then ((l.takeWhile fun q => !zvv x q).length : Nat) else -1

theorem hit_ok (r : Run) (x : Int) : PC Tryz.prog 173 [.agg r.row, .rp [.int .i64 x]] (.p (.bool (zvv x r))) := by
 obtain ⟨ra, rb⟩ := r;refine pw cx Tryz.func173 Tryz.ntmps173 ?_;refine rx cx [] (fun K hK => by simp [push_cast, Run.row]; (repeat refine ob ?_); exact hK) ?_;refine rx cx [] (fun K hK => by simp [push_cast, Run.row]; (repeat refine ob ?_); exact hK) ?_;simp [push_cast, zvv]

theorem indexF_ok (l : List Run) (x : Int) (hl : l.length <= 1000000) : PC Tryz.prog 231 [zm l, .fn (.func 173) [.rp [.int .i64 x]]] (.p (.int .i64 (idxR l x))) := by
 refine pw cx Tryz.func231 Tryz.ntmps231 ?_;refine rg cx ?_;refine rg cx ?_;refine zu (β := Nat) (fun k => ⟨19, [(0, .d (zm l)), (1, .d (.fn (.func 173) [.rp [.int .i64 x]])), (7, .d (.int .i64 l.length)), (8, .d (.int .i64 k))], [], 0⟩) (fun k => k <= l.length /\ ∀ q ∈ l.take k, zvv x q = false) (fun k => l.length - k) 0 ?_ ⟨Nat.zero_le _, by simp⟩ ?_
 ·refine wk []
 ·rintro k ⟨hk, hno⟩;refine Nav.imp ?_;refine rg cx ?_;refine awp_cd (decide ((k : Int) < l.length)) (fun hb => ?_) fun hb => ?_
  ·have hlt : k < l.length := by simpa using hb
   obtain ⟨r, hr⟩ := zap hlt;have e0 := wI ((k : Int) + 1);have c1 := hit_ok r x;generalize hv : zvv x r = v at c1;refine rg cx ?_;refine rx cx [(5, .p (.bool v))] (fun K hK => by simp [push_cast, hr, c1]; (repeat refine ob ?_); exact hK) ?_;refine awp_cd v (fun hb => ?_) fun hb => ?_
   ·rw [hb] at hv;have hi : idxR l x = (k : Int) := by
     have h1 : inR l x = true := zai.2 ⟨r, List.mem_of_getElem? hr, by simpa [zvv] using hv⟩;unfold idxR;rw [if_pos h1, tw_len hno hr hv]
    rw [hi];refine rg cx ?_;simp [push_cast]
   ·rw [hb] at hv;refine rx cx [] (fun K hK => by simp [push_cast, e0]; (repeat refine ob ?_); exact hK) ?_;refine ⟨k + 1, ⟨hlt, fun q hq => ?_⟩, by omega, ?_⟩
    ·rw [zat hr] at hq;rcases List.mem_append.1 hq with hq | hq
     ·exact hno q hq
     ·simp at hq; subst hq; exact hv
    ·refine wk []
  ·have hge : k = l.length := by simp at hb; omega
   subst hge;rw [List.take_length] at hno;have hi : idxR l x = -1 := by
    have h1 : inR l x = false := by
     rw [Bool.eq_false_iff];intro h;obtain ⟨r, hr, h2, h3⟩ := zai.1 h;have := hno r hr;simp [zvv, h2, h3] at this
    unfold idxR;rw [h1]; rfl
   rw [hi];refine rg cx ?_;simp [push_cast]

theorem contf_ok (l : List Run) (x : Int) (hl : l.length <= 1000000) : PC Tryz.prog 172 [zm l, .fn (.func 173) [.rp [.int .i64 x]]] (.p (.bool (inR l x))) := by
 have c1 := indexF_ok l x hl;have hi : decide (0 <= idxR l x) = inR l x := by
  unfold idxR;split
  ·rename_i h; rw [h]; simp
  ·rename_i h; simp at h; rw [h]; simp
 generalize idxR l x = n at *;refine pw cx Tryz.func172 Tryz.ntmps172 ?_;refine rg cx ?_;refine rx cx [(2, .p (.int .i64 n))] (fun K hK => by simp [push_cast, c1]; (repeat refine ob ?_); exact hK) ?_;simp [push_cast, hi]

theorem rcontains_ok (l : List Run) (x : Int) (hl : l.length <= 1000000) (hv : zal l = true) : PC Tryz.prog 121 [zm l, .int .i64 x] (.p (.bool (inR l x))) := by
 have c1 := zne l hl;have c2 := contf_ok l x hl;rw [hv] at c1;generalize inR l x = v at *;refine pw cx Tryz.func121 Tryz.ntmps121 ?_;refine rg cx ?_;refine zaq 0 ([[.int .i64 x]]) rfl (by simp [push_cast]) fun K hK => ?_;simp [push_cast, St.fz, fzT, fzH, fzO, fz, fzL, fzR, zbx, zbo, zbn, zbm];refine nx hK ?_; clear hK K;refine rx cx [(1, .p (.bool true))] (fun K hK => by simp [push_cast, c1]; (repeat refine ob ?_); exact hK) ?_;refine awp_cd false (fun hb => ?_) fun hb => ?_
 ·simp at hb
 ·refine rx cx [(2, .p (.bool v))] (fun K hK => by simp [push_cast, c2]; (repeat refine ob ?_); exact hK) ?_;simp [push_cast]

theorem inside18_ok (l : List Run) (x : Int) (hl : l.length <= 1000000) : PC Tryz.prog 178 [zm l, .int .i64 x] (.p (.bool (inR l x))) := by
 refine pw cx Tryz.func178 Tryz.ntmps178 ?_;refine rg cx ?_;refine rg cx ?_;refine zu (β := Nat) (fun k => ⟨28, [(0, .d (zm l)), (1, .d (.int .i64 x)), (5, .d (.int .i64 k))], [], 0⟩) (fun k => k <= l.length /\ ∀ q ∈ l.take k, zvv x q = false) (fun k => l.length - k) 0 ?_ ⟨Nat.zero_le _, by simp⟩ ?_
 ·refine wk []
 ·rintro k ⟨hk, hno⟩;refine Nav.imp ?_;refine rg cx ?_;refine awp_cd (decide ((k : Int) < l.length)) (fun hb => ?_) fun hb => ?_
  ·have hlt : k < l.length := by simpa using hb
   obtain ⟨r, hr⟩ := zap hlt;have hrm := List.mem_of_getElem? hr;have e0 := wI ((k : Int) + 1);obtain ⟨ra, rb⟩ := r;refine rx cx [] (fun K hK => by simp [push_cast, hr, Run.row]; (repeat refine ob ?_); exact hK) ?_;refine ze (by simp [push_cast] <;> exact rfl) (fun hb => ?_) (fun hb => ?_) <;> (refine Nav.imp ?_)
   ·have hi : inR l x = true := zai.2 ⟨_, hrm, by simpa using hb⟩;refine rg cx ?_;simp [push_cast, hi]
   ·have hv : zvv x ⟨ra, rb⟩ = false := by
     rw [Bool.eq_false_iff]; intro h; simp [zvv] at h; simp [h] at hb
    refine rx cx [] (fun K hK => by simp [push_cast, e0]; (repeat refine ob ?_); exact hK) ?_;refine ⟨k + 1, ⟨hlt, fun q hq => ?_⟩, by omega, ?_⟩
    ·rw [zat hr] at hq;rcases List.mem_append.1 hq with hq | hq
     ·exact hno q hq
     ·simp at hq; subst hq; exact hv
    ·refine wk []
  ·have hge : k = l.length := by simp at hb; omega
   subst hge;rw [List.take_length] at hno;have h1 : inR l x = false := by
    rw [Bool.eq_false_iff];intro h;obtain ⟨r, hr, h2, h3⟩ := zai.1 h;have := hno r hr;simp [zvv, h2, h3] at this
   rw [h1];refine rg cx ?_;simp [push_cast]

theorem contains_ok (R : List Row) (c : zf) (hR : zbw R) : PC Tryz.prog 58 [.agg (zp R), .agg c.row] (.p (.bool (conB R c))) := by
 have c1 := zmy R hR;obtain ⟨x, y⟩ := c;have hC : conB R ⟨x, y⟩ = (zo R && inR (zy R y) x) := rfl;rw [hC];clear hC;cases hv : zo R with
 | false =>
  rw [hv] at c1;refine pw cx Tryz.func58 Tryz.ntmps58 ?_;refine rg cx ?_;refine rd cx mixed [(1, .p (.bool false)), (6, .skip), (9, .skip)] (fun K hK => by simp [push_cast, c1]; (repeat refine ob ?_); exact hK) ?_;simp [push_cast]
 | true =>
  rw [hv] at c1;have hlr : (zy R y).length <= 1000000 := by
   unfold zy;split
   ·rename_i w h; exact hR.2 w (List.mem_of_find?_eq_some h)
   ·simp
  have c2 := row_ok R y hR hv;have c3 := rcontains_ok (zy R y) x hlr (zdb hv y);generalize inR (zy R y) x = v at *;generalize zy R y = r at *;refine pw cx Tryz.func58 Tryz.ntmps58 ?_;refine rg cx ?_;refine rd cx mixed [(1, .p (.bool true)), (6, .p (zm r)), (9, .p (.bool v))] (fun K hK => by simp [push_cast, c1, c2, c3]; (repeat refine ob ?_); exact hK) ?_;simp [push_cast]
end Go.Proofs.YtdddknniooimmaaGreat

namespace Go.Abs
variable [Flag]
open Go.Shelf Go.RowKit Go.Lib Go.Sort Go.Proofs

abbrev zbu (x : Int) : List D := [.int .i64 x]
abbrev zkc (x : Int) : Value := .int .i64 x

theorem heap_rowI (w : World) (blk n : Nat) (d : Array Int) (os : Array Obj) {b : Nat} (hb : b < w.heap.size) (hne : b ≠ blk) : (grow (putRow zkc (Go.Sort.ahead w n) blk 0 d) os).heap[b]? = w.heap[b]? := by
 rw [heap_grow_old _ _ (by simpa [putRow, mapBlock, heap_ahead] using hb)];simp only [putRow, mapBlock, heap_ahead];rw [Array.getElem?_modify, if_neg (fun h => hne h.symm)]
theorem zts (w : World) (blk n : Nat) (d : Array Int) (os : Array Obj) {cur : Array Value} {e : TypeId} {fr : Nat × Nat} (h : w.heap[blk]? = some (.cells cur e fr)) : (grow (putRow zkc (Go.Sort.ahead w n) blk 0 d) os).heap[blk]? = some (.cells (Go.Sort.putCells zkc 0 d cur) e fr) := by
 have hb : blk < w.heap.size := (Array.getElem?_eq_some_iff.1 h).1;rw [heap_grow_old _ _ (by simpa [putRow, mapBlock, heap_ahead] using hb)];simp only [putRow, mapBlock, heap_ahead];rw [Array.getElem?_modify, if_pos rfl, h];rfl
theorem size_rowI (w : World) (blk n : Nat) (d : Array Int) (os : Array Obj) : w.heap.size <= (grow (putRow zkc (Go.Sort.ahead w n) blk 0 d) os).heap.size := by
 rw [size_grow]; simp [putRow, mapBlock, heap_ahead]
theorem drawn_rowI (w : World) (blk n : Nat) (d : Array Int) (os : Array Obj) : w.drawn <= (grow (putRow zkc (Go.Sort.ahead w n) blk 0 d) os).drawn := by
 simp [grow, putRow, mapBlock, ahead]

theorem int_px {P : Program} {f : FuncId} (hent : zha P f) (e : TypeId) {zs ys : List Int} (hn : 0 < zs.length) (hlen : ys.length = zs.length) (rv : Nat -> Nat -> Value) (rA : AV)
  (hrep : ∀ (g : G) (w : World) (L : Loc), g.used 0 -> g.loc 0 = some L -> (L.virt = false /\ L.map = false) -> zs.length <= L.cap -> zi g w rA (rv L.blk L.cap))
  (hc : ∀ (blk cap : Nat) (w : World), Holds zkc w blk 0 zs.toArray -> blk < w.heap.size -> zs.length <= cap -> Calls P f #[.slice (some ⟨blk, 0, none⟩) zs.length cap] w fun e w' => e = .returned (rv blk cap) /\ ∃ n os, w' = grow (putRow zkc (Go.Sort.ahead w n) blk 0 ys.toArray) os) :
  PX P f [.hs 0 0 zs.length] [(0, ⟨e, 1, dr (zs.map zbu)⟩)] [(0, 0)] [(0, ⟨e, 1, dr (ys.map zbu)⟩)] rA := by
 refine ⟨hent, fun g w vs h hu hvs => ?_⟩;simp only [zk] at hvs;obtain ⟨v0, _, rfl, h0, rfl⟩ := hvs;obtain ⟨L0, hL, hok⟩ := h.own 0 ⟨e, 1, dr (zs.map zbu)⟩ (by simp [zfy, find]);have hkm : L0.m = 1 := hok.m;have hlenr : (dr (zs.map zbu)).length = zs.length := by simp [dr]
 have hvirt : L0.virt = false := by
  cases hv : L0.virt with
  | false => rfl
  | true =>
   have h2 : (dr (zs.map zbu)).length = 0 := by rw [show dr (zs.map zbu) = [] from hok.virt hv]; rfl
   omega
 simp only [zi] at h0;have hflat : L0.virt = false /\ L0.map = false := by
  rcases h0.2 L0 hL with ⟨hv, _⟩ | ⟨hv, _⟩
  ·rw [hvirt] at hv; cases hv
  ·exact hv
 have hvm := hflat.2;obtain ⟨cur, hR, hcs, hcap, hrows⟩ := hok.cells hflat;have hR' := hR;obtain ⟨el0, fr0, hblk, hx1, hx2⟩ := hR';have e0 : v0 = .slice (some ⟨L0.blk, 0, none⟩) zs.length L0.cap := by
  rcases h0.2 L0 hL with ⟨hv, _⟩ | ⟨_, _, hv⟩
  ·rw [hvirt] at hv; cases hv
  ·rw [hv]; simp
 have hcapl : zs.length <= L0.cap := by have := hok.len hvm; rw [hlenr] at this; exact this
 have hblt : L0.blk < w.heap.size := (Array.getElem?_eq_some_iff.1 hblk).1;have hcsz : cur.size = L0.cap := by rw [hcs, hkm]; simp
 have hget : ∀ i (hi : i < zs.length), cur[i]? = some (zkc zs[i]) := fun i hi => by
  have hrow := hrows i ((zbu zs[i]).map AV.d) (by simp [dr, hi]);obtain ⟨u, hu1, hu2, hu3⟩ := hrow.2 0 (.d (.int .i64 zs[i])) (by simp);rw [hkm] at hu1;simp only [zi, zv] at hu3;rw [hu3] at hu1;simpa using hu1
 have hH : Holds zkc w L0.blk 0 zs.toArray := by
  intro j hj;have hj' : j < zs.length := by simpa using hj
  have h1 := hget j hj';refine ⟨?_, ?_⟩
  ·simp only [World.cell?, hblk, Nat.zero_add, Option.isSome_none, Bool.false_eq_true, if_false];rw [h1, getElem!_pos zs.toArray j hj];simp
  ·simpa using hR.open (o := j) (by omega)
 rw [e0];refine (hc L0.blk L0.cap w hH hblt hcapl).mono ?_;rintro ex w' ⟨rfl, n, os, rfl⟩;have hbs : zgc ((grow (putRow zkc (Go.Sort.ahead w n) L0.blk 0 ys.toArray) os).heap[L0.blk]?) e (Go.Sort.putCells zkc 0 ys.toArray cur) := ⟨el0, fr0, zts w L0.blk n ys.toArray os hblk, hx1, by simp only [Go.Sort.putCells, Array.size_mapIdx]; exact hx2⟩
 obtain ⟨g', h1, h2, h3, h4, h5, h6⟩ := zah.write h hL hflat (id' := 0) (.inl rfl) ⟨e, 1, dr (ys.map zbu)⟩ (Go.Sort.putCells zkc 0 ys.toArray cur) (w' := grow (putRow zkc (Go.Sort.ahead w n) L0.blk 0 ys.toArray) os) (cap := L0.cap) (B := L0.blk) rfl ⟨rfl, .inr (drawn_rowI _ _ _ _ _)⟩ rfl (size_rowI _ _ _ _ _)
  (fun b hb hne => heap_rowI _ _ _ _ _ hb hne) (.inl rfl) hbs hkm.symm hok.pos (by simp only [Go.Sort.putCells, Array.size_mapIdx]; rw [hcs]) (by simp [dr]; omega) hcap (fun _ => ⟨rfl, rfl⟩) (by
   intro i row hi;have hil : i < ys.length := by have := (List.getElem?_eq_some_iff.1 hi).1; simpa [dr] using this
   have hrow : row = (zbu ys[i]).map AV.d := by
    have : (dr (ys.map zbu))[i]? = some ((zbu ys[i]).map AV.d) := by simp [dr, hil]
    rw [this] at hi; exact (Option.some.inj hi).symm
   subst hrow;refine ⟨by simp [hkm], fun j av hj => ?_⟩;have hj0 : j = 0 := by have := (List.getElem?_eq_some_iff.1 hj).1; simp at this; omega
   subst hj0;have hav : av = .d (.int .i64 ys[i]) := by simpa using hj.symm
   subst hav;refine ⟨zkc ys[i], ?_, rfl, by simp only [zi, zv]⟩;rw [hkm];have hic : i < cur.size := by omega
   simp only [Go.Sort.putCells, Nat.mul_one, Nat.add_zero, Array.getElem?_mapIdx, Array.getElem?_eq_getElem hic, Option.map_some];rw [if_pos ⟨Nat.zero_le _, by simp; omega⟩];have : ys.toArray[i - 0]! = ys[i] := by rw [Nat.sub_zero, getElem!_pos ys.toArray i (by simpa using hil)]; simp
   rw [this])
 refine ⟨_, g', rfl, ?_, ?_, h5, ?_⟩
 ·have : (zbj (zbj (zfy [(0, ⟨e, 1, dr (zs.map zbu)⟩)]) 0 none) 0 (some ⟨e, 1, dr (ys.map zbu)⟩)) = zfy [(0, ⟨e, 1, dr (ys.map zbu)⟩)] := by
   funext x
   simp only [zbj, zfy, find];by_cases hx : x = 0
   ·subst hx; simp
   ·have hx' : ¬ (0 = x) := fun h => hx h.symm;simp [hx, hx']
  rw [<- this]; exact h4
 ·exact hrep g' _ ⟨L0.blk, L0.m, L0.cap, false, false⟩ (by rw [h2]; exact .inr rfl) h1 ⟨rfl, rfl⟩ hcapl
 ·intro i j hij;simp only [List.mem_cons, List.not_mem_nil, or_false, Prod.mk.injEq] at hij;obtain ⟨rfl, rfl⟩ := hij;rw [h1, hL];cases L0; simp_all

theorem int_px0 {P : Program} {f : FuncId} (hent : zha P f) (e : TypeId) (rv : Option Addr -> Nat -> Value) (rA : AV)
  (hrep : ∀ (g : G) (w : World) p c, zi g w (.hs 0 0 0) (.slice p 0 c) -> zi g w rA (rv p c))
  (hc : ∀ p c (w : World), Calls P f #[.slice p 0 c] w fun e w' => e = .returned (rv p c) /\ w' = w) :
  PX P f [.hs 0 0 0] [(0, ⟨e, 1, []⟩)] [(0, 0)] [(0, ⟨e, 1, []⟩)] rA := by
 refine ⟨hent, fun g w vs h hu hvs => ?_⟩;simp only [zk] at hvs;obtain ⟨v0, _, rfl, h0, rfl⟩ := hvs;have h00 := h0;obtain ⟨L0, hL, hok⟩ := h.own 0 ⟨e, 1, []⟩ (by simp [zfy, find]);simp only [zi] at h0;have e0 : ∃ p c, v0 = .slice p 0 c := by
  rcases h0.2 L0 hL with ⟨_, _, _, a0, hv⟩ | ⟨_, _, hv⟩
  ·exact ⟨a0, _, hv⟩
  ·exact ⟨_, _, hv⟩
 obtain ⟨p, c, rfl⟩ := e0;refine (hc p c w).mono ?_;rintro ex w' ⟨rfl, rfl⟩;refine ⟨_, g, rfl, h, hrep _ _ _ _ h00, zam.refl g _, ?_⟩;intro i j hij;simp only [List.mem_cons, List.not_mem_nil, or_false, Prod.mk.injEq] at hij;obtain ⟨rfl, rfl⟩ := hij;rfl

theorem sortI_px {P : Program} {ρ : Ren} (L : Lays.n189 P ρ) (hent : zha P (ρ.f 189)) (e : TypeId) (zs : List Int) (hsz : zs.length < 4611686018427387904) :
  PX P (ρ.f 189) [.hs 0 0 zs.length] [(0, ⟨e, 1, dr (zs.map zbu)⟩)] [(0, 0)] [(0, ⟨e, 1, dr ((zs.mergeSort fun x y => decide (x <= y)).map zbu)⟩)] (.tup []) := by
 by_cases hn : 0 < zs.length
 ·exact int_px hent e hn (List.length_mergeSort zs) (fun _ _ => .tuple #[]) (.tup []) (fun g w L _ _ _ _ => by simp only [zi, zk]; exact ⟨[], rfl, rfl⟩)
   fun blk cap w hH hb _ => Any.slices_Sort_int L blk 0 cap zs w hH hb hsz
 ·have : zs = [] := List.eq_nil_of_length_eq_zero (by omega);subst this;have := int_px0 hent e (fun _ _ => .tuple #[]) (.tup []) (fun g w p c _ => by simp only [zi, zk]; exact ⟨[], rfl, rfl⟩) fun p c w => Any.slices_Sort_int_none L p c w;simpa [dr] using this

theorem compactI_px {P : Program} {ρ : Ren} (L : Lays2.n20 P ρ) (hent : zha P (ρ.f 20)) (e : TypeId) (zs : List Int) (hsz : zs.length <= 9223372036854775807) :
  PX P (ρ.f 20) [.hs 0 0 zs.length] [(0, ⟨e, 1, dr (zs.map zbu)⟩)] [(0, 0)] [(0, ⟨e, 1, dr ((Lib.compact zs ++ List.replicate (zs.length - (Lib.compact zs).length) 0).map zbu)⟩)] (.hs 0 0 (Lib.compact zs).length) := by
 have hle := Lib.compact_length_le zs;by_cases hn : 0 < zs.length
 ·refine int_px hent e hn (by simp; omega) (fun blk cap => .slice (some ⟨blk, 0, none⟩) (Lib.compact zs).length cap) (.hs 0 0 (Lib.compact zs).length) (fun g w L hu hL hv hcap => ?_) fun blk cap w hH hb hcap => ?_
  ·have := zrc (L := L) (w := w) hu hL hv (len := (Lib.compact zs).length) (by omega);exact this
  ·refine (Any.slices_Compact_int L blk 0 cap zs w hH hsz hcap).mono ?_;rintro ex w' ⟨h1, q, h2⟩;exact ⟨h1, q, #[], by rw [grow_empty]; exact h2⟩
 ·have : zs = [] := List.eq_nil_of_length_eq_zero (by omega);subst this;have := int_px0 hent e (fun p c => .slice p 0 c) (.hs 0 0 0) (fun g w p c h => h) fun p c w => Any.slices_Compact_int_empty L p c w;have hc : Lib.compact ([] : List Int) = [] := rfl;simpa [dr, hc] using this

theorem compact_sorted {zs : List Int} (h : zs.Pairwise (· <= ·)) : (Lib.compact zs).Pairwise (· < ·) /\ ∀ y, y ∈ Lib.compact zs ↔ y ∈ zs := by
 have key : ∀ m, m <= zs.length -> (Lib.compactUpTo zs.toArray m).Pairwise (· < ·) /\ (∀ y, y ∈ Lib.compactUpTo zs.toArray m ↔ y ∈ zs.take m) := by
  intro m;induction m with
  | zero => intro _; simp [Lib.compactUpTo]
  | succ m ih =>
   intro hm;obtain ⟨ih1, ih2⟩ := ih (by omega);have hlt : m < zs.length := by omega
   have hg : zs.toArray[m]! = zs[m] := by rw [getElem!_pos zs.toArray m (by simpa using hlt)]; simp
   have htk : zs.take (m + 1) = zs.take m ++ [zs[m]] := by rw [List.take_add_one, List.getElem?_eq_getElem hlt]; rfl
   rw [Lib.compactUpTo_succ, htk, hg];by_cases hk : Lib.keeps zs.toArray m = true
   ·rw [if_pos hk];refine ⟨?_, fun y => by rw [List.mem_append, List.mem_append, ih2]⟩;rw [List.pairwise_append];refine ⟨ih1, by simp, fun a ha b hb => ?_⟩;simp at hb; subst hb;rw [ih2] at ha;obtain ⟨j, hj, rfl⟩ := List.mem_iff_getElem.1 ha;have hjm : j < m := by simp at hj; omega
    rw [List.getElem_take];have hm0 : 0 < m := by omega
    have hg1 : zs.toArray[m - 1]! = zs[m - 1] := by rw [getElem!_pos zs.toArray (m - 1) (by simp; omega)]; simp
    simp only [Lib.keeps, hg, hg1, decide_eq_true_eq] at hk;have h1 := List.pairwise_iff_getElem.1 h (m - 1) m (by omega) hlt (by omega);have h2 : zs[j] <= zs[m - 1] := by
     by_cases e : j = m - 1
     ·subst e; exact Int.le_refl _
     ·exact List.pairwise_iff_getElem.1 h j (m - 1) (by omega) (by omega) (by omega)
    have h3 : zs[m] ≠ zs[m - 1] := by rcases hk with hk | hk; omega; exact hk
    omega
   ·rw [if_neg hk, List.append_nil];refine ⟨ih1, fun y => ?_⟩;rw [ih2];simp only [Lib.keeps, decide_eq_true_eq] at hk;have hm0 : m ≠ 0 := fun e => hk (.inl e);have hg1 : zs.toArray[m - 1]! = zs[m - 1] := by rw [getElem!_pos zs.toArray (m - 1) (by simp; omega)]; simp
    have he : zs[m] = zs[m - 1] := by
     apply Classical.byContradiction
     intro hne;exact hk (.inr (by rw [hg, hg1]; exact hne))
    simp only [List.mem_append, List.mem_singleton];constructor
    ·exact .inl
    ·rintro (h1 | h1)
     ·exact h1
     ·rw [h1, he];exact List.mem_iff_getElem.2 ⟨m - 1, by simp; omega, by rw [List.getElem_take]⟩
 have := key zs.length (Nat.le_refl _);rw [List.take_length] at this;exact this
end Go.Abs
