/-
  Texts of this seat put together: AbsF, S1, H1, AbsK, BK1, BK2, BK3, X4.
-/
import Derived.Test.YtgicofpllopjmaaGreatJ8
import Derived.Test.YtgicofpllopjmaaGreatJ6
import Derived.Test.YtgicofpllopjmaaGreatJ7
import Derived.Test.YtgicofpllopjmaaGreatJ4
import Derived.Shelf.SlSortCmp.NoneTotal
import Derived.Lib.QuietBelow
import Derived.Test.YtgicofpllopjmaaGreatChecked
import Derived.Deep.RegionHeld3
import Derived.Deep.DrawnRows
set_option linter.unusedVariables false
set_option linter.unusedSectionVars false
set_option linter.unusedSimpArgs false
namespace Go.Abs
variable [Flag]
open Go.Shelf Go.RowKit Go.Lib Go.Sort Go.Proofs

def sortOut (e : TypeId) (k : Nat) (cf : List D → List D → Int) (rows : List (List D)) : List (Nat × Ob) → AV → Prop := fun hp' r => ∃ rows', rows'.Perm rows ∧ (rows'.Pairwise fun a b => ¬ cf b a < 0) ∧ hp' = [(0, ⟨e, k, dr rows'⟩)] ∧ r = .tup []
theorem sortFunc_pxe {P : Program} {ρ : Ren} (L : SlLaysF0.n6 P ρ) {k : Nat} (hk0 : 0 < k) (aE : ∀ w, (isAgg (ρ.t 24)).run P w = .ok true w) (zE : ∀ w, (Go.sizeOf (ρ.t 24)).run P w = .ok k w) (hent : Enters P (ρ.f 6)) {cg : FuncId}
    (eg : ∀ args w, (callFunc cg args).run P w = .ok (.enter cg args) w) {V : List D → Prop} {cf : List D → List D → Int} (hc : CmpOk P cg V cf) (hO : CmpOrd V cf) (e : TypeId) {rows : List (List D)} (hV : ∀ r ∈ rows, V r)
    (hn : 0 < rows.length) (hsz : rows.length < 4611686018427387904) (fv : AV)
    (hfv : ∀ g w v, RepA g w fv v → v = .func (.func cg) #[] #[]) :
    PXE P (ρ.f 6) [.hs 0 0 rows.length, fv] [(0, ⟨e, k, dr rows⟩)] [(0, 0)] (sortOut e k cf rows) := by
  refine ⟨hent, fun g w vs h hu hvs => ?_⟩
  simp only [RepAs] at hvs
  obtain ⟨v0, _, rfl, h0, v1, _, rfl, h1, rfl⟩ := hvs
  have e1 := hfv g w v1 h1
  obtain ⟨L0, hL, hok⟩ := h.own 0 ⟨e, k, dr rows⟩ (by simp [objL, find])
  have hkm : L0.m = k := hok.m
  have hlenr : (dr rows).length = rows.length := by simp [dr]
  have hvirt : L0.virt = false := by
    cases hv : L0.virt with
    | false => rfl
    | true =>
      have h2 : (dr rows).length = 0 := by rw [show dr rows = [] from hok.virt hv]; rfl
      omega
  simp only [RepA] at h0
  have hflat : L0.virt = false ∧ L0.map = false := by
    rcases h0.2 L0 hL with ⟨hv, _⟩ | ⟨hv, _⟩
    · rw [hvirt] at hv; cases hv
    · exact hv
  have hvm := hflat.2
  obtain ⟨cur, hR, hcs, hcap, hrows⟩ := hok.cells hflat
  have hR' := hR
  obtain ⟨el0, fr0, hblk, hx1, hx2⟩ := hR'
  have e0 : v0 = .slice (some ⟨L0.blk, 0, none⟩) rows.length L0.cap := by
    rcases h0.2 L0 hL with ⟨hv, _⟩ | ⟨_, _, hv⟩
    · rw [hvirt] at hv; cases hv
    · rw [hv]; simp
  have hcapl : rows.length ≤ L0.cap := by have := hok.len hvm; rw [hlenr] at this; exact this
  have hblt : L0.blk < w.heap.size := (Array.getElem?_eq_some_iff.1 hblk).1
  have hnro : ¬ g.ro L0.blk := ((h.live 0 L0 hL).2 hvirt).2
  have hro : ∀ b, g.ro b → b < w.heap.size ∧ b ≠ L0.blk := fun b hb => ⟨h.ro b hb, fun e => hnro (e ▸ hb)⟩
  have hcsz : rows.length * k ≤ cur.size := by rw [hcs, hkm]; exact Nat.mul_le_mul_right k hcapl
  have hin : ∀ i, i < rows.length → i * k + k ≤ cur.size := fun i hi => by
    have := Nat.mul_le_mul_right k (show i + 1 ≤ rows.length from hi)
    rw [Nat.add_mul, Nat.one_mul] at this; omega
  -- the cells of element i
  have hel : ∀ i (hi : i < rows.length), V rows[i] ∧ (cur.toList.drop (i * k) |>.take k).length = k ∧ OneCells (cur.toList.drop (i * k) |>.take k) ∧ RepDs g.ro w rows[i] (cur.toList.drop (i * k) |>.take k) := by
    intro i hi
    have hrow := hrows i (rows[i].map AV.d) (by simp [dr, hi])
    have hl : (cur.toList.drop (i * k) |>.take k).length = k := by
      have := hin i hi
      simp only [List.length_take, List.length_drop, Array.length_toList]; omega
    have hget : ∀ j, j < k → (cur.toList.drop (i * k) |>.take k)[j]? = cur[i * k + j]? := fun j hj => by
      rw [List.getElem?_take, if_pos hj, List.getElem?_drop, Array.getElem?_toList]
    have hrl : rows[i].length = k := by have := hrow.1; rw [hkm] at this; simpa using this
    refine ⟨hV _ (List.getElem_mem hi), hl, ?_, ?_⟩
    · intro v hv
      obtain ⟨j, hj⟩ := List.mem_iff_getElem?.1 hv
      have hjk : j < k := by have := (List.getElem?_eq_some_iff.1 hj).1; omega
      rw [hget j hjk] at hj
      obtain ⟨u, hu1, hu2, _⟩ := hrow.2 j (.d (rows[i][j]'(by omega))) (by simp [show j < rows[i].length by omega])
      rw [hkm, hj] at hu1
      cases hu1
      exact hu2
    · refine RepDs.of_get (by rw [hl, hrl]) fun j x hj => ?_
      have hjk : j < k := by have := (List.getElem?_eq_some_iff.1 hj).1; omega
      obtain ⟨u, hu1, _, hu3⟩ := hrow.2 j (.d x) (by simp [hj])
      rw [hkm] at hu1
      exact ⟨u, by rw [hget j hjk, hu1], by simpa only [RepA] using hu3⟩
  let mk : _root_.Fin rows.length → Elt g.ro w V k := fun i => ⟨(rows[i.1], (cur.toList.drop (i.1 * k)).take k), hel i.1 i.2⟩
  let d : Array (Elt g.ro w V k) := Array.ofFn mk
  haveI : Inhabited (Elt g.ro w V k) := ⟨mk ⟨0, hn⟩⟩
  have hds : d.size = rows.length := by simp [d]
  have hdi : ∀ i (hi : i < rows.length), d[i]! = mk ⟨i, hi⟩ := fun i hi => by
    rw [getElem!_pos d i (by rw [hds]; exact hi)]; simp [d]
  have hdl : d.toList.map (fun x => x.1.1) = rows := by
    apply List.ext_getElem
    · simp [d]
    · intro i h1 h2
      have hi : i < d.size := by simpa using h1
      rw [List.getElem_map, Array.getElem_toList]
      have e := hdi i h2
      rw [getElem!_pos d i hi] at e
      rw [e]
  have hH : HoldsK (Elt.enc g.ro w V k) k w L0.blk 0 d := by
    intro j hj
    have hjs : j < rows.length * k := by simpa [hds] using hj
    have hdk : j / k < rows.length := Nat.div_lt_of_lt_mul (by rwa [Nat.mul_comm] at hjs)
    have hmod : j % k < k := Nat.mod_lt j hk0
    have hdm : j / k * k + j % k = j := by rw [Nat.mul_comm]; exact Nat.div_add_mod j k
    rw [get_flatK _ _ _ _ (by rw [hds]; exact hjs), hdi _ hdk]
    have hlt : j < cur.size := by omega
    refine ⟨?_, ?_⟩
    · simp only [World.cell?, hblk, Nat.zero_add]
      simp only [Option.isSome_none, Bool.false_eq_true, if_false, id_eq]
      have hl2 := (hel _ hdk).2.1
      rw [getElem!_pos _ _ (by rw [show (Elt.enc g.ro w V k (mk ⟨j / k, hdk⟩)) = (cur.toList.drop (j / k * k)).take k from rfl, hl2]; exact hmod)]
      simp only [Elt.enc, mk, List.getElem_take, List.getElem_drop, Array.getElem_toList, hdm]
      exact Array.getElem?_eq_getElem hlt
    · simpa using hR.open (o := j) hlt
  have hswo : SWO (ltOf fun x y : Elt g.ro w V k => cf x.1.1 y.1.1) := by
    refine ⟨fun x => ?_, fun x y z h1 h2 => ?_, fun x y z h1 h2 => ?_⟩
    · simpa [ltOf] using hO.irrefl x.1.1 x.2.1
    · simp only [ltOf, decide_eq_true_eq] at h1 h2 ⊢
      exact hO.trans _ _ _ x.2.1 y.2.1 z.2.1 h1 h2
    · simp only [ltOf, decide_eq_false_iff_not] at h1 h2 ⊢
      exact hO.ntrans _ _ _ x.2.1 y.2.1 z.2.1 h1 h2
  have hmain := AnyQ.slices_SortFunc L k aE zE (Elt.enc g.ro w V k) (fun x => x.2.2.1) (fun x v hv => x.2.2.2.1 v hv) (fun x y => cf x.1.1 y.1.1) hswo cg #[] L0.blk 0 L0.cap d w eg (cmp_lays hc hro) hH hblt (by rw [hds]; exact hsz)
  rw [hds] at hmain
  rw [e0, e1]
  refine hmain.mono ?_
  rintro ex w' ⟨rfl, d', n, os, hperm, hsort, rfl⟩
  obtain ⟨hps, _, hpp⟩ := hperm
  have hex : ∀ a : Array (Elt g.ro w V k), a.size = rows.length → (a.extract 0 rows.length) = a := fun a ha => by rw [← ha]; simp
  rw [hex d' (by rw [hps, hds]), hex d hds] at hpp
  obtain ⟨rows', hrows'⟩ : ∃ rows', d'.toList.map (fun x => x.1.1) = rows' := ⟨_, rfl⟩
  have hp : rows'.Perm rows := by rw [← hrows', ← hdl]; exact hpp.map _
  have hs : rows'.Pairwise fun a b => ¬ cf b a < 0 := by
    rw [← hrows', List.pairwise_map, List.pairwise_iff_getElem]
    intro i j hi hj hij
    have hj' : j < d'.size := by simpa using hj
    have := hsort i j (Nat.zero_le _) hij (by rw [hps, hds] at hj'; exact hj')
    rw [getElem!_pos d' i (by omega), getElem!_pos d' j hj'] at this
    simpa [ltOf] using this
  have hd's : d'.size = rows.length := by rw [hps, hds]
  have hbs : RowAt ((sortWorldK (Elt.enc g.ro w V k) k w L0.blk 0 n d' os).heap[L0.blk]?) e (Go.Sort.putCells id 0 (flatK (Elt.enc g.ro w V k) k d') cur) := ⟨el0, fr0, heap_sort_blk _ _ _ _ _ _ _ hblk, hx1, by simp only [Go.Sort.putCells, Array.size_mapIdx]; exact hx2⟩
  obtain ⟨g', h1, h2, h3, h4, h5, h6⟩ := HRel.write h hL hflat (id' := 0) (.inl rfl) ⟨e, k, dr rows'⟩ (Go.Sort.putCells id 0 (flatK (Elt.enc g.ro w V k) k d') cur) (w' := sortWorldK (Elt.enc g.ro w V k) k w L0.blk 0 n d' os) (cap := L0.cap) (B := L0.blk) rfl ⟨rfl, .inr (drawn_sort _ _ _ _ _ _ _)⟩ rfl (size_sort _ _ _ _ _ _ _)
    (fun b hb hne => heap_sort _ _ _ _ _ _ _ hb hne) (.inl rfl) hbs hkm.symm hok.pos (by simp only [Go.Sort.putCells, Array.size_mapIdx]; exact hcs) (by have := hp.length_eq; simp [dr]; omega) hcap (fun _ => ⟨rfl, rfl⟩) (by
      intro i row hi
      have hil : i < rows'.length := by have := (List.getElem?_eq_some_iff.1 hi).1; simpa [dr] using this
      have hil2 : i < rows.length := by have := hp.length_eq; omega
      have hid : i < d'.size := by omega
      have hri : rows'[i] = (d'[i]'hid).1.1 := by
        have : (d'.toList.map (fun x => x.1.1))[i]'(by simpa using hid) = rows'[i] := by simp only [hrows']
        rw [← this]; simp
      have hrow : row = rows'[i].map AV.d := by
        have : (dr rows')[i]? = some (rows'[i].map AV.d) := by simp [dr, hil]
        rw [this] at hi; exact (Option.some.inj hi).symm
      obtain ⟨x1, x2, x3, x4⟩ := (d'[i]'hid).2
      subst hrow
      rw [hri, hkm]
      have hxl : (d'[i]'hid).1.1.length = k := by have := x4.length; omega
      refine ⟨by simp [hxl], fun j av hj => ?_⟩
      have hjk : j < k := by have := (List.getElem?_eq_some_iff.1 hj).1; simp at this; omega
      have hav : av = .d ((d'[i]'hid).1.1[j]'(by omega)) := by
        rw [List.getElem?_map, List.getElem?_eq_getElem (by omega)] at hj
        exact (Option.some.inj hj).symm
      obtain ⟨v, hv1, hv2⟩ := x4.get j _ (List.getElem?_eq_getElem (by omega))
      have hdiv : (i * k + j) / k = i := (blk_iff k i _ hk0).1 ⟨by omega, by omega⟩
      have hmod : (i * k + j) % k = j := by rw [Nat.mod_eq_sub_div_mul, hdiv]; omega
      have hlt : i * k + j < rows.length * k := by have := Nat.mul_le_mul_right k (show i + 1 ≤ rows.length from hil2); rw [Nat.add_mul, Nat.one_mul] at this; omega
      refine ⟨v, ?_, x3 v (List.mem_of_getElem? hv1), ?_⟩
      · have hlc : i * k + j < cur.size := by omega
        have hc1 : (Go.Sort.putCells id 0 (flatK (Elt.enc g.ro w V k) k d') cur)[i * k + j]? = some ((flatK (Elt.enc g.ro w V k) k d')[i * k + j]!) := by
          simp only [Go.Sort.putCells, Array.getElem?_mapIdx, Array.getElem?_eq_getElem hlc, Option.map_some]
          rw [if_pos ⟨Nat.zero_le _, by rw [size_flatK, hd's]; omega⟩]
          simp
        rw [hc1, get_flatK _ _ _ _ (by rw [hd's]; exact hlt), hdiv, hmod, getElem!_pos d' i hid]
        simp only [Elt.enc]
        obtain ⟨hjl, hjv⟩ := List.getElem?_eq_some_iff.1 hv1
        rw [getElem!_pos _ j hjl, hjv]
      · rw [hav]
        simpa only [RepA] using hv2)
  refine ⟨_, g', [(0, ⟨e, k, dr rows'⟩)], .tup [], rfl, ⟨rows', hp, hs, rfl, rfl⟩, ?_, ?_, h5, ?_⟩
  · have : (upd1 (upd1 (objL [(0, ⟨e, k, dr rows⟩)]) 0 none) 0 (some ⟨e, k, dr rows'⟩)) = objL [(0, ⟨e, k, dr rows'⟩)] := by
      funext x
      simp only [upd1, objL, find]
      by_cases hx : x = 0
      · subst hx; simp
      · have hx' : ¬ (0 = x) := fun h => hx h.symm
        simp [hx, hx']
    rw [← this]; exact h4
  · simp only [RepA, RepAs]
    exact ⟨[], rfl, rfl⟩
  · intro i j hij
    simp only [List.mem_cons, List.not_mem_nil, or_false, Prod.mk.injEq] at hij
    obtain ⟨rfl, rfl⟩ := hij
    rw [h1, hL]
    cases L0; simp_all


theorem PX.toE {P : Program} {f : FuncId} {av : List AV} {hp hp' : List (Nat × Ob)} {pin : List (Nat × Nat)} {r : AV} {Out : List (Nat × Ob) → AV → Prop} (h : PX P f av hp pin hp' r) (hO : Out hp' r) : PXE P f av hp pin Out :=
  ⟨h.1, fun g w vs h1 h2 h3 => (h.2 g w vs h1 h2 h3).mono fun e w' ⟨v, g', he, k1, k2, k3, k4⟩ => ⟨v, g', hp', r, he, hO, k1, k2, k3, k4⟩⟩
theorem sortFunc_allE {P : Program} {ρ : Ren} (L : SlLaysF0.n6 P ρ) {k : Nat} (hk0 : 0 < k) (aE : ∀ w, (isAgg (ρ.t 24)).run P w = .ok true w) (zE : ∀ w, (Go.sizeOf (ρ.t 24)).run P w = .ok k w) (hent : Enters P (ρ.f 6)) {cg : FuncId}
    (eg : ∀ args w, (callFunc cg args).run P w = .ok (.enter cg args) w) {V : List D → Prop} {cf : List D → List D → Int} (hc : CmpOk P cg V cf) (hO : CmpOrd V cf) (e : TypeId) {rows : List (List D)} (hV : ∀ r ∈ rows, V r) (hsz : rows.length < 4611686018427387904) :
    PXE P (ρ.f 6) [.hs 0 0 rows.length, .d (.fn (.func cg) [])] [(0, ⟨e, k, dr rows⟩)] [(0, 0)] (sortOut e k cf rows) := by
  by_cases hn : rows = []
  · subst hn
    exact (sortFunc_px0 L hk0 hent e _).toE ⟨[], List.Perm.refl _, List.Pairwise.nil, rfl, rfl⟩
  · refine sortFunc_pxe L hk0 aE zE hent eg hc hO e hV (List.length_pos_iff.2 hn) hsz _ fun g w v hv => ?_
    simp only [RepA, RepD] at hv
    obtain ⟨vs, rfl, h2⟩ := hv
    simp only [RepDs] at h2
    rw [h2]

end Go.Abs

set_option maxRecDepth 100000
namespace Go.Proofs.YtgicofpllopjmaaGreat
open Go.Abs Go.Shelf Go.RowKit Go.Lib Go.Sort



def cfX : List D → List D → Int
  | [.int _ ax, .int _ ay], [.int _ bx, .int _ by'] => if ax ≠ bx then ax - bx else ay - by'
  | _, _ => 0
def VC (r : List D) : Prop := ∃ c : Cell, r = c.row ∧ onG c = true


def cfY : List D → List D → Int
  | [_, _, .sl ([.int _ ax, .int _ ay] :: _)], [_, _, .sl ([.int _ bx, .int _ by'] :: _)] => if ay ≠ by' then ay - by' else ax - bx
  | _, _ => 0
def VT (r : List D) : Prop := ∃ (t : Track) (c : Cell) (l : List Cell), r = t.row ∧ t.cells = c :: l ∧ onG c = true

end Go.Proofs.YtgicofpllopjmaaGreat

namespace Go.Proofs.YtgicofpllopjmaaGreat
open Go.Abs

def sortRun_ren : Go.Shelf.Ren := ⟨fun | 6 => 107 | 15 => 56 | 14 => 129 | 28 => 86 | 29 => 87 | 20 => 136 | 21 => 137 | 22 => 138 | 23 => 139 | 24 => 140 | 25 => 141 | 26 => 142 | 27 => 143 | 46 => 145 | 47 => 113 | 48 => 114 | 49 => 146 | 50 => 147 | 57 => 148 | n => n, fun | 22 => 48 | 24 => 52 | 25 => 150 | 3 => 3 | 39 => 99 | 0 => 0 | 53 => 129 | 55 => 131 | 4 => 4 | 46 => 122 | 45 => 121 | 50 => 126 | 5 => 5 | 9 => 9 | 66 => 152 | 70 => 156 | 76 => 166 | 77 => 167 | n => n, fun n => n⟩
theorem sortRun_lays : SlLaysF0.n6 Tryz.prog sortRun_ren where
  mixed := by kernel_rfl
  f6 := ⟨Tryz.f107.name, by kernel_rfl, Tryz.func107.trans (congrArg some (by kernel_rfl))⟩
  f14 := ⟨Tryz.f129.name, by kernel_rfl, Tryz.func129.trans (congrArg some (by kernel_rfl))⟩
  f15 := Tryz.func56.trans (congrArg some (by kernel_rfl))
  f20 := ⟨Tryz.f136.name, by kernel_rfl, Tryz.func136.trans (congrArg some (by kernel_rfl))⟩
  f21 := ⟨Tryz.f137.name, by kernel_rfl, Tryz.func137.trans (congrArg some (by kernel_rfl))⟩
  f22 := ⟨Tryz.f138.name, by kernel_rfl, Tryz.func138.trans (congrArg some (by kernel_rfl))⟩
  f23 := ⟨Tryz.f139.name, by kernel_rfl, Tryz.func139.trans (congrArg some (by kernel_rfl))⟩
  f24 := ⟨Tryz.f140.name, by kernel_rfl, Tryz.func140.trans (congrArg some (by kernel_rfl))⟩
  f25 := ⟨Tryz.f141.name, by kernel_rfl, Tryz.func141.trans (congrArg some (by kernel_rfl))⟩
  f26 := ⟨Tryz.f142.name, by kernel_rfl, Tryz.func142.trans (congrArg some (by kernel_rfl))⟩
  f27 := ⟨Tryz.f143.name, by kernel_rfl, Tryz.func143.trans (congrArg some (by kernel_rfl))⟩
  f28 := Tryz.func86.trans (congrArg some (by kernel_rfl))
  f29 := Tryz.func87.trans (congrArg some (by kernel_rfl))
  f46 := ⟨Tryz.f145.name, by kernel_rfl, Tryz.func145.trans (congrArg some (by kernel_rfl))⟩
  f47 := Tryz.func113.trans (congrArg some (by kernel_rfl))
  f48 := Tryz.func114.trans (congrArg some (by kernel_rfl))
  f49 := ⟨Tryz.f146.name, by kernel_rfl, Tryz.func146.trans (congrArg some (by kernel_rfl))⟩
  f50 := ⟨Tryz.f147.name, by kernel_rfl, Tryz.func147.trans (congrArg some (by kernel_rfl))⟩
  f57 := ⟨Tryz.f148.name, by kernel_rfl, Tryz.func148.trans (congrArg some (by kernel_rfl))⟩
  t0 := Tryz.underlying0
  a0 := Tryz.isAgg0
  z0 := Tryz.sizeOf0
  v0 := Tryz.zeroValue0
  t3 := Tryz.underlying3
  a3 := Tryz.isAgg3
  z3 := Tryz.sizeOf3
  v3 := Tryz.zeroValue3
  t4 := Tryz.underlying4
  a4 := Tryz.isAgg4
  z4 := Tryz.sizeOf4
  v4 := Tryz.zeroValue4
  t5 := Tryz.underlying5
  a5 := Tryz.isAgg5
  z5 := Tryz.sizeOf5
  v5 := Tryz.zeroValue5
  t9 := Tryz.underlying9
  a9 := Tryz.isAgg9
  z9 := Tryz.sizeOf9
  v9 := Tryz.zeroValue9
  t22 := Tryz.underlying48
  a22 := Tryz.isAgg48
  z22 := Tryz.sizeOf48
  v22 := Tryz.zeroValue48
  t25 := Tryz.underlying150
  a25 := Tryz.isAgg150
  z25 := Tryz.sizeOf150
  v25 := Tryz.zeroValue150
  t39 := Tryz.underlying99
  a39 := Tryz.isAgg99
  z39 := Tryz.sizeOf99
  v39 := Tryz.zeroValue99
  t45 := Tryz.underlying121
  a45 := Tryz.isAgg121
  z45 := Tryz.sizeOf121
  v45 := Tryz.zeroValue121
  t46 := Tryz.underlying122
  a46 := Tryz.isAgg122
  z46 := Tryz.sizeOf122
  v46 := Tryz.zeroValue122
  t50 := Tryz.underlying126
  a50 := Tryz.isAgg126
  z50 := Tryz.sizeOf126
  v50 := Tryz.zeroValue126
  t53 := Tryz.underlying129
  a53 := Tryz.isAgg129
  z53 := Tryz.sizeOf129
  v53 := Tryz.zeroValue129
  t55 := Tryz.underlying131
  a55 := Tryz.isAgg131
  z55 := Tryz.sizeOf131
  v55 := Tryz.zeroValue131
  t66 := Tryz.underlying152
  a66 := Tryz.isAgg152
  z66 := Tryz.sizeOf152
  v66 := Tryz.zeroValue152
  t70 := Tryz.underlying156
  a70 := Tryz.isAgg156
  z70 := Tryz.sizeOf156
  v70 := Tryz.zeroValue156
  t76 := Tryz.underlying166
  a76 := Tryz.isAgg166
  z76 := Tryz.sizeOf166
  v76 := Tryz.zeroValue166
  t77 := Tryz.underlying167
  a77 := Tryz.isAgg167
  z77 := Tryz.sizeOf167
  v77 := Tryz.zeroValue167
def cfR : List D → List D → Int
  | [.int _ a, .int _ _], [.int _ b, .int _ _] => a - b
  | _, _ => 0
def VR (r : List D) : Prop := ∃ c : Run, r = c.row ∧ -1048576 ≤ c.a ∧ c.a ≤ 1048576
theorem normCmp_ok (a b : Run) (ha : -1048576 ≤ a.a ∧ a.a ≤ 1048576) (hb0 : -1048576 ≤ b.a ∧ b.a ≤ 1048576) : PC Tryz.prog 108 [.agg a.row, .agg b.row] (.p (.int .i64 (a.a - b.a))) := by
  have e := wrap_i64 (n := a.a - b.a) (by omega) (by omega)
  refine pc_of_awp cx (fn := Tryz.f108) (c := _) Tryz.func108 rfl rfl (Nat.le_of_ble_eq_true rfl) ?_
  rw [Tryz.ntmps108]; refine Nav.imp ?_
  refine awp_region cx [] fun K hK => ?_
  simp [push_cast, Run.row]
  repeat (refine And.intro (by clear hK; intros; first | omega | (simp_all; done) | (simp_all <;> omega)) ?_)
  refine hK _ ?_; clear hK K; refine Nav.imp ?_
  refine awp_region cx [] fun K hK => ?_
  simp [push_cast, e, Run.row]
  repeat (refine And.intro (by clear hK; intros; first | omega | (simp_all; done) | (simp_all <;> omega)) ?_)
  refine hK _ ?_; clear hK K; refine Nav.imp ?_
  simp [push_cast]
theorem cfR_ok : CmpOk Tryz.prog 108 VR cfR := by
  refine cmp_of_pc ?_
  rintro _ _ ⟨a, rfl, ha⟩ ⟨b, rfl, hb⟩
  exact normCmp_ok a b ha hb
theorem cfR_ord : CmpOrd VR cfR where
  irrefl := by rintro _ ⟨a, rfl, _⟩; simp [cfR, Run.row]
  trans := by
    rintro _ _ _ ⟨a, rfl, _⟩ ⟨b, rfl, _⟩ ⟨c, rfl, _⟩
    simp only [cfR, Run.row]; omega
  ntrans := by
    rintro _ _ _ ⟨a, rfl, _⟩ ⟨b, rfl, _⟩ ⟨c, rfl, _⟩
    simp only [cfR, Run.row]; omega
def srtOut (l : List Run) : List (Nat × Ob) → AV → Prop := fun hp' r => ∃ l' : List Run, l'.Perm l ∧ (l'.Pairwise fun p q => p.a ≤ q.a) ∧ hp' = [(0, ⟨52, 2, dr (l'.map Run.row)⟩)] ∧ r = .tup []
theorem sortR_pxe (l : List Run) (hf : ∀ r ∈ l, fitsB r = true) (hl : l.length ≤ 1000000) : PXE Tryz.prog 107 [.hs 0 0 l.length, .d (.fn (.func 108) [])] [(0, ⟨52, 2, dr (l.map Run.row)⟩)] [(0, 0)] (srtOut l) := by
  have h := sortFunc_allE (P := Tryz.prog) sortRun_lays (k := 2) (by decide) (fun w => by kernel_rfl) (fun w => by kernel_rfl) ⟨_, Tryz.func107, by kernel_rfl, by kernel_rfl⟩ (cg := 108) (fun args w => by kernel_rfl) cfR_ok cfR_ord 52 (rows := l.map Run.row)
    (fun r hr => by obtain ⟨c, hc, rfl⟩ := List.mem_map.1 hr; have := fitsB_bd (hf c hc); exact ⟨c, rfl, by omega, by omega⟩) (by simp; omega)
  simp only [List.length_map] at h
  refine ⟨h.1, fun g w vs h1 h2 h3 => (h.2 g w vs h1 h2 h3).mono fun e w' ⟨v, g', hp', r, he, ⟨rows', hp, hs, h4, h5⟩, k⟩ => ⟨v, g', hp', r, he, ?_, k⟩⟩
  have key : ∀ rows : List (List D), (∀ x ∈ rows, ∃ c : Run, x = c.row) → ∃ m : List Run, rows = m.map Run.row := fun rows hr => rows_of hr
  obtain ⟨l', rfl⟩ := key rows' fun x hx => by
    have := hp.subset hx
    obtain ⟨c, _, rfl⟩ := List.mem_map.1 this
    exact ⟨c, rfl⟩
  refine ⟨l', ?_, ?_, h4, h5⟩
  · have hinj : ∀ a b : Run, a.row = b.row → a = b := fun a b h => by cases a; cases b; simp only [Run.row, List.cons.injEq, D.int.injEq, true_and, and_true] at h; rw [h.1, h.2]
    have := hp.map (fun x : List D => match x with | [.int _ a, .int _ b] => (⟨a, b⟩ : Run) | _ => ⟨0, 0⟩)
    rw [List.map_map, List.map_map] at this
    have e : ((fun x : List D => match x with | [.int _ a, .int _ b] => (⟨a, b⟩ : Run) | _ => ⟨0, 0⟩) ∘ Run.row) = id := by funext r; rfl
    rw [e, List.map_id, List.map_id] at this
    exact this
  · rw [List.pairwise_map] at hs
    refine hs.imp fun {a b} h => ?_
    simp only [cfR, Run.row] at h
    omega

def fullB (r : Run) : Bool := decide (r.a < r.b)
def normL (l : List Run) : List Run := joinL ((l.filter fullB).mergeSort fun p q => decide (p.a ≤ q.a))
theorem inR_filter (l : List Run) (x : Int) : inR (l.filter fullB) x = inR l x := by
  rw [Bool.eq_iff_iff, inR_iff, inR_iff]
  constructor
  · rintro ⟨r, hr, h⟩; exact ⟨r, (List.mem_filter.1 hr).1, h⟩
  · rintro ⟨r, hr, h1, h2⟩; exact ⟨r, List.mem_filter.2 ⟨hr, by simp [fullB]; omega⟩, h1, h2⟩
theorem inR_perm {l l' : List Run} (h : l'.Perm l) (x : Int) : inR l' x = inR l x := by
  rw [Bool.eq_iff_iff, inR_iff, inR_iff]
  constructor
  · rintro ⟨r, hr, h'⟩; exact ⟨r, h.mem_iff.1 hr, h'⟩
  · rintro ⟨r, hr, h'⟩; exact ⟨r, h.mem_iff.2 hr, h'⟩
theorem join_sorted {l l' : List Run} (hp : l'.Perm (l.filter fullB)) (hs : l'.Pairwise fun p q => p.a ≤ q.a) : Apart (joinL l') ∧ ∀ x, inR (joinL l') x = inR l x := by
  obtain ⟨h1, h2, _⟩ := joinL_facts _ l' rfl (fun r hr => by
    have := (List.mem_filter.1 (hp.mem_iff.1 hr)).2
    simpa [fullB] using this) hs
  exact ⟨h1, fun x => by rw [h2, inR_perm hp, inR_filter]⟩
theorem norm_facts (l : List Run) : Apart (normL l) ∧ ∀ x, inR (normL l) x = inR l x := by
  refine join_sorted (List.mergeSort_perm _ _) ?_
  have := List.pairwise_mergeSort (le := fun p q : Run => decide (p.a ≤ q.a)) (fun a b c h1 h2 => by simp at *; omega) (fun a b => by simp; omega) (l.filter fullB)
  exact this.imp fun {a b} h => by simpa using h
theorem norm_eq {l l' : List Run} (hp : l'.Perm (l.filter fullB)) (hs : l'.Pairwise fun p q => p.a ≤ q.a) : joinL l' = normL l := by
  obtain ⟨h1, h2⟩ := join_sorted hp hs
  obtain ⟨h3, h4⟩ := norm_facts l
  exact apart_uniq h1 h3 fun y => by rw [h2, h4]

set_option maxHeartbeats 2000000 in
theorem norm_ok (l : List Run) (hf : ∀ r ∈ l, fitsB r = true) (hl : l.length ≤ 1000000) : PC Tryz.prog 71 [encRuns l] (.p (.tup [encRuns (normL l), .int .i64 0])) := by
  have hne := fun l' h1 h2 => @norm_eq l l' h1 h2
  generalize normL l = res at *
  refine pc_of_awp cx (fn := Tryz.f71) (c := _) Tryz.func71 rfl rfl (Nat.le_of_ble_eq_true rfl) ?_
  rw [Tryz.ntmps71]; refine Nav.imp ?_
  refine awp_region cx [] fun K hK => ?_
  simp [push_cast]
  repeat (refine And.intro (by clear hK; intros; first | omega | (simp_all; done) | (simp_all <;> omega)) ?_)
  refine hK _ ?_; clear hK K; refine Nav.imp ?_
  refine awp_region cx [] fun K hK => ?_
  simp [push_cast]
  repeat (refine And.intro (by clear hK; intros; first | omega | (simp_all; done) | (simp_all <;> omega)) ?_)
  refine hK _ ?_; clear hK K; refine Nav.imp ?_
  refine awp_region cx [] fun K hK => ?_
  simp [push_cast]
  repeat (refine And.intro (by clear hK; intros; first | omega | (simp_all; done) | (simp_all <;> omega)) ?_)
  refine hK _ ?_; clear hK K; refine Nav.imp ?_
  refine awp_loop (β := Nat × List Run) (fun s => ⟨30, [(3, .d (.int .i64 0)), (4, .hs 0 0 s.2.length), (7, .d (encRuns l)), (8, .d (.int .i64 l.length)), (9, .d (.int .i64 s.1))], [(0, some ⟨52, 2, dr (s.2.map Run.row)⟩)], 1⟩) (fun s => s.1 ≤ l.length ∧ s.2 = (l.take s.1).filter fullB) (fun s => l.length - s.1) (0, []) ?_ ⟨Nat.zero_le _, by simp⟩ ?_
  · refine weak_of [(0, none)] rfl (by simp [upT, up, upL, push_cast]) (by simp [upH, upR, upL, up, push_cast]) (by simp [namesOk, push_cast]) (by simp [olds])
  · rintro ⟨i, Z⟩ ⟨hi, hZ⟩
    simp only at hi hZ
    refine Nav.imp ?_
    refine awp_region cx [] fun K hK => ?_
    simp [push_cast]
    repeat (refine And.intro (by clear hK; intros; first | omega | (simp_all; done) | (simp_all <;> omega)) ?_)
    refine hK _ ?_; clear hK K; refine Nav.imp ?_
    refine awp_cond (b := decide ((i : Int) < l.length)) (by simp [push_cast]) (fun hb => ?_) (fun hb => ?_) <;> (refine Nav.imp ?_)
    · have hlt : i < l.length := by simpa using hb
      obtain ⟨r, hr⟩ := getq hlt
      have e0 := wrap_i64 (n := (i : Int) + 1) (by omega) (by omega)
      have hrf := hf r (List.mem_of_getElem? hr)
      have c1 := fits_ok r
      rw [hrf] at c1
      have hnx : (l.take (i + 1)).filter fullB = Z ++ if fullB r then [r] else [] := by
        rw [take_get hr, List.filter_append, hZ]
        congr 1
        cases hx : fullB r <;> simp [hx]
      have hZl : Z.length ≤ 1000000 := by have := List.length_filter_le fullB (l.take i); rw [← hZ] at this; simp at this; omega
      have hZ16 : (Z.length + 1) * 16 ≤ 140737488355328 := by omega
      obtain ⟨ra, rb⟩ := r
      refine awp_region cx [] fun K hK => ?_
      simp [push_cast, hr, Run.row]
      repeat (refine And.intro (by clear hK; intros; first | omega | (simp_all; done) | (simp_all <;> omega)) ?_)
      refine hK _ ?_; clear hK K; refine Nav.imp ?_
      by_cases hab : ra < rb
      · have hfb : fullB ⟨ra, rb⟩ = true := by simp [fullB, hab]
        rw [hfb, if_pos rfl] at hnx
        have q1 : ¬ rb ≤ ra := by omega
        refine awp_region cx [] fun K hK => ?_
        simp [push_cast, q1, Run.row]
        repeat (refine And.intro (by clear hK; intros; first | omega | (simp_all; done) | (simp_all <;> omega)) ?_)
        refine hK _ ?_; clear hK K; refine Nav.imp ?_
        refine awp_cond (b := false) (by simp [push_cast, q1]) (fun hb => ?_) (fun hb => ?_) <;> (refine Nav.imp ?_)
        · simp at hb
        · refine awp_region cx [(1, .p (.bool true))] fun K hK => ?_
          simp [push_cast, c1, Run.row]
          repeat (refine And.intro (by clear hK; intros; first | omega | (simp_all; done) | (simp_all <;> omega)) ?_)
          refine hK _ ?_; clear hK K; refine Nav.imp ?_
          refine awp_cond (b := false) (by simp [push_cast]) (fun hb => ?_) (fun hb => ?_) <;> (refine Nav.imp ?_)
          · simp at hb
          · refine awp_region cx [] fun K hK => ?_
            simp [push_cast, hZ16, Run.row]
            repeat (refine And.intro (by clear hK; intros; first | omega | (simp_all; done) | (simp_all <;> omega)) ?_)
            refine hK _ ?_; clear hK K; refine Nav.imp ?_
            refine awp_region cx [] fun K hK => ?_
            simp [push_cast, e0]
            repeat (refine And.intro (by clear hK; intros; first | omega | (simp_all; done) | (simp_all <;> omega)) ?_)
            refine hK _ ?_; clear hK K; refine Nav.imp ?_
            refine ⟨(i + 1, Z ++ [⟨ra, rb⟩]), ⟨hlt, hnx.symm⟩, by simp only; omega, ?_⟩
            refine weak_of [(0, some 17)] rfl (by simp [upT, up, upL, push_cast, Run.row]) (by simp [upH, upR, upL, up, push_cast, Run.row]) (by simp [namesOk, push_cast]) (by simp [olds])
      · have hfb : fullB ⟨ra, rb⟩ = false := by simp [fullB]; omega
        rw [hfb, if_neg (by simp), List.append_nil] at hnx
        have q1 : rb ≤ ra := by omega
        refine awp_region cx [] fun K hK => ?_
        simp [push_cast, q1, Run.row]
        repeat (refine And.intro (by clear hK; intros; first | omega | (simp_all; done) | (simp_all <;> omega)) ?_)
        refine hK _ ?_; clear hK K; refine Nav.imp ?_
        refine awp_cond (b := true) (by simp [push_cast, q1]) (fun hb => ?_) (fun hb => ?_) <;> (refine Nav.imp ?_)
        · refine awp_region cx [] fun K hK => ?_
          simp [push_cast, e0]
          repeat (refine And.intro (by clear hK; intros; first | omega | (simp_all; done) | (simp_all <;> omega)) ?_)
          refine hK _ ?_; clear hK K; refine Nav.imp ?_
          refine ⟨(i + 1, Z), ⟨hlt, hnx.symm⟩, by simp only; omega, ?_⟩
          refine weak_of [(0, some 0)] rfl (by simp [upT, up, upL, push_cast]) (by simp [upH, upR, upL, up, push_cast]) (by simp [namesOk, push_cast]) (by simp [olds])
        · simp at hb
    · have hge : i = l.length := by simp at hb; omega
      subst hge
      rw [List.take_length] at hZ
      have hZl : Z.length ≤ 1000000 := by have := List.length_filter_le fullB l; rw [← hZ] at this; omega
      have hZf : ∀ r ∈ Z, fitsB r = true := fun r hr => by rw [hZ] at hr; exact hf r (List.mem_filter.1 hr).1
      have d1 := sortR_pxe Z hZf hZl
      refine awp_regionE cx [] (l := [_, _]) (pre := [_]) (post := []) rfl rfl rfl rfl 0 ⟨[(0, 0)], [.hs 0 0 Z.length, .d (.fn (.func 108) [])], [(0, ⟨52, 2, dr (Z.map Run.row)⟩)], [(0, 0)], none, [], .any⟩ (srtOut Z) [] fun K hK => ?_
      simp [push_cast, freshOk, obE, effY]
      refine ⟨d1, ?_⟩
      rintro hp' r ⟨l', hp, hs, rfl, rfl⟩
      simp [push_cast]
      refine hK _ ?_; clear hK K; refine Nav.imp ?_
      have hpl := hp.length_eq
      have e := hne l' (by rw [← hZ]; exact hp) hs
      have c2 := join_ok l' (by omega)
      rw [e] at c2
      rw [← hpl]
      have ht : List.take l'.length (l'.map Run.row) = l'.map Run.row := List.take_of_length_le (by simp)
      refine awp_freeze 0 (l'.map Run.row) rfl (by simp [push_cast, ht]) fun K hK => ?_
      simp [push_cast, St.fz, fzT, fzH, fzO, fz, fzL, fzR, fzR_dr, fzR_app, fzR_set, fzL_map, ht]
      refine hK _ ?_; clear hK K; refine Nav.imp ?_
      refine awp_region cx [(1, .p (encRuns res))] fun K hK => ?_
      simp [push_cast, c2]
      repeat (refine And.intro (by clear hK; intros; first | omega | (simp_all; done) | (simp_all <;> omega)) ?_)
      refine hK _ ?_; clear hK K; refine Nav.imp ?_
      simp [push_cast]
end Go.Proofs.YtgicofpllopjmaaGreat

namespace Go.Abs
variable [Flag]
open Go.RowKit

def retE (ty : TypeId → Option TI) (rs : List ResultVar) (n : Nat) (pin : List (Nat × Nat)) (Out : List (Nat × Ob) → AV → Prop) (Ls : Nat → Loc) (e : Exit) (s : St) : Prop := ∃ hp' r, Out hp' r ∧ retX ty rs n pin hp' r Ls e s
theorem pxe_of_awp {P : Program} {ty : TypeId → Option TI} (hc : Ctx P ty) {f : FuncId} {fn : Func} {c : Code} {avs : List AV} {hp : List (Nat × Ob)} {pin : List (Nat × Nat)} {Out : List (Nat × Ob) → AV → Prop} (nxt : Nat)
    (hf : P.funcs[f]? = some fn) (hb : fn.body = some c) (hname : (fn.name == "runtime.NumGoroutine") = false) (hn : avs.length ≤ fn.ntmps)
    (hids : (hp.all fun x => Nat.blt x.1 nxt) = true) (hpin : (pin.all fun x => (find hp x.1).isSome) = true)
    (h : ∀ Ls : Nat → Loc, AWp P c (retE ty fn.results.toList fn.ntmps pin Out Ls) (startX fn.ntmps avs pin Ls hp nxt)) : PXE P f avs hp pin Out := by
  refine ⟨⟨fn, hf, hname, by rw [hb]; rfl⟩, fun g w vs hH hu hd => ?_⟩
  have hl := hd.length
  let Ls : Nat → Loc := fun i => (g.loc i).getD ⟨0, 0, 0, false, false⟩
  have hpin' : ∀ i j, (i, j) ∈ pin → g.used i ∧ g.loc i = some (Ls i) := fun i j hij => by
    have := List.all_eq_true.1 hpin (i, j) hij
    obtain ⟨o, ho⟩ := Option.isSome_iff_exists.1 this
    obtain ⟨L, hL, _⟩ := hH.own i o ho
    exact ⟨(hH.live i L hL).1, by simp [Ls, hL]⟩
  have hrel : RelS (startX fn.ntmps avs pin Ls hp nxt) g { tmps := vs.toArray ++ Array.replicate (fn.ntmps - vs.toArray.size) undef, defers := [] } w := by
    refine ⟨rfl, by simp only [Array.size_append, List.size_toArray, Array.size_replicate, startX]; omega, fun t => ?_, fun id hid => ?_, ?_⟩
    · simp only [St.get, startX, find_addAVs]
      by_cases e : 0 ≤ t ∧ t < 0 + avs.length
      · rw [if_pos e]
        obtain ⟨d, hdt⟩ : ∃ d, avs[t]? = some d := ⟨avs[t]'(by omega), List.getElem?_eq_getElem _⟩
        obtain ⟨v, hv, hr⟩ := hd.get t d hdt
        simp only [Nat.sub_zero, hdt, Option.getD_some]
        have hlt : t < vs.length := (List.getElem?_eq_some_iff.1 hv).1
        have : (vs.toArray ++ Array.replicate (fn.ntmps - vs.toArray.size) undef)[t]? = some v := by
          rw [Array.getElem?_append_left (by simpa using hlt)]
          simpa using hv
        simp only [Array.getD_eq_getD_getElem?, this, Option.getD_some]
        exact hr
      · rw [if_neg e]
        cases hf' : find (pinTm fn.ntmps Ls pin) t with
        | none => simp [RepA]
        | some v =>
          obtain ⟨i, j, hij, rfl⟩ := find_pinTm hf'
          simp only [Option.getD_some, RepA]
          obtain ⟨h1, h2⟩ := hpin' i j hij
          exact ⟨h1, fun M hM => by rw [h2] at hM; exact (Option.some.inj hM).symm⟩
    · have h1 := hu id hid
      obtain ⟨o, ho⟩ := Option.isSome_iff_exists.1 h1
      have hk := find_key ho
      obtain ⟨x, hx, rfl⟩ := List.mem_map.1 hk
      exact Nat.le_of_ble_eq_true (List.all_eq_true.1 hids x hx)
    · have : (startX fn.ntmps avs pin Ls hp nxt).obj = objL hp := by
        funext id
        simp only [St.obj, startX, obs_find, objL]
        cases find hp id <;> rfl
      rw [this]
      exact hH
  refine calls_of_wp hf hb (wp_mono (h Ls _ _ w hrel) fun e a' w' ⟨s', g', h1, h2, h3⟩ => ?_)
  have done : ∀ hp' r, Out hp' r → (∃ ρ l, resAs ty s' fn.results.toList = some l ∧ rnsOk ρ [r] [oneOf l] ∧ hpOk s'.obj ρ hp' ∧ nodupB (ρ.map (·.2)) = true ∧ ρ.map (·.1) = hp'.map (·.1) ∧ pinsOk s' ρ fn.ntmps Ls pin) →
      a'.defers = [] ∧ ∃ v, (results fn a'.tmps).run P w' = .ok v w' ∧ ∃ v' g2 hp' r, Ending.returned v = .returned v' ∧ Out hp' r ∧ HRel g2 (objL hp') w' ∧ RepA g2 w' r v' ∧ Step g w g2 w' ∧ ∀ i j, (i, j) ∈ pin → g2.loc j = g.loc i := by
    rintro hp' r hO ⟨ρ, l, hl, hr, hhp, hρ, hdom, hpo⟩
    obtain ⟨v, hv, hrep⟩ := results_run hc h1 hl
    have hsame : ∀ b, (via g' ρ hp').owns b → g'.owns b := fun b ⟨i, L, hL, hvv, hb⟩ => by
      obtain ⟨x, _, q⟩ := via_loc' hL
      exact ⟨x, L, q, hvv, hb⟩
    refine ⟨h1.defers, v, hv, v, via g' ρ hp', hp', r, rfl, hO, via_rel h1.heap hhp (nodup_of hρ) hdom, ?_, ⟨h2.os, h2.tape, h2.output, h2.size, h2.block, fun b hb => h2.own b (hsame b hb), h2.ro, h2.ro'⟩, fun i j hij => ?_⟩
    · have := rnsOk_rep (g := g') (g' := via g' ρ hp') (w := w') (fun i x hi => via_used hdom hi) (fun i x hi => via_loc hi) (fun _ hb => hb) hr (vs := [v]) (by simp only [RepAs]; exact ⟨v, [], rfl, hrep, rfl⟩)
      exact one_arg this
    · obtain ⟨y, q1, q2, q3⟩ := pinsOk_mem hpo i j hij
      have hty := h1.tmp (fn.ntmps + i)
      rw [q2] at hty
      simp only [RepA] at hty
      obtain ⟨o, ho⟩ := Option.isSome_iff_exists.1 q3
      obtain ⟨M, hM, _⟩ := h1.heap.own y o ho
      rw [via_loc q1, hM, hty.2 M hM, (hpin' i j hij).2]
  cases e with
  | normal =>
    obtain ⟨hp', r, hO, hx⟩ := h3
    exact done hp' r hO (retX_spec hx)
  | ret =>
    obtain ⟨hp', r, hO, hx⟩ := h3
    exact done hp' r hO (retX_spec hx)
  | _ =>
    obtain ⟨hp', r, hO, hx⟩ := h3
    exact hx.elim

end Go.Abs

namespace Go.Proofs.YtgicofpllopjmaaGreat
open Go.Abs

structure Up where
  x : Int
  lo : Int
  hi : Int
  s : Int
  deriving DecidableEq
abbrev Up.row (u : Up) : List D := [.int .i64 u.x, .int .i64 u.lo, .int .i64 u.hi, .int .i64 u.s]
def edge (a b : Cell) : List Up := if a.y < b.y then [⟨a.x, a.y, b.y, 1⟩] else if b.y < a.y then [⟨a.x, b.y, a.y, -1⟩] else []
def badE (a b : Cell) : Bool := (decide (min a.x a.y < -4096) || decide (4096 < max a.x a.y)) || ((a.x == b.x) == (a.y == b.y))
def edgeAt (P : List Cell) (k : Nat) : List Up := match P[k]?, P[(k + 1) % P.length]? with
  | some a, some b => edge a b
  | _, _ => []
def badAt (P : List Cell) (k : Nat) : Bool := match P[k]?, P[(k + 1) % P.length]? with
  | some a, some b => badE a b
  | _, _ => false
def upsP (P : List Cell) : List Up := (List.range P.length).flatMap (edgeAt P)
def badP (P : List Cell) : Bool := (List.range P.length).any (badAt P)
def ups (l : List (List Cell)) : List Up := l.flatMap upsP
def badL (l : List (List Cell)) : Bool := l.any badP
theorem edgeAt_some {P : List Cell} {k : Nat} {a b : Cell} (ha : P[k]? = some a) (hb : P[(k + 1) % P.length]? = some b) : edgeAt P k = edge a b := by simp only [edgeAt, ha, hb]
theorem badAt_some {P : List Cell} {k : Nat} {a b : Cell} (ha : P[k]? = some a) (hb : P[(k + 1) % P.length]? = some b) : badAt P k = badE a b := by simp only [badAt, ha, hb]
theorem edge_len (a b : Cell) : (edge a b).length ≤ 1 := by unfold edge; split <;> (try split) <;> simp
theorem edgeAt_len (P : List Cell) (k : Nat) : (edgeAt P k).length ≤ 1 := by unfold edgeAt; split <;> simp [edge_len]
theorem flat_cap1 {α β : Type} (f : α → List β) (h : ∀ a, (f a).length ≤ 1) : ∀ l : List α, (l.flatMap f).length ≤ l.length
  | [] => by simp
  | a :: l => by
    have h1 := h a
    have h2 := flat_cap1 f h l
    rw [List.flatMap_cons, List.length_append, List.length_cons]
    omega
theorem edges_len (P : List Cell) (k : Nat) : ((List.range k).flatMap (edgeAt P)).length ≤ k := by
  have := flat_cap1 (edgeAt P) (fun j => edgeAt_len P j) (List.range k)
  rwa [List.length_range] at this
theorem ups_len : ∀ l : List (List Cell), (ups l).length ≤ (l.map List.length).sum
  | [] => by simp [ups]
  | P :: l => by
    have h1 := ups_len l
    have h2 := edges_len P P.length
    simp only [ups, List.flatMap_cons, List.length_append, List.map_cons, List.sum_cons, upsP] at *
    omega

def cfU : List D → List D → Int
  | .int _ a :: _, .int _ b :: _ => b - a
  | _, _ => 0
def VU (r : List D) : Prop := ∃ u : Up, r = u.row ∧ -4096 ≤ u.x ∧ u.x ≤ 4096
theorem cmpU_pc (a b : Up) (ha : -4096 ≤ a.x ∧ a.x ≤ 4096) (hb0 : -4096 ≤ b.x ∧ b.x ≤ 4096) : PC Tryz.prog 69 [.agg a.row, .agg b.row] (.p (.int .i64 (b.x - a.x))) := by
  have e := wrap_i64 (n := b.x - a.x) (by omega) (by omega)
  refine pc_of_awp cx (fn := Tryz.f69) (c := _) Tryz.func69 rfl rfl (Nat.le_of_ble_eq_true rfl) ?_
  rw [Tryz.ntmps69]; refine Nav.imp ?_
  refine awp_region cx [] fun K hK => ?_
  simp [push_cast]
  repeat (refine And.intro (by clear hK; intros; first | omega | (simp_all; done) | (simp_all <;> omega)) ?_)
  refine hK _ ?_; clear hK K; refine Nav.imp ?_
  refine awp_region cx [] fun K hK => ?_
  simp [push_cast, e]
  repeat (refine And.intro (by clear hK; intros; first | omega | (simp_all; done) | (simp_all <;> omega)) ?_)
  refine hK _ ?_; clear hK K; refine Nav.imp ?_
  simp [push_cast]
theorem cfU_ok : CmpOk Tryz.prog 69 VU cfU := by
  refine cmp_of_pc ?_
  rintro _ _ ⟨a, rfl, ha⟩ ⟨b, rfl, hb⟩
  exact cmpU_pc a b ha hb
theorem cfU_ord : CmpOrd VU cfU where
  irrefl := by rintro _ ⟨a, rfl, _⟩; simp [cfU]
  trans := by
    rintro _ _ _ ⟨a, rfl, _⟩ ⟨b, rfl, _⟩ ⟨c, rfl, _⟩
    simp only [cfU]; omega
  ntrans := by
    rintro _ _ _ ⟨a, rfl, _⟩ ⟨b, rfl, _⟩ ⟨c, rfl, _⟩
    simp only [cfU]; omega
end Go.Proofs.YtgicofpllopjmaaGreat

namespace Go.Proofs.YtgicofpllopjmaaGreat
open Go.Abs

def sortUp_ren : Go.Shelf.Ren := ⟨fun | 6 => 68 | 15 => 56 | 14 => 97 | 28 => 86 | 29 => 87 | 20 => 117 | 21 => 118 | 22 => 119 | 23 => 120 | 24 => 121 | 25 => 122 | 26 => 123 | 27 => 124 | 46 => 132 | 47 => 113 | 48 => 114 | 49 => 133 | 50 => 134 | 57 => 144 | n => n, fun | 22 => 72 | 24 => 77 | 25 => 111 | 3 => 3 | 39 => 99 | 0 => 0 | 53 => 129 | 55 => 131 | 4 => 4 | 46 => 122 | 45 => 121 | 50 => 126 | 5 => 5 | 9 => 9 | 66 => 152 | 70 => 156 | 76 => 166 | 77 => 167 | n => n, fun n => n⟩
theorem sortUp_lays : SlLaysF0.n6 Tryz.prog sortUp_ren where
  mixed := by kernel_rfl
  f6 := ⟨Tryz.f68.name, by kernel_rfl, Tryz.func68.trans (congrArg some (by kernel_rfl))⟩
  f14 := ⟨Tryz.f97.name, by kernel_rfl, Tryz.func97.trans (congrArg some (by kernel_rfl))⟩
  f15 := Tryz.func56.trans (congrArg some (by kernel_rfl))
  f20 := ⟨Tryz.f117.name, by kernel_rfl, Tryz.func117.trans (congrArg some (by kernel_rfl))⟩
  f21 := ⟨Tryz.f118.name, by kernel_rfl, Tryz.func118.trans (congrArg some (by kernel_rfl))⟩
  f22 := ⟨Tryz.f119.name, by kernel_rfl, Tryz.func119.trans (congrArg some (by kernel_rfl))⟩
  f23 := ⟨Tryz.f120.name, by kernel_rfl, Tryz.func120.trans (congrArg some (by kernel_rfl))⟩
  f24 := ⟨Tryz.f121.name, by kernel_rfl, Tryz.func121.trans (congrArg some (by kernel_rfl))⟩
  f25 := ⟨Tryz.f122.name, by kernel_rfl, Tryz.func122.trans (congrArg some (by kernel_rfl))⟩
  f26 := ⟨Tryz.f123.name, by kernel_rfl, Tryz.func123.trans (congrArg some (by kernel_rfl))⟩
  f27 := ⟨Tryz.f124.name, by kernel_rfl, Tryz.func124.trans (congrArg some (by kernel_rfl))⟩
  f28 := Tryz.func86.trans (congrArg some (by kernel_rfl))
  f29 := Tryz.func87.trans (congrArg some (by kernel_rfl))
  f46 := ⟨Tryz.f132.name, by kernel_rfl, Tryz.func132.trans (congrArg some (by kernel_rfl))⟩
  f47 := Tryz.func113.trans (congrArg some (by kernel_rfl))
  f48 := Tryz.func114.trans (congrArg some (by kernel_rfl))
  f49 := ⟨Tryz.f133.name, by kernel_rfl, Tryz.func133.trans (congrArg some (by kernel_rfl))⟩
  f50 := ⟨Tryz.f134.name, by kernel_rfl, Tryz.func134.trans (congrArg some (by kernel_rfl))⟩
  f57 := ⟨Tryz.f144.name, by kernel_rfl, Tryz.func144.trans (congrArg some (by kernel_rfl))⟩
  t0 := Tryz.underlying0
  a0 := Tryz.isAgg0
  z0 := Tryz.sizeOf0
  v0 := Tryz.zeroValue0
  t3 := Tryz.underlying3
  a3 := Tryz.isAgg3
  z3 := Tryz.sizeOf3
  v3 := Tryz.zeroValue3
  t4 := Tryz.underlying4
  a4 := Tryz.isAgg4
  z4 := Tryz.sizeOf4
  v4 := Tryz.zeroValue4
  t5 := Tryz.underlying5
  a5 := Tryz.isAgg5
  z5 := Tryz.sizeOf5
  v5 := Tryz.zeroValue5
  t9 := Tryz.underlying9
  a9 := Tryz.isAgg9
  z9 := Tryz.sizeOf9
  v9 := Tryz.zeroValue9
  t22 := Tryz.underlying72
  a22 := Tryz.isAgg72
  z22 := Tryz.sizeOf72
  v22 := Tryz.zeroValue72
  t25 := Tryz.underlying111
  a25 := Tryz.isAgg111
  z25 := Tryz.sizeOf111
  v25 := Tryz.zeroValue111
  t39 := Tryz.underlying99
  a39 := Tryz.isAgg99
  z39 := Tryz.sizeOf99
  v39 := Tryz.zeroValue99
  t45 := Tryz.underlying121
  a45 := Tryz.isAgg121
  z45 := Tryz.sizeOf121
  v45 := Tryz.zeroValue121
  t46 := Tryz.underlying122
  a46 := Tryz.isAgg122
  z46 := Tryz.sizeOf122
  v46 := Tryz.zeroValue122
  t50 := Tryz.underlying126
  a50 := Tryz.isAgg126
  z50 := Tryz.sizeOf126
  v50 := Tryz.zeroValue126
  t53 := Tryz.underlying129
  a53 := Tryz.isAgg129
  z53 := Tryz.sizeOf129
  v53 := Tryz.zeroValue129
  t55 := Tryz.underlying131
  a55 := Tryz.isAgg131
  z55 := Tryz.sizeOf131
  v55 := Tryz.zeroValue131
  t66 := Tryz.underlying152
  a66 := Tryz.isAgg152
  z66 := Tryz.sizeOf152
  v66 := Tryz.zeroValue152
  t70 := Tryz.underlying156
  a70 := Tryz.isAgg156
  z70 := Tryz.sizeOf156
  v70 := Tryz.zeroValue156
  t76 := Tryz.underlying166
  a76 := Tryz.isAgg166
  z76 := Tryz.sizeOf166
  v76 := Tryz.zeroValue166
  t77 := Tryz.underlying167
  a77 := Tryz.isAgg167
  z77 := Tryz.sizeOf167
  v77 := Tryz.zeroValue167
def srtU (l : List Up) : List (Nat × Ob) → AV → Prop := fun hp' r => ∃ l' : List Up, l'.Perm l ∧ (l'.Pairwise fun p q => q.x ≤ p.x) ∧ hp' = [(0, ⟨77, 4, dr (l'.map Up.row)⟩)] ∧ r = .tup []
theorem rowsU_of {rows : List (List D)} (hr : ∀ x ∈ rows, ∃ c : Up, x = c.row) : ∃ m : List Up, rows = m.map Up.row := by
  induction rows with
  | nil => exact ⟨[], rfl⟩
  | cons a l ih =>
    obtain ⟨c, rfl⟩ := hr a (by simp)
    obtain ⟨m, rfl⟩ := ih fun x hx => hr x (by simp [hx])
    exact ⟨c :: m, rfl⟩
theorem sortU_pxe (l : List Up) (hf : ∀ r ∈ l, -4096 ≤ r.x ∧ r.x ≤ 4096) (hl : l.length ≤ 10000000) : PXE Tryz.prog 68 [.hs 0 0 l.length, .d (.fn (.func 69) [])] [(0, ⟨77, 4, dr (l.map Up.row)⟩)] [(0, 0)] (srtU l) := by
  have h := sortFunc_allE (P := Tryz.prog) sortUp_lays (k := 4) (by decide) (fun w => by kernel_rfl) (fun w => by kernel_rfl) ⟨_, Tryz.func68, by kernel_rfl, by kernel_rfl⟩ (cg := 69) (fun args w => by kernel_rfl) cfU_ok cfU_ord 77 (rows := l.map Up.row)
    (fun r hr => by obtain ⟨c, hc, rfl⟩ := List.mem_map.1 hr; exact ⟨c, rfl, hf c hc⟩) (by simp; omega)
  simp only [List.length_map] at h
  refine ⟨h.1, fun g w vs h1 h2 h3 => (h.2 g w vs h1 h2 h3).mono fun e w' ⟨v, g', hp', r, he, ⟨rows', hp, hs, h4, h5⟩, k⟩ => ⟨v, g', hp', r, he, ?_, k⟩⟩
  obtain ⟨l', rfl⟩ := rowsU_of (rows := rows') fun x hx => by
    have := hp.subset hx
    obtain ⟨c, _, rfl⟩ := List.mem_map.1 this
    exact ⟨c, rfl⟩
  refine ⟨l', ?_, ?_, h4, h5⟩
  · have := hp.map (fun x : List D => match x with | [.int _ a, .int _ b, .int _ c, .int _ d] => (⟨a, b, c, d⟩ : Up) | _ => ⟨0, 0, 0, 0⟩)
    rw [List.map_map, List.map_map] at this
    have e : ((fun x : List D => match x with | [.int _ a, .int _ b, .int _ c, .int _ d] => (⟨a, b, c, d⟩ : Up) | _ => ⟨0, 0, 0, 0⟩) ∘ Up.row) = id := by funext r; rfl
    rw [e, List.map_id, List.map_id] at this
    exact this
  · rw [List.pairwise_map] at hs
    refine hs.imp fun {a b} h => ?_
    simp only [cfU] at h
    omega
def upOut (l : List (List Cell)) : List (Nat × Ob) → AV → Prop := fun hp' r => (badL l = true ∧ hp' = [] ∧ r = .tup [.nl, .d (.bool false)]) ∨ (badL l = false ∧ ∃ U : List Up, U.Perm (ups l) ∧ (U.Pairwise fun p q => q.x ≤ p.x) ∧ hp' = [(0, ⟨77, 4, dr (U.map Up.row)⟩)] ∧ r = .tup [.hs 0 0 U.length, .d (.bool true)])
theorem any_take {α : Type} (f : α → Bool) {l : List α} {i : Nat} {x : α} (h : l[i]? = some x) : (l.take (i + 1)).any f = ((l.take i).any f || f x) := by
  rw [List.take_add_one, h]; simp
theorem any_rg (f : Nat → Bool) (k : Nat) : (List.range (k + 1)).any f = ((List.range k).any f || f k) := by
  rw [List.range_succ]; simp
theorem flat_rg {β : Type} (f : Nat → List β) (k : Nat) : (List.range (k + 1)).flatMap f = (List.range k).flatMap f ++ f k := by
  rw [List.range_succ]; simp
theorem edge_bd {a b : Cell} (h : badE a b = false) : ∀ u ∈ edge a b, -4096 ≤ u.x ∧ u.x ≤ 4096 := by
  unfold badE at h
  simp only [Bool.or_eq_false_iff, decide_eq_false_iff_not] at h
  have h1 := h.1.1
  have h2 := h.1.2
  intro u hu
  unfold edge at hu
  split at hu
  · simp at hu; subst hu; simp only; omega
  · split at hu
    · simp at hu; subst hu; simp only; omega
    · simp at hu
theorem bad_of {l : List (List Cell)} {i : Nat} {P : List Cell} (hP : l[i]? = some P) {k : Nat} (hk : k < P.length) (h : badAt P k = true) : badL l = true := by
  unfold badL
  rw [List.any_eq_true]
  refine ⟨P, List.mem_of_getElem? hP, ?_⟩
  unfold badP
  rw [List.any_eq_true]
  exact ⟨k, List.mem_range.2 hk, h⟩
set_option maxHeartbeats 16000000 in
theorem uprights_pxe (l : List (List Cell)) (hl : l.length ≤ 1000000) (hp : ∀ P ∈ l, P.length ≤ 1000000) (hs : (l.map List.length).sum ≤ 1000000) : PXE Tryz.prog 38 [.d (encPs l)] [] [] (upOut l) := by
  have hpre : ∀ i, i ≤ l.length → (ups (l.take i)).length ≤ 1000000 := fun i _ => by
    have h1 := ups_len (l.take i)
    have h2 : ((l.take i).map List.length).sum ≤ (l.map List.length).sum := by
      have : (l.map List.length).sum = ((l.take i).map List.length).sum + ((l.drop i).map List.length).sum := by
        rw [← List.sum_append, ← List.map_append, List.take_append_drop]
      omega
    omega
  refine pxe_of_awp cx (fn := Tryz.f38) (c := _) 0 Tryz.func38 rfl rfl (Nat.le_of_ble_eq_true rfl) rfl rfl fun Ls => ?_
  rw [Tryz.ntmps38]; refine Nav.imp ?_
  refine awp_region cx [] fun K hK => ?_
  simp [push_cast]
  repeat (refine And.intro (by clear hK; intros; first | omega | (simp_all; done) | (simp_all <;> omega)) ?_)
  refine hK _ ?_; clear hK K; refine Nav.imp ?_
  refine awp_region cx [] fun K hK => ?_
  simp [push_cast]
  repeat (refine And.intro (by clear hK; intros; first | omega | (simp_all; done) | (simp_all <;> omega)) ?_)
  refine hK _ ?_; clear hK K; refine Nav.imp ?_
  refine awp_region cx [] fun K hK => ?_
  simp [push_cast]
  repeat (refine And.intro (by clear hK; intros; first | omega | (simp_all; done) | (simp_all <;> omega)) ?_)
  refine hK _ ?_; clear hK K; refine Nav.imp ?_
  refine awp_loop (β := Nat × List Up) (fun s => ⟨98, [(4, .hs 0 0 s.2.length), (10, .d (encPs l)), (11, .d (.int .i64 l.length)), (12, .d (.int .i64 s.1))], [(0, some ⟨77, 4, dr (s.2.map Up.row)⟩)], 1⟩) (fun s => s.1 ≤ l.length ∧ s.2 = ups (l.take s.1) ∧ (l.take s.1).any badP = false ∧ ∀ u ∈ s.2, -4096 ≤ u.x ∧ u.x ≤ 4096) (fun s => l.length - s.1) (0, []) ?_ ⟨Nat.zero_le _, by simp [ups], by simp, by simp⟩ ?_
  · refine weak_of [(0, none)] rfl (by simp [upT, up, upL, push_cast]) (by simp [upH, upR, upL, up, push_cast]) (by simp [namesOk, push_cast]) (by simp [olds])
  · rintro ⟨i, U⟩ ⟨hi, hU, hbad, hbd⟩
    simp only at hi hU hbad hbd
    refine Nav.imp ?_
    refine awp_region cx [] fun K hK => ?_
    simp [push_cast]
    repeat (refine And.intro (by clear hK; intros; first | omega | (simp_all; done) | (simp_all <;> omega)) ?_)
    refine hK _ ?_; clear hK K; refine Nav.imp ?_
    refine awp_cond (b := decide ((i : Int) < l.length)) (by simp [push_cast]) (fun hb => ?_) (fun hb => ?_) <;> (refine Nav.imp ?_)
    · have hlt : i < l.length := by simpa using hb
      obtain ⟨P, hP⟩ := getq hlt
      have hPl := hp P (List.mem_of_getElem? hP)
      have e0 := wrap_i64 (n := (i : Int) + 1) (by omega) (by omega)
      have hU2 : ups (l.take (i + 1)) = ups (l.take i) ++ upsP P := flat_take upsP hP
      have hb2 := any_take badP hP
      rw [hbad, Bool.false_or] at hb2
      have hlen2 := hpre (i + 1) hlt
      rw [hU2, ← hU] at hlen2
      refine awp_region cx [] fun K hK => ?_
      simp [push_cast, hP]
      repeat (refine And.intro (by clear hK; intros; first | omega | (simp_all; done) | (simp_all <;> omega)) ?_)
      refine hK _ ?_; clear hK K; refine Nav.imp ?_
      refine awp_region cx [] fun K hK => ?_
      simp [push_cast]
      repeat (refine And.intro (by clear hK; intros; first | omega | (simp_all; done) | (simp_all <;> omega)) ?_)
      refine hK _ ?_; clear hK K; refine Nav.imp ?_
      refine awp_loop (β := Nat × List Up) (fun s => ⟨98, [(4, .hs 0 0 s.2.length), (10, .d (encPs l)), (11, .d (.int .i64 l.length)), (12, .d (.int .i64 i)), (6, .ptr 1 0 0), (17, .d (encCells P)), (18, .d (.int .i64 P.length)), (19, .d (.int .i64 s.1))], [(0, some ⟨77, 4, dr (s.2.map Up.row)⟩), (1, some ⟨40, 1, [[.d (encCells P)]]⟩)], 2⟩) (fun s => s.1 ≤ P.length ∧ s.2 = U ++ (List.range s.1).flatMap (edgeAt P) ∧ (List.range s.1).any (badAt P) = false ∧ ∀ u ∈ s.2, -4096 ≤ u.x ∧ u.x ≤ 4096) (fun s => P.length - s.1) (0, U) ?_ ⟨Nat.zero_le _, by simp, by simp, hbd⟩ ?_
      · refine weak_of [(0, some 0), (1, some 4)] rfl (by simp [upT, up, upL, push_cast]) (by simp [upH, upR, upL, up, push_cast]) (by simp [namesOk, push_cast]) (by simp [olds])
      · rintro ⟨k, V⟩ ⟨hk, hV, hkb, hVb⟩
        simp only at hk hV hkb hVb
        refine Nav.imp ?_
        refine awp_region cx [] fun K hK => ?_
        simp [push_cast]
        repeat (refine And.intro (by clear hK; intros; first | omega | (simp_all; done) | (simp_all <;> omega)) ?_)
        refine hK _ ?_; clear hK K; refine Nav.imp ?_
        refine awp_cond (b := decide ((k : Int) < P.length)) (by simp [push_cast]) (fun hb => ?_) (fun hb => ?_) <;> (refine Nav.imp ?_)
        · have hkl : k < P.length := by simpa using hb
          obtain ⟨a, ha⟩ := getq hkl
          obtain ⟨b, hb3⟩ := getq (l := P) (k := (k + 1) % P.length) (Nat.mod_lt _ (by omega))
          have eA := edgeAt_some ha hb3
          have eB := badAt_some ha hb3
          have e1 := wrap_i64 (n := (k : Int) + 1) (by omega) (by omega)
          have e3 : ((k : Int) + 1).tmod (P.length : Int) = (((k + 1) % P.length : Nat) : Int) := (Int.ofNat_tmod _ _).symm
          have e4 : ¬ P = [] := by intro e; rw [e] at hkl; simp at hkl
          have hn1 := any_rg (badAt P) k
          rw [hkb, Bool.false_or, eB] at hn1
          have hn2 := flat_rg (edgeAt P) k
          rw [eA] at hn2
          generalize (k + 1) % P.length = j at *
          refine awp_region cx [] fun K hK => ?_
          simp [push_cast, ha]
          repeat (refine And.intro (by clear hK; intros; first | omega | (simp_all; done) | (simp_all <;> omega)) ?_)
          refine hK _ ?_; clear hK K; refine Nav.imp ?_
          refine awp_region_draw cx mixed [] fun K hK => ?_
          simp [push_cast, hb3, e1, e3, e4]
          repeat (refine And.intro (by clear hK; intros; first | omega | (simp_all; done) | (simp_all <;> omega)) ?_)
          refine hK _ _ (by kernel_rfl) ?_; clear hK K; refine Nav.imp ?_
          have hE : badE a b = ((decide (min a.x a.y < -4096) || decide (4096 < max a.x a.y)) || ((a.x == b.x) == (a.y == b.y))) := rfl
          have hbl : badE a b = true → badL l = true := fun h => bad_of hP hkl (eB.trans h)
          have hUk := hpre i hi
          rw [← hU] at hUk
          have hVl : V.length ≤ 2000000 := by
            rw [hV, List.length_append]
            have := edges_len P k
            omega
          have h32 : (V.length + 1) * 32 ≤ 140737488355328 := by omega
          generalize hq : ((a.x == b.x) == (a.y == b.y)) = q at *
          by_cases g1 : min a.x a.y < -4096
          · have hbt : badE a b = true := by rw [hE]; simp [g1]
            refine awp_region cx [(11, .skip)] fun K hK => ?_
            simp [push_cast, g1]
            repeat (refine And.intro (by clear hK; intros; first | omega | (simp_all; done) | (simp_all <;> omega)) ?_)
            refine hK _ ?_; clear hK K; refine Nav.imp ?_
            refine awp_cond (b := true) (by simp [push_cast, g1]) (fun hb => ?_) (fun hb => ?_) <;> (refine Nav.imp ?_)
            · refine awp_region cx [] fun K hK => ?_
              simp [push_cast]
              repeat (refine And.intro (by clear hK; intros; first | omega | (simp_all; done) | (simp_all <;> omega)) ?_)
              refine hK _ ?_; clear hK K; refine Nav.imp ?_
              refine ⟨_, _, .inl ⟨hbl hbt, rfl, rfl⟩, ?_⟩
              first | refine rx_r [] ?_ | refine rx_n [] ?_
              simp [push_cast]
              try decide
            · simp at hb
          · by_cases g2 : 4096 < max a.x a.y
            · have hbt : badE a b = true := by rw [hE]; simp [g2]
              refine awp_region cx [] fun K hK => ?_
              simp [push_cast, g1, g2]
              repeat (refine And.intro (by clear hK; intros; first | omega | (simp_all; done) | (simp_all <;> omega)) ?_)
              refine hK _ ?_; clear hK K; refine Nav.imp ?_
              refine awp_cond (b := true) (by simp [push_cast, g1, g2]) (fun hb => ?_) (fun hb => ?_) <;> (refine Nav.imp ?_)
              · refine awp_region cx [] fun K hK => ?_
                simp [push_cast]
                repeat (refine And.intro (by clear hK; intros; first | omega | (simp_all; done) | (simp_all <;> omega)) ?_)
                refine hK _ ?_; clear hK K; refine Nav.imp ?_
                refine ⟨_, _, .inl ⟨hbl hbt, rfl, rfl⟩, ?_⟩
                first | refine rx_r [] ?_ | refine rx_n [] ?_
                simp [push_cast]
                try decide
              · simp at hb
            · rw [decide_eq_false g1, decide_eq_false g2, Bool.or_false, Bool.false_or] at hE
              refine awp_region cx [] fun K hK => ?_
              simp [push_cast, g1, g2, hq]
              repeat (refine And.intro (by clear hK; intros; first | omega | (simp_all; done) | (simp_all <;> omega)) ?_)
              refine hK _ ?_; clear hK K; refine Nav.imp ?_
              refine awp_cond (b := q) (by simp [push_cast, g1, g2]) (fun hb => ?_) (fun hb => ?_) <;> (refine Nav.imp ?_)
              · rw [hb] at hE
                refine awp_region cx [] fun K hK => ?_
                simp [push_cast]
                repeat (refine And.intro (by clear hK; intros; first | omega | (simp_all; done) | (simp_all <;> omega)) ?_)
                refine hK _ ?_; clear hK K; refine Nav.imp ?_
                refine ⟨_, _, .inl ⟨hbl hE, rfl, rfl⟩, ?_⟩
                first | refine rx_r [] ?_ | refine rx_n [] ?_
                simp [push_cast]
                try decide
              · rw [hb] at hE
                rw [hE] at hn1
                have hbd := edge_bd hE
                have hV2 : V ++ edge a b = U ++ (List.range (k + 1)).flatMap (edgeAt P) := by rw [hn2, hV, List.append_assoc]
                have hVb2 : ∀ u ∈ V ++ edge a b, -4096 ≤ u.x ∧ u.x ≤ 4096 := fun u hu => by
                  rcases List.mem_append.1 hu with h | h
                  · exact hVb u h
                  · exact hbd u h
                by_cases g3 : a.y < b.y
                · have hed : edge a b = [⟨a.x, a.y, b.y, 1⟩] := by unfold edge; rw [if_pos g3]
                  rw [hed] at hV2 hVb2
                  refine awp_region cx [] fun K hK => ?_
                  simp [push_cast]
                  repeat (refine And.intro (by clear hK; intros; first | omega | (simp_all; done) | (simp_all <;> omega)) ?_)
                  refine hK _ ?_; clear hK K; refine Nav.imp ?_
                  refine awp_cond (b := true) (by simp [push_cast, g3]) (fun hb => ?_) (fun hb => ?_) <;> (refine Nav.imp ?_)
                  · refine awp_region cx [] fun K hK => ?_
                    simp [push_cast, h32]
                    repeat (refine And.intro (by clear hK; intros; first | omega | (simp_all; done) | (simp_all <;> omega)) ?_)
                    refine hK _ ?_; clear hK K; refine Nav.imp ?_
                    refine awp_region cx [] fun K hK => ?_
                    simp [push_cast, e1]
                    repeat (refine And.intro (by clear hK; intros; first | omega | (simp_all; done) | (simp_all <;> omega)) ?_)
                    refine hK _ ?_; clear hK K; refine Nav.imp ?_
                    refine ⟨(k + 1, V ++ [⟨a.x, a.y, b.y, 1⟩]), ⟨hkl, hV2, hn1, hVb2⟩, by simp only; omega, ?_⟩
                    refine weak_of [(0, some 63), (1, some 1)] rfl (by simp [upT, up, upL, push_cast]) (by simp [upH, upR, upL, up, push_cast]) (by simp [namesOk, push_cast]) (by simp [olds])
                  · simp at hb
                · by_cases g4 : b.y < a.y
                  · have hed : edge a b = [⟨a.x, b.y, a.y, -1⟩] := by unfold edge; rw [if_neg g3, if_pos g4]
                    rw [hed] at hV2 hVb2
                    refine awp_region cx [] fun K hK => ?_
                    simp [push_cast]
                    repeat (refine And.intro (by clear hK; intros; first | omega | (simp_all; done) | (simp_all <;> omega)) ?_)
                    refine hK _ ?_; clear hK K; refine Nav.imp ?_
                    refine awp_cond (b := false) (by simp [push_cast, g3]) (fun hb => ?_) (fun hb => ?_) <;> (refine Nav.imp ?_)
                    · simp at hb
                    · refine awp_region cx [] fun K hK => ?_
                      simp [push_cast]
                      repeat (refine And.intro (by clear hK; intros; first | omega | (simp_all; done) | (simp_all <;> omega)) ?_)
                      refine hK _ ?_; clear hK K; refine Nav.imp ?_
                      refine awp_cond (b := true) (by simp [push_cast, g4]) (fun hb => ?_) (fun hb => ?_) <;> (refine Nav.imp ?_)
                      · refine awp_region cx [] fun K hK => ?_
                        simp [push_cast, h32]
                        repeat (refine And.intro (by clear hK; intros; first | omega | (simp_all; done) | (simp_all <;> omega)) ?_)
                        refine hK _ ?_; clear hK K; refine Nav.imp ?_
                        refine awp_region cx [] fun K hK => ?_
                        simp [push_cast, e1]
                        repeat (refine And.intro (by clear hK; intros; first | omega | (simp_all; done) | (simp_all <;> omega)) ?_)
                        refine hK _ ?_; clear hK K; refine Nav.imp ?_
                        refine ⟨(k + 1, V ++ [⟨a.x, b.y, a.y, -1⟩]), ⟨hkl, hV2, hn1, hVb2⟩, by simp only; omega, ?_⟩
                        refine weak_of [(0, some 69), (1, some 1)] rfl (by simp [upT, up, upL, push_cast]) (by simp [upH, upR, upL, up, push_cast]) (by simp [namesOk, push_cast]) (by simp [olds])
                      · simp at hb
                  · have hed : edge a b = [] := by unfold edge; rw [if_neg g3, if_neg g4]
                    rw [hed, List.append_nil] at hV2 hVb2
                    refine awp_region cx [] fun K hK => ?_
                    simp [push_cast]
                    repeat (refine And.intro (by clear hK; intros; first | omega | (simp_all; done) | (simp_all <;> omega)) ?_)
                    refine hK _ ?_; clear hK K; refine Nav.imp ?_
                    refine awp_cond (b := false) (by simp [push_cast, g3]) (fun hb => ?_) (fun hb => ?_) <;> (refine Nav.imp ?_)
                    · simp at hb
                    · refine awp_region cx [] fun K hK => ?_
                      simp [push_cast]
                      repeat (refine And.intro (by clear hK; intros; first | omega | (simp_all; done) | (simp_all <;> omega)) ?_)
                      refine hK _ ?_; clear hK K; refine Nav.imp ?_
                      refine awp_cond (b := false) (by simp [push_cast, g4]) (fun hb => ?_) (fun hb => ?_) <;> (refine Nav.imp ?_)
                      · simp at hb
                      · refine awp_region cx [] fun K hK => ?_
                        simp [push_cast, e1]
                        repeat (refine And.intro (by clear hK; intros; first | omega | (simp_all; done) | (simp_all <;> omega)) ?_)
                        refine hK _ ?_; clear hK K; refine Nav.imp ?_
                        refine ⟨(k + 1, V), ⟨hkl, hV2, hn1, hVb2⟩, by simp only; omega, ?_⟩
                        refine weak_of [(0, some 0), (1, some 1)] rfl (by simp [upT, up, upL, push_cast]) (by simp [upH, upR, upL, up, push_cast]) (by simp [namesOk, push_cast]) (by simp [olds])
        · have hke : k = P.length := by simp at hb; omega
          subst hke
          have hV2 : V = U ++ upsP P := hV
          have hbp : badP P = false := hkb
          rw [hbp] at hb2
          refine awp_region cx [] fun K hK => ?_
          simp [push_cast, e0]
          repeat (refine And.intro (by clear hK; intros; first | omega | (simp_all; done) | (simp_all <;> omega)) ?_)
          refine hK _ ?_; clear hK K; refine Nav.imp ?_
          refine ⟨(i + 1, V), ⟨hlt, by rw [hU2, hV2, hU], hb2, hVb⟩, by simp only; omega, ?_⟩
          refine weak_of [(0, some 0)] rfl (by simp [upT, up, upL, push_cast]) (by simp [upH, upR, upL, up, push_cast]) (by simp [namesOk, push_cast]) (by simp [olds])
    · have hie : i = l.length := by simp at hb; omega
      subst hie
      rw [List.take_length] at hU hbad
      have hUl := hpre l.length (Nat.le_refl _)
      rw [List.take_length, ← hU] at hUl
      have d1 := sortU_pxe U hbd (by omega)
      refine awp_regionE cx [] (l := [_, _]) (pre := [_]) (post := []) rfl rfl rfl rfl 0 ⟨[(0, 0)], [.hs 0 0 U.length, .d (.fn (.func 69) [])], [(0, ⟨77, 4, dr (U.map Up.row)⟩)], [(0, 0)], none, [], .any⟩ (srtU U) [] fun K hK => ?_
      simp [push_cast, freshOk, obE, effY]
      refine ⟨d1, ?_⟩
      rintro hp' r ⟨U', hp, hs, rfl, rfl⟩
      simp [push_cast]
      refine hK _ ?_; clear hK K; refine Nav.imp ?_
      have hpl := hp.length_eq
      refine awp_region cx [] fun K hK => ?_
      simp [push_cast]
      repeat (refine And.intro (by clear hK; intros; first | omega | (simp_all; done) | (simp_all <;> omega)) ?_)
      refine hK _ ?_; clear hK K; refine Nav.imp ?_
      refine ⟨_, _, .inr ⟨hbad, U', by rw [← hU]; exact hp, hs, rfl, rfl⟩, ?_⟩
      first | refine rx_r [(0, 0)] ?_ | refine rx_n [(0, 0)] ?_
      simp [push_cast, hpl]
      try decide
end Go.Proofs.YtgicofpllopjmaaGreat

namespace Go.Proofs.YtgicofpllopjmaaGreat
open Go.Abs

def bandStep (y : Int) (t : List Run × Int × Int) (u : Up) : List Run × Int × Int :=
  if decide (y < u.lo) || decide (u.hi ≤ y) then t else (if decide (0 < t.2.1) && decide (u.x < t.2.2) then t.1 ++ [⟨u.x, t.2.2⟩] else t.1, t.2.1 + u.s, u.x)
def bandF (U : List Up) (y : Int) : List Run × Int × Int := U.foldl (bandStep y) ([], 0, 4096)
def bandL (U : List Up) (y : Int) : List Run := normL (bandF U y).1
def okU (u : Up) : Prop := (-4096 ≤ u.x ∧ u.x ≤ 4096) ∧ -1 ≤ u.s ∧ u.s ≤ 1
theorem bandF_take {U : List Up} {i : Nat} {u : Up} (h : U[i]? = some u) (y : Int) : bandF (U.take (i + 1)) y = bandStep y (bandF (U.take i) y) u := by
  unfold bandF
  rw [List.take_add_one, h, List.foldl_append]; rfl
theorem bandF_ok (U : List Up) (y : Int) (hU : ∀ u ∈ U, okU u) : ∀ i, i ≤ U.length → (bandF (U.take i) y).1.length ≤ i ∧ (∀ r ∈ (bandF (U.take i) y).1, -4096 ≤ r.a ∧ r.a < r.b ∧ r.b ≤ 4096) ∧ (-(i : Int) ≤ (bandF (U.take i) y).2.1 ∧ (bandF (U.take i) y).2.1 ≤ i) ∧ -4096 ≤ (bandF (U.take i) y).2.2 ∧ (bandF (U.take i) y).2.2 ≤ 4096
  | 0, _ => by simp [bandF]
  | i + 1, hi => by
    obtain ⟨h1, h2, h3, h4⟩ := bandF_ok U y hU i (by omega)
    obtain ⟨u, hu⟩ := getq (l := U) (k := i) (by omega)
    obtain ⟨o1, o2⟩ := hU u (List.mem_of_getElem? hu)
    rw [bandF_take hu]
    generalize bandF (U.take i) y = t at *
    obtain ⟨out, w, r⟩ := t
    simp only at *
    unfold bandStep
    by_cases c1 : (decide (y < u.lo) || decide (u.hi ≤ y)) = true
    · rw [if_pos c1]
      exact ⟨by show out.length ≤ i + 1; omega, h2, by show -((i + 1 : Nat) : Int) ≤ w ∧ w ≤ ((i + 1 : Nat) : Int); omega, h4⟩
    · rw [if_neg c1]
      refine ⟨?_, ?_, by show -((i + 1 : Nat) : Int) ≤ w + u.s ∧ w + u.s ≤ ((i + 1 : Nat) : Int); omega, o1⟩
      · show (if (decide (0 < w) && decide (u.x < r)) = true then out ++ [⟨u.x, r⟩] else out).length ≤ i + 1
        by_cases c2 : (decide (0 < w) && decide (u.x < r)) = true
        · rw [if_pos c2, List.length_append, List.length_singleton]; omega
        · rw [if_neg c2]; omega
      · show ∀ q ∈ (if (decide (0 < w) && decide (u.x < r)) = true then out ++ [⟨u.x, r⟩] else out), -4096 ≤ q.a ∧ q.a < q.b ∧ q.b ≤ 4096
        by_cases c2 : (decide (0 < w) && decide (u.x < r)) = true
        · rw [if_pos c2]
          simp only [Bool.and_eq_true, decide_eq_true_eq] at c2
          intro q hq
          rcases List.mem_append.1 hq with hq | hq
          · exact h2 q hq
          · have hq := List.mem_singleton.1 hq
            rw [hq]
            exact ⟨o1.1, c2.2, h4.2⟩
        · rw [if_neg c2]; exact h2
set_option maxHeartbeats 8000000 in
theorem band_ok (U : List Up) (y : Int) (hl : U.length ≤ 1000000) (hU : ∀ u ∈ U, okU u) : PC Tryz.prog 41 [.sl (U.map Up.row), .int .i64 y] (.p (encRuns (bandL U y))) := by
  have hF := bandF_ok U y hU
  have hres : bandL U y = normL (bandF (U.take U.length) y).1 := by rw [List.take_length]; rfl
  generalize bandL U y = res at *
  refine pc_of_awp cx (fn := Tryz.f41) (c := _) Tryz.func41 rfl rfl (Nat.le_of_ble_eq_true rfl) ?_
  rw [Tryz.ntmps41]; refine Nav.imp ?_
  refine awp_region cx [] fun K hK => ?_
  simp [push_cast]
  repeat (refine And.intro (by clear hK; intros; first | omega | (simp_all; done) | (simp_all <;> omega)) ?_)
  refine hK _ ?_; clear hK K; refine Nav.imp ?_
  refine awp_region cx [] fun K hK => ?_
  simp [push_cast]
  repeat (refine And.intro (by clear hK; intros; first | omega | (simp_all; done) | (simp_all <;> omega)) ?_)
  refine hK _ ?_; clear hK K; refine Nav.imp ?_
  refine awp_region cx [] fun K hK => ?_
  simp [push_cast]
  repeat (refine And.intro (by clear hK; intros; first | omega | (simp_all; done) | (simp_all <;> omega)) ?_)
  refine hK _ ?_; clear hK K; refine Nav.imp ?_
  refine awp_region cx [] fun K hK => ?_
  simp [push_cast]
  repeat (refine And.intro (by clear hK; intros; first | omega | (simp_all; done) | (simp_all <;> omega)) ?_)
  refine hK _ ?_; clear hK K; refine Nav.imp ?_
  refine awp_loop (β := Nat) (fun i => ⟨54, [(1, .d (.int .i64 y)), (5, .hs 0 0 (bandF (U.take i) y).1.length), (6, .d (.int .i64 (bandF (U.take i) y).2.1)), (7, .d (.int .i64 (bandF (U.take i) y).2.2)), (10, .d (.sl (U.map Up.row))), (11, .d (.int .i64 U.length)), (12, .d (.int .i64 i))], [(0, some ⟨52, 2, dr ((bandF (U.take i) y).1.map Run.row)⟩)], 1⟩) (fun i => i ≤ U.length) (fun i => U.length - i) 0 ?_ (Nat.zero_le _) ?_
  · refine weak_of [(0, none)] rfl (by simp [upT, up, upL, push_cast, bandF]) (by simp [upH, upR, upL, up, push_cast, bandF]) (by simp [namesOk, push_cast]) (by simp [olds])
  · intro i hi
    obtain ⟨f1, f2, f3, f4⟩ := hF i hi
    refine Nav.imp ?_
    refine awp_region cx [] fun K hK => ?_
    simp [push_cast]
    repeat (refine And.intro (by clear hK; intros; first | omega | (simp_all; done) | (simp_all <;> omega)) ?_)
    refine hK _ ?_; clear hK K; refine Nav.imp ?_
    refine awp_cond (b := decide ((i : Int) < U.length)) (by simp [push_cast]) (fun hb => ?_) (fun hb => ?_) <;> (refine Nav.imp ?_)
    · have hlt : i < U.length := by simpa using hb
      obtain ⟨u, hu⟩ := getq hlt
      obtain ⟨o1, o2⟩ := hU u (List.mem_of_getElem? hu)
      have hnx := bandF_take hu y
      have e0 := wrap_i64 (n := (i : Int) + 1) (by omega) (by omega)
      generalize hB : bandF (U.take (i + 1)) y = B at hnx
      generalize bandF (U.take i) y = t at *
      obtain ⟨out, w, r⟩ := t
      simp only at *
      have h16 : (out.length + 1) * 16 ≤ 140737488355328 := by omega
      have e1 := wrap_i64 (n := w + u.s) (by omega) (by omega)
      unfold bandStep at hnx
      refine awp_region cx [] fun K hK => ?_
      simp [push_cast, hu]
      repeat (refine And.intro (by clear hK; intros; first | omega | (simp_all; done) | (simp_all <;> omega)) ?_)
      refine hK _ ?_; clear hK K; refine Nav.imp ?_
      by_cases g1 : y < u.lo
      · simp [g1] at hnx
        refine awp_region cx [] fun K hK => ?_
        simp [push_cast, g1]
        repeat (refine And.intro (by clear hK; intros; first | omega | (simp_all; done) | (simp_all <;> omega)) ?_)
        refine hK _ ?_; clear hK K; refine Nav.imp ?_
        refine awp_cond (b := true) (by simp [push_cast, g1]) (fun hb => ?_) (fun hb => ?_) <;> (refine Nav.imp ?_)
        · refine awp_region cx [] fun K hK => ?_
          simp [push_cast, e0]
          repeat (refine And.intro (by clear hK; intros; first | omega | (simp_all; done) | (simp_all <;> omega)) ?_)
          refine hK _ ?_; clear hK K; refine Nav.imp ?_
          refine ⟨i + 1, hlt, by omega, ?_⟩
          refine weak_of [(0, some 0)] rfl (by simp [upT, up, upL, push_cast, hB, hnx]) (by simp [upH, upR, upL, up, push_cast, hB, hnx]) (by simp [namesOk, push_cast]) (by simp [olds])
        · simp at hb
      · by_cases g2 : u.hi ≤ y
        · simp [g2] at hnx
          refine awp_region cx [] fun K hK => ?_
          simp [push_cast, g1, g2]
          repeat (refine And.intro (by clear hK; intros; first | omega | (simp_all; done) | (simp_all <;> omega)) ?_)
          refine hK _ ?_; clear hK K; refine Nav.imp ?_
          refine awp_cond (b := true) (by simp [push_cast, g1, g2]) (fun hb => ?_) (fun hb => ?_) <;> (refine Nav.imp ?_)
          · refine awp_region cx [] fun K hK => ?_
            simp [push_cast, e0]
            repeat (refine And.intro (by clear hK; intros; first | omega | (simp_all; done) | (simp_all <;> omega)) ?_)
            refine hK _ ?_; clear hK K; refine Nav.imp ?_
            refine ⟨i + 1, hlt, by omega, ?_⟩
            refine weak_of [(0, some 0)] rfl (by simp [upT, up, upL, push_cast, hB, hnx]) (by simp [upH, upR, upL, up, push_cast, hB, hnx]) (by simp [namesOk, push_cast]) (by simp [olds])
          · simp at hb
        · rw [decide_eq_false g1, decide_eq_false g2] at hnx
          simp only [Bool.or_self, Bool.false_eq_true, if_false] at hnx
          refine awp_region cx [] fun K hK => ?_
          simp [push_cast, g1, g2]
          repeat (refine And.intro (by clear hK; intros; first | omega | (simp_all; done) | (simp_all <;> omega)) ?_)
          refine hK _ ?_; clear hK K; refine Nav.imp ?_
          refine awp_cond (b := false) (by simp [push_cast, g1, g2]) (fun hb => ?_) (fun hb => ?_) <;> (refine Nav.imp ?_)
          · simp at hb
          · by_cases g3 : 0 < w
            · by_cases g4 : u.x < r
              · simp [g3, g4] at hnx
                refine awp_region cx [] fun K hK => ?_
                simp [push_cast, g3, g4]
                repeat (refine And.intro (by clear hK; intros; first | omega | (simp_all; done) | (simp_all <;> omega)) ?_)
                refine hK _ ?_; clear hK K; refine Nav.imp ?_
                refine awp_cond (b := true) (by simp [push_cast, g3, g4]) (fun hb => ?_) (fun hb => ?_) <;> (refine Nav.imp ?_)
                · refine awp_region cx [] fun K hK => ?_
                  simp [push_cast, h16]
                  repeat (refine And.intro (by clear hK; intros; first | omega | (simp_all; done) | (simp_all <;> omega)) ?_)
                  refine hK _ ?_; clear hK K; refine Nav.imp ?_
                  refine awp_region cx [] fun K hK => ?_
                  simp [push_cast, e1]
                  repeat (refine And.intro (by clear hK; intros; first | omega | (simp_all; done) | (simp_all <;> omega)) ?_)
                  refine hK _ ?_; clear hK K; refine Nav.imp ?_
                  refine awp_region cx [] fun K hK => ?_
                  simp [push_cast]
                  repeat (refine And.intro (by clear hK; intros; first | omega | (simp_all; done) | (simp_all <;> omega)) ?_)
                  refine hK _ ?_; clear hK K; refine Nav.imp ?_
                  refine awp_region cx [] fun K hK => ?_
                  simp [push_cast, e0]
                  repeat (refine And.intro (by clear hK; intros; first | omega | (simp_all; done) | (simp_all <;> omega)) ?_)
                  refine hK _ ?_; clear hK K; refine Nav.imp ?_
                  refine ⟨i + 1, hlt, by omega, ?_⟩
                  refine weak_of [(0, some 30)] rfl (by simp [upT, up, upL, push_cast, hB, hnx]) (by simp [upH, upR, upL, up, push_cast, hB, hnx]) (by simp [namesOk, push_cast]) (by simp [olds])
                · simp at hb
              · simp [g3, g4] at hnx
                refine awp_region cx [] fun K hK => ?_
                simp [push_cast, g3, g4]
                repeat (refine And.intro (by clear hK; intros; first | omega | (simp_all; done) | (simp_all <;> omega)) ?_)
                refine hK _ ?_; clear hK K; refine Nav.imp ?_
                refine awp_cond (b := false) (by simp [push_cast, g3, g4]) (fun hb => ?_) (fun hb => ?_) <;> (refine Nav.imp ?_)
                · simp at hb
                · refine awp_region cx [] fun K hK => ?_
                  simp [push_cast, e1]
                  repeat (refine And.intro (by clear hK; intros; first | omega | (simp_all; done) | (simp_all <;> omega)) ?_)
                  refine hK _ ?_; clear hK K; refine Nav.imp ?_
                  refine awp_region cx [] fun K hK => ?_
                  simp [push_cast]
                  repeat (refine And.intro (by clear hK; intros; first | omega | (simp_all; done) | (simp_all <;> omega)) ?_)
                  refine hK _ ?_; clear hK K; refine Nav.imp ?_
                  refine awp_region cx [] fun K hK => ?_
                  simp [push_cast, e0]
                  repeat (refine And.intro (by clear hK; intros; first | omega | (simp_all; done) | (simp_all <;> omega)) ?_)
                  refine hK _ ?_; clear hK K; refine Nav.imp ?_
                  refine ⟨i + 1, hlt, by omega, ?_⟩
                  refine weak_of [(0, some 0)] rfl (by simp [upT, up, upL, push_cast, hB, hnx]) (by simp [upH, upR, upL, up, push_cast, hB, hnx]) (by simp [namesOk, push_cast]) (by simp [olds])
            · simp [g3] at hnx
              refine awp_region cx [] fun K hK => ?_
              simp [push_cast, g3]
              repeat (refine And.intro (by clear hK; intros; first | omega | (simp_all; done) | (simp_all <;> omega)) ?_)
              refine hK _ ?_; clear hK K; refine Nav.imp ?_
              refine awp_cond (b := false) (by simp [push_cast, g3]) (fun hb => ?_) (fun hb => ?_) <;> (refine Nav.imp ?_)
              · simp at hb
              · refine awp_region cx [] fun K hK => ?_
                simp [push_cast, e1]
                repeat (refine And.intro (by clear hK; intros; first | omega | (simp_all; done) | (simp_all <;> omega)) ?_)
                refine hK _ ?_; clear hK K; refine Nav.imp ?_
                refine awp_region cx [] fun K hK => ?_
                simp [push_cast]
                repeat (refine And.intro (by clear hK; intros; first | omega | (simp_all; done) | (simp_all <;> omega)) ?_)
                refine hK _ ?_; clear hK K; refine Nav.imp ?_
                refine awp_region cx [] fun K hK => ?_
                simp [push_cast, e0]
                repeat (refine And.intro (by clear hK; intros; first | omega | (simp_all; done) | (simp_all <;> omega)) ?_)
                refine hK _ ?_; clear hK K; refine Nav.imp ?_
                refine ⟨i + 1, hlt, by omega, ?_⟩
                refine weak_of [(0, some 0)] rfl (by simp [upT, up, upL, push_cast, hB, hnx]) (by simp [upH, upR, upL, up, push_cast, hB, hnx]) (by simp [namesOk, push_cast]) (by simp [olds])
    · have hie : i = U.length := by simp at hb; omega
      subst hie
      generalize bandF (U.take U.length) y = t at *
      obtain ⟨out, w, r⟩ := t
      simp only at *
      have c1 := norm_ok out (fun q hq => by have := f2 q hq; simp [fitsB]; omega) (by omega)
      rw [← hres] at c1
      refine awp_freeze 0 (out.map Run.row) rfl (by simp [push_cast]) fun K hK => ?_
      simp [push_cast, St.fz, fzT, fzH, fzO, fz, fzL, fzR, fzR_dr, fzR_app, fzR_set, fzL_map]
      refine hK _ ?_; clear hK K; refine Nav.imp ?_
      refine awp_region cx [(1, .p (.tup [encRuns res, .int .i64 0]))] fun K hK => ?_
      simp [push_cast, c1]
      repeat (refine And.intro (by clear hK; intros; first | omega | (simp_all; done) | (simp_all <;> omega)) ?_)
      refine hK _ ?_; clear hK K; refine Nav.imp ?_
      refine awp_region cx [] fun K hK => ?_
      simp [push_cast]
      repeat (refine And.intro (by clear hK; intros; first | omega | (simp_all; done) | (simp_all <;> omega)) ?_)
      refine hK _ ?_; clear hK K; refine Nav.imp ?_
      simp [push_cast]
end Go.Proofs.YtgicofpllopjmaaGreat

namespace Go.Proofs.YtgicofpllopjmaaGreat
open Go.Abs Go.Shelf

def sortInt_ren : Go.Shelf.Ren := ⟨fun | 189 => 39 | 125 => 56 | 257 => 70 | 128 => 86 | 129 => 87 | 294 => 98 | 295 => 99 | 296 => 100 | 297 => 101 | 298 => 102 | 299 => 103 | 216 => 104 | 300 => 105 | 301 => 106 | 328 => 125 | 329 => 113 | 330 => 114 | 331 => 126 | 332 => 127 | 215 => 128 | 343 => 135 | n => n, fun | 28 => 75 | 3 => 3 | 46 => 99 | 0 => 0 | 51 => 129 | 53 => 131 | 4 => 4 | 183 => 122 | 182 => 121 | 131 => 126 | 5 => 5 | 9 => 9 | 218 => 152 | 222 => 156 | 228 => 166 | 229 => 167 | n => n, fun n => n⟩
theorem sortInt_lays : Lays.n189 Tryz.prog sortInt_ren where
  mixed := by kernel_rfl
  f125 := Tryz.func56.trans (congrArg some (by kernel_rfl))
  f128 := Tryz.func86.trans (congrArg some (by kernel_rfl))
  f129 := Tryz.func87.trans (congrArg some (by kernel_rfl))
  f189 := Tryz.func39.trans (congrArg some (by kernel_rfl))
  f215 := Tryz.func128.trans (congrArg some (by kernel_rfl))
  f216 := Tryz.func104.trans (congrArg some (by kernel_rfl))
  f257 := Tryz.func70.trans (congrArg some (by kernel_rfl))
  f294 := Tryz.func98.trans (congrArg some (by kernel_rfl))
  f295 := Tryz.func99.trans (congrArg some (by kernel_rfl))
  f296 := Tryz.func100.trans (congrArg some (by kernel_rfl))
  f297 := Tryz.func101.trans (congrArg some (by kernel_rfl))
  f298 := Tryz.func102.trans (congrArg some (by kernel_rfl))
  f299 := Tryz.func103.trans (congrArg some (by kernel_rfl))
  f300 := Tryz.func105.trans (congrArg some (by kernel_rfl))
  f301 := Tryz.func106.trans (congrArg some (by kernel_rfl))
  f328 := Tryz.func125.trans (congrArg some (by kernel_rfl))
  f329 := Tryz.func113.trans (congrArg some (by kernel_rfl))
  f330 := Tryz.func114.trans (congrArg some (by kernel_rfl))
  f331 := Tryz.func126.trans (congrArg some (by kernel_rfl))
  f332 := Tryz.func127.trans (congrArg some (by kernel_rfl))
  f343 := Tryz.func135.trans (congrArg some (by kernel_rfl))
  t0 := Tryz.underlying0
  a0 := Tryz.isAgg0
  z0 := Tryz.sizeOf0
  v0 := Tryz.zeroValue0
  t3 := Tryz.underlying3
  a3 := Tryz.isAgg3
  z3 := Tryz.sizeOf3
  v3 := Tryz.zeroValue3
  t4 := Tryz.underlying4
  a4 := Tryz.isAgg4
  z4 := Tryz.sizeOf4
  v4 := Tryz.zeroValue4
  t5 := Tryz.underlying5
  a5 := Tryz.isAgg5
  z5 := Tryz.sizeOf5
  v5 := Tryz.zeroValue5
  t9 := Tryz.underlying9
  a9 := Tryz.isAgg9
  z9 := Tryz.sizeOf9
  v9 := Tryz.zeroValue9
  t28 := Tryz.underlying75
  a28 := Tryz.isAgg75
  z28 := Tryz.sizeOf75
  v28 := Tryz.zeroValue75
  t46 := Tryz.underlying99
  a46 := Tryz.isAgg99
  z46 := Tryz.sizeOf99
  v46 := Tryz.zeroValue99
  t51 := Tryz.underlying129
  a51 := Tryz.isAgg129
  z51 := Tryz.sizeOf129
  v51 := Tryz.zeroValue129
  t53 := Tryz.underlying131
  a53 := Tryz.isAgg131
  z53 := Tryz.sizeOf131
  v53 := Tryz.zeroValue131
  t131 := Tryz.underlying126
  a131 := Tryz.isAgg126
  z131 := Tryz.sizeOf126
  v131 := Tryz.zeroValue126
  t182 := Tryz.underlying121
  a182 := Tryz.isAgg121
  z182 := Tryz.sizeOf121
  v182 := Tryz.zeroValue121
  t183 := Tryz.underlying122
  a183 := Tryz.isAgg122
  z183 := Tryz.sizeOf122
  v183 := Tryz.zeroValue122
  t218 := Tryz.underlying152
  a218 := Tryz.isAgg152
  z218 := Tryz.sizeOf152
  v218 := Tryz.zeroValue152
  t222 := Tryz.underlying156
  a222 := Tryz.isAgg156
  z222 := Tryz.sizeOf156
  v222 := Tryz.zeroValue156
  t228 := Tryz.underlying166
  a228 := Tryz.isAgg166
  z228 := Tryz.sizeOf166
  v228 := Tryz.zeroValue166
  t229 := Tryz.underlying167
  a229 := Tryz.isAgg167
  z229 := Tryz.sizeOf167
  v229 := Tryz.zeroValue167
def compactInt_ren : Go.Shelf.Ren := ⟨fun | 20 => 40 | n => n, fun | 22 => 75 | 3 => 3 | 4 => 4 | 0 => 0 | n => n, fun n => n⟩
theorem compactInt_lays : Lays2.n20 Tryz.prog compactInt_ren where
  mixed := by kernel_rfl
  f20 := Tryz.func40.trans (congrArg some (by kernel_rfl))
  t0 := Tryz.underlying0
  a0 := Tryz.isAgg0
  z0 := Tryz.sizeOf0
  v0 := Tryz.zeroValue0
  t3 := Tryz.underlying3
  a3 := Tryz.isAgg3
  z3 := Tryz.sizeOf3
  v3 := Tryz.zeroValue3
  t4 := Tryz.underlying4
  a4 := Tryz.isAgg4
  z4 := Tryz.sizeOf4
  v4 := Tryz.zeroValue4
  t22 := Tryz.underlying75
  a22 := Tryz.isAgg75
  z22 := Tryz.sizeOf75
  v22 := Tryz.zeroValue75
  i3 := by kernel_rfl

theorem sortInts_px (l : List Int) (hl : l.length ≤ 1000000000) : PX Tryz.prog 39 [.hs 0 0 l.length] [(0, ⟨3, 1, dr (l.map iRow)⟩)] [(0, 0)] [(0, ⟨3, 1, dr ((l.mergeSort fun x y => decide (x ≤ y)).map iRow)⟩)] (.tup []) :=
  sortI_px sortInt_lays ⟨_, Tryz.func39, by kernel_rfl, by kernel_rfl⟩ 3 l (by omega)
theorem compactInts_px (l : List Int) (hl : l.length ≤ 1000000000) : PX Tryz.prog 40 [.hs 0 0 l.length] [(0, ⟨3, 1, dr (l.map iRow)⟩)] [(0, 0)] [(0, ⟨3, 1, dr ((Go.Lib.compact l ++ List.replicate (l.length - (Go.Lib.compact l).length) 0).map iRow)⟩)] (.hs 0 0 (Go.Lib.compact l).length) :=
  compactI_px compactInt_lays ⟨_, Tryz.func40, by kernel_rfl, by kernel_rfl⟩ 3 l (by omega)

theorem free_runs : ∀ l : List Run, D.freess (l.map Run.row) = true
  | [] => rfl
  | c :: l => by simp [D.freess, D.frees, D.free, free_runs l]
theorem cloneR_ok (l : List Run) (hl : l.length ≤ 100000000) : PC Tryz.prog 42 [encRuns l] (.f (encRuns l)) := by
  have h16 : l.length * 16 ≤ 140737488355328 := by omega
  refine pc_of_awp cx (fn := Tryz.f42) (c := _) Tryz.func42 rfl rfl (Nat.le_of_ble_eq_true rfl) ?_
  rw [Tryz.ntmps42]; refine Nav.imp ?_
  refine awp_region cx [] fun K hK => ?_
  simp [push_cast]
  repeat (refine And.intro (by clear hK; intros; first | omega | (simp_all; done) | (simp_all <;> omega)) ?_)
  refine hK _ ?_; clear hK K; refine Nav.imp ?_
  refine awp_region cx [] fun K hK => ?_
  simp [push_cast]
  repeat (refine And.intro (by clear hK; intros; first | omega | (simp_all; done) | (simp_all <;> omega)) ?_)
  refine hK _ ?_; clear hK K; refine Nav.imp ?_
  refine awp_ub 4 (by simp [push_cast]; exact ⟨rfl, rfl⟩) fun bu hu1 hu2 => ?_
  refine awp_cond (b := bu) (by simp [push_cast]) (fun hb => ?_) (fun hb => ?_) <;> (refine Nav.imp ?_)
  · have hl0 : l = [] := by simpa using hu1 hb
    subst hl0
    refine awp_region cx [] fun K hK => ?_
    simp [push_cast]
    repeat (refine And.intro (by clear hK; intros; first | omega | (simp_all; done) | (simp_all <;> omega)) ?_)
    refine hK _ ?_; clear hK K; refine Nav.imp ?_
    simp [push_cast]
  · refine awp_region cx [] fun K hK => ?_
    simp [push_cast, h16]
    repeat (refine And.intro (by clear hK; intros; first | omega | (simp_all; done) | (simp_all <;> omega)) ?_)
    refine hK _ ?_; clear hK K; refine Nav.imp ?_
    have ht : List.take l.length (l.map Run.row) = l.map Run.row := List.take_of_length_le (by simp)
    simp [push_cast, ht, free_runs]
end Go.Proofs.YtgicofpllopjmaaGreat
