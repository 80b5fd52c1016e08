/-
  The abstract machine: slices.SortFunc as a contract of a function that turns what it is handed: the rows come to lie in their order.
-/
import Derived.Test.YtmfkfgonedgjnaaAbs18
import Derived.Shelf.SlSortCmp.NoneTotal
import Derived.Lib.QuietBelow
set_option linter.unusedVariables false
set_option linter.unusedSimpArgs false
namespace Go.Abs
open Go.Shelf Go.RowKit Go.Lib Go.Sort Go.Proofs

/-- Two sorted lists of the same elements are one. -/
theorem sorted_uniq {α : Type} (le : α → α → Prop) : ∀ (l l' : List α), l.Perm l' → l.Pairwise le → l'.Pairwise le → (∀ a ∈ l, ∀ b ∈ l, le a b → le b a → a = b) → l = l'
  | [], l', h, _, _, _ => by have := h.length_eq; simp at this; exact (List.length_eq_zero_iff.1 this.symm).symm
  | a :: l, [], h, _, _, _ => by have := h.length_eq; simp at this
  | a :: l, b :: l', h, h1, h2, h3 => by
    have hab : a = b := by
      have ha : a ∈ b :: l' := h.subset (by simp)
      have hb : b ∈ a :: l := h.symm.subset (by simp)
      rcases List.mem_cons.1 ha with e | ha
      · exact e
      · rcases List.mem_cons.1 hb with e | hb
        · exact e.symm
        · exact h3 a (by simp) b (by simp [hb]) ((List.pairwise_cons.1 h1).1 b hb) ((List.pairwise_cons.1 h2).1 a ha)
    subst hab
    rw [sorted_uniq le l l' h.cons_inv (List.pairwise_cons.1 h1).2 (List.pairwise_cons.1 h2).2 (fun x hx y hy => h3 x (by simp [hx]) y (by simp [hy]))]

/-- What a comparison does: it hands back a number, and lays at most new memory. -/
def CmpOk (P : Program) (cg : FuncId) (V : List D → Prop) (cf : List D → List D → Int) : Prop :=
  ∀ (ro : Nat → Prop) (w : World) (a b : List D) (va vb : List Value), (∀ blk, ro blk → blk < w.heap.size) → V a → V b → RepDs ro w a va → RepDs ro w b vb → OneCells va → OneCells vb →
    Calls P cg #[.agg va.toArray, .agg vb.toArray] w fun e w' => e = .returned (.int .i64 (cf a b)) ∧ ∃ q os, w' = grow (w.drewN q) os

structure CmpOrd (V : List D → Prop) (cf : List D → List D → Int) : Prop where
  irrefl : ∀ a, V a → ¬ cf a a < 0
  trans : ∀ a b c, V a → V b → V c → cf a b < 0 → cf b c < 0 → cf a c < 0
  ntrans : ∀ a b c, V a → V b → V c → ¬ cf a b < 0 → ¬ cf b c < 0 → ¬ cf a c < 0

section
variable (ro : Nat → Prop) (w : World) (V : List D → Prop) (k : Nat)
/-- An element: what it reads as, and its cells. -/
def Elt : Type := { x : List D × List Value // V x.1 ∧ x.2.length = k ∧ OneCells x.2 ∧ RepDs ro w x.1 x.2 }
def Elt.enc (x : Elt ro w V k) : List Value := x.1.2
end

theorem heap_sort {α : Type} [Inhabited α] (enc : α → List Value) (k : Nat) (w : World) (blk m : Nat) (d : Array α) (os : Array Obj) {b : Nat} (hb : b < w.heap.size) (hne : b ≠ blk) : (sortWorldK enc k w blk 0 m d os).heap[b]? = w.heap[b]? := by
  unfold sortWorldK
  rw [heap_grow_old _ _ (by simpa [putRowK] using hb)]
  simp only [putRowK, putRow, mapBlock, heap_ahead]
  rw [Array.getElem?_modify, if_neg (fun h => hne h.symm)]

theorem heap_sort_blk {α : Type} [Inhabited α] (enc : α → List Value) (k : Nat) (w : World) (blk m : Nat) (d : Array α) (os : Array Obj) {cur : Array Value} {e : TypeId} {fr : Nat × Nat} (h : w.heap[blk]? = some (.cells cur e fr)) : (sortWorldK enc k w blk 0 m d os).heap[blk]? = some (.cells (Go.Sort.putCells id 0 (flatK enc k d) cur) e fr) := by
  have hb : blk < w.heap.size := (Array.getElem?_eq_some_iff.1 h).1
  unfold sortWorldK
  rw [heap_grow_old _ _ (by simpa [putRowK] using hb)]
  simp only [putRowK, putRow, mapBlock, heap_ahead]
  rw [Array.getElem?_modify, if_pos rfl, h]
  rfl

theorem size_sort {α : Type} [Inhabited α] (enc : α → List Value) (k : Nat) (w : World) (blk m : Nat) (d : Array α) (os : Array Obj) : w.heap.size ≤ (sortWorldK enc k w blk 0 m d os).heap.size := by
  unfold sortWorldK
  rw [size_grow]
  simp [putRowK]

theorem drawn_sort {α : Type} [Inhabited α] (enc : α → List Value) (k : Nat) (w : World) (blk m : Nat) (d : Array α) (os : Array Obj) : w.drawn ≤ (sortWorldK enc k w blk 0 m d os).drawn := by
  simp [sortWorldK, putRowK, grow, putRow, mapBlock, ahead]

/-- A contract over plain data is one of a comparison. -/
theorem cmp_of_pc {P : Program} {cg : FuncId} {V : List D → Prop} {cf : List D → List D → Int} (h : ∀ a b, V a → V b → PC P cg [.agg a, .agg b] (.p (.int .i64 (cf a b)))) : CmpOk P cg V cf := by
  intro ro w a b va vb hro ha hb ra rb oa ob
  refine ((h a b ha hb).2 ro w [.agg va.toArray, .agg vb.toArray] hro ?_).mono ?_
  · simp only [RepDs, RepD]
    exact ⟨_, _, rfl, ⟨va, rfl, oa, ra⟩, _, _, rfl, ⟨vb, rfl, ob, rb⟩, rfl⟩
  · rintro e w' ⟨v, he, hB, hr⟩
    simp only [RepRes, RepD] at hr
    refine ⟨by rw [he, hr], ?_⟩
    obtain ⟨p, hp⟩ := regrown_of_below hB.kit
    have hd : w'.drawn = w.drawn + (w'.drawn - w.drawn) := by have := hB.tape.2; omega
    refine ⟨w'.drawn - w.drawn, p.os, ?_⟩
    have hpd : p.d = w'.drawn := by rw [hp]; rfl
    rw [hp]
    simp only [grow, redrawn, World.drewN]
    rw [hp] at hd
    simp only [grow, redrawn] at hd
    congr 1

theorem cmp_lays {P : Program} {cg : FuncId} {V : List D → Prop} {cf : List D → List D → Int} (hc : CmpOk P cg V cf) {ro : Nat → Prop} {w : World} {k blk size : Nat} (hro : ∀ b, ro b → b < w.heap.size ∧ b ≠ blk) [Inhabited (Elt ro w V k)] :
    CmpLays P cg #[] (Elt.enc ro w V k) k (fun x y => cf x.1.1 y.1.1) blk 0 size w := by
  intro m os dk _ x y
  have hf : Fut ro w ro (sortWorldK (Elt.enc ro w V k) k w blk 0 m dk os) := fun b hb => ⟨hb, heap_sort _ _ _ _ _ _ _ (hro b hb).1 (hro b hb).2⟩
  obtain ⟨hx1, _, ox, hx2⟩ := x.2
  obtain ⟨hy1, _, oy, hy2⟩ := y.2
  have := hc ro (sortWorldK (Elt.enc ro w V k) k w blk 0 m dk os) x.1.1 y.1.1 x.1.2 y.1.2 (fun b hb => Nat.lt_of_lt_of_le (hro b hb).1 (size_sort _ _ _ _ _ _ _)) hx1 hy1 (RepDs.mono hf _ _ hx2) (RepDs.mono hf _ _ hy2) ox oy
  simpa [Elt.enc] using this

/-- THE CONTRACT of slices.SortFunc at structs of k cells: the rows in their order (which is one alone). -/
theorem sortFunc_px {P : Program} {ρ : Ren} (L : SlLaysF0.n6 P ρ) {k : Nat} (hk0 : 0 < k) (aE : ∀ w, (isAgg (ρ.t 24)).run P w = .ok true w) (zE : ∀ w, (Go.sizeOf (ρ.t 24)).run P w = .ok k w) (hent : Enters P (ρ.f 6)) {cg : FuncId}
    (eg : ∀ args w, (callFunc cg args).run P w = .ok (.enter cg args) w) {V : List D → Prop} {cf : List D → List D → Int} (hc : CmpOk P cg V cf) (hO : CmpOrd V cf) (e : TypeId) {rows rows' : List (List D)} (hV : ∀ r ∈ rows, V r)
    (hanti : ∀ a ∈ rows, ∀ b ∈ rows, ¬ cf b a < 0 → ¬ cf a b < 0 → a = b) (hp : rows'.Perm rows) (hs : rows'.Pairwise fun a b => ¬ cf b a < 0) (hn : 0 < rows.length) (hsz : rows.length < 4611686018427387904) (fv : AV)
    (hfv : ∀ g w v, RepA g w fv v → v = .func (.func cg) #[] #[]) :
    PX P (ρ.f 6) [.hs 0 0 rows.length, fv] [(0, ⟨e, k, dr rows⟩)] [(0, 0)] [(0, ⟨e, k, dr rows'⟩)] (.tup []) := by
  refine ⟨hent, fun g w vs h hu hvs => ?_⟩
  simp only [RepAs] at hvs
  obtain ⟨v0, _, rfl, h0, v1, _, rfl, h1, rfl⟩ := hvs
  have e1 := hfv g w v1 h1
  obtain ⟨L0, hL, hok⟩ := h.own 0 ⟨e, k, dr rows⟩ (by simp [objL, find])
  have hkm : L0.m = k := hok.m
  have hlenr : (dr rows).length = rows.length := by simp [dr]
  have hvirt : L0.virt = false := by
    cases hv : L0.virt with
    | false => rfl
    | true =>
      have h2 : (dr rows).length = 0 := by rw [show dr rows = [] from hok.virt hv]; rfl
      omega
  obtain ⟨cur, hblk, hcs, hcap, hrows⟩ := hok.cells hvirt
  simp only [RepA] at h0
  have e0 : v0 = .slice (some ⟨L0.blk, 0, none⟩) rows.length L0.cap := by
    rcases h0.2 L0 hL with ⟨hv, _⟩ | ⟨_, _, hv⟩
    · rw [hvirt] at hv; cases hv
    · rw [hv]; simp
  have hcapl : rows.length ≤ L0.cap := by have := hok.len; rw [hlenr] at this; exact this
  have hblt : L0.blk < w.heap.size := (Array.getElem?_eq_some_iff.1 hblk).1
  have hnro : ¬ g.ro L0.blk := ((h.live 0 L0 hL).2 hvirt).2
  have hro : ∀ b, g.ro b → b < w.heap.size ∧ b ≠ L0.blk := fun b hb => ⟨h.ro b hb, fun e => hnro (e ▸ hb)⟩
  have hcsz : rows.length * k ≤ cur.size := by rw [hcs, hkm]; exact Nat.mul_le_mul_right k hcapl
  have hin : ∀ i, i < rows.length → i * k + k ≤ cur.size := fun i hi => by
    have := Nat.mul_le_mul_right k (show i + 1 ≤ rows.length from hi)
    rw [Nat.add_mul, Nat.one_mul] at this; omega
  -- the cells of element i
  have hel : ∀ i (hi : i < rows.length), V rows[i] ∧ (cur.toList.drop (i * k) |>.take k).length = k ∧ OneCells (cur.toList.drop (i * k) |>.take k) ∧ RepDs g.ro w rows[i] (cur.toList.drop (i * k) |>.take k) := by
    intro i hi
    have hrow := hrows i (rows[i].map AV.d) (by simp [dr, hi])
    have hl : (cur.toList.drop (i * k) |>.take k).length = k := by
      have := hin i hi
      simp only [List.length_take, List.length_drop, Array.length_toList]; omega
    have hget : ∀ j, j < k → (cur.toList.drop (i * k) |>.take k)[j]? = cur[i * k + j]? := fun j hj => by
      rw [List.getElem?_take, if_pos hj, List.getElem?_drop, Array.getElem?_toList]
    have hrl : rows[i].length = k := by have := hrow.1; rw [hkm] at this; simpa using this
    refine ⟨hV _ (List.getElem_mem hi), hl, ?_, ?_⟩
    · intro v hv
      obtain ⟨j, hj⟩ := List.mem_iff_getElem?.1 hv
      have hjk : j < k := by have := (List.getElem?_eq_some_iff.1 hj).1; omega
      rw [hget j hjk] at hj
      obtain ⟨u, hu1, hu2, _⟩ := hrow.2 j (.d (rows[i][j]'(by omega))) (by simp [show j < rows[i].length by omega])
      rw [hkm, hj] at hu1
      cases hu1
      exact hu2
    · refine RepDs.of_get (by rw [hl, hrl]) fun j x hj => ?_
      have hjk : j < k := by have := (List.getElem?_eq_some_iff.1 hj).1; omega
      obtain ⟨u, hu1, _, hu3⟩ := hrow.2 j (.d x) (by simp [hj])
      rw [hkm] at hu1
      exact ⟨u, by rw [hget j hjk, hu1], by simpa only [RepA] using hu3⟩
  let mk : _root_.Fin rows.length → Elt g.ro w V k := fun i => ⟨(rows[i.1], (cur.toList.drop (i.1 * k)).take k), hel i.1 i.2⟩
  let d : Array (Elt g.ro w V k) := Array.ofFn mk
  haveI : Inhabited (Elt g.ro w V k) := ⟨mk ⟨0, hn⟩⟩
  have hds : d.size = rows.length := by simp [d]
  have hdi : ∀ i (hi : i < rows.length), d[i]! = mk ⟨i, hi⟩ := fun i hi => by
    rw [getElem!_pos d i (by rw [hds]; exact hi)]; simp [d]
  have hdl : d.toList.map (fun x => x.1.1) = rows := by
    apply List.ext_getElem
    · simp [d]
    · intro i h1 h2
      have hi : i < d.size := by simpa using h1
      rw [List.getElem_map, Array.getElem_toList]
      have e := hdi i h2
      rw [getElem!_pos d i hi] at e
      rw [e]
  have hH : HoldsK (Elt.enc g.ro w V k) k w L0.blk 0 d := by
    intro j hj
    have hjs : j < rows.length * k := by simpa [hds] using hj
    have hdk : j / k < rows.length := Nat.div_lt_of_lt_mul (by rwa [Nat.mul_comm] at hjs)
    have hmod : j % k < k := Nat.mod_lt j hk0
    have hdm : j / k * k + j % k = j := by rw [Nat.mul_comm]; exact Nat.div_add_mod j k
    rw [get_flatK _ _ _ _ (by rw [hds]; exact hjs), hdi _ hdk]
    have hlt : j < cur.size := by omega
    refine ⟨?_, ?_⟩
    · simp only [World.cell?, hblk, Nat.zero_add]
      simp only [Option.isSome_none, Bool.false_eq_true, if_false, id_eq]
      have hl2 := (hel _ hdk).2.1
      rw [getElem!_pos _ _ (by rw [show (Elt.enc g.ro w V k (mk ⟨j / k, hdk⟩)) = (cur.toList.drop (j / k * k)).take k from rfl, hl2]; exact hmod)]
      simp only [Elt.enc, mk, List.getElem_take, List.getElem_drop, Array.getElem_toList, hdm]
      exact Array.getElem?_eq_getElem hlt
    · simp only [World.frozen?, hblk]
      simp
  have hswo : SWO (ltOf fun x y : Elt g.ro w V k => cf x.1.1 y.1.1) := by
    refine ⟨fun x => ?_, fun x y z h1 h2 => ?_, fun x y z h1 h2 => ?_⟩
    · simpa [ltOf] using hO.irrefl x.1.1 x.2.1
    · simp only [ltOf, decide_eq_true_eq] at h1 h2 ⊢
      exact hO.trans _ _ _ x.2.1 y.2.1 z.2.1 h1 h2
    · simp only [ltOf, decide_eq_false_iff_not] at h1 h2 ⊢
      exact hO.ntrans _ _ _ x.2.1 y.2.1 z.2.1 h1 h2
  have hmain := AnyQ.slices_SortFunc L k aE zE (Elt.enc g.ro w V k) (fun x => x.2.2.1) (fun x v hv => x.2.2.2.1 v hv) (fun x y => cf x.1.1 y.1.1) hswo cg #[] L0.blk 0 L0.cap d w eg (cmp_lays hc hro) hH hblt (by rw [hds]; exact hsz)
  rw [hds] at hmain
  rw [e0, e1]
  refine hmain.mono ?_
  rintro ex w' ⟨rfl, d', n, os, hperm, hsort, rfl⟩
  obtain ⟨hps, _, hpp⟩ := hperm
  have hex : ∀ a : Array (Elt g.ro w V k), a.size = rows.length → (a.extract 0 rows.length) = a := fun a ha => by rw [← ha]; simp
  rw [hex d' (by rw [hps, hds]), hex d hds] at hpp
  have hrows' : d'.toList.map (fun x => x.1.1) = rows' := by
    refine sorted_uniq (fun a b => ¬ cf b a < 0) _ _ ((hpp.map _).trans (by rw [hdl]; exact hp.symm)) ?_ hs ?_
    · rw [List.pairwise_map, List.pairwise_iff_getElem]
      intro i j hi hj hij
      have hj' : j < d'.size := by simpa using hj
      have := hsort i j (Nat.zero_le _) hij (by rw [hps, hds] at hj'; exact hj')
      rw [getElem!_pos d' i (by omega), getElem!_pos d' j hj'] at this
      simpa [ltOf] using this
    · intro a ha b hb hab hba
      have hsub : ∀ x, x ∈ d'.toList.map (fun x => x.1.1) → x ∈ rows := fun x hx => by
        have := (hpp.map (fun x : Elt g.ro w V k => x.1.1)).subset hx
        rwa [hdl] at this
      exact hanti a (hsub a ha) b (hsub b hb) hab hba
  have hd's : d'.size = rows.length := by rw [hps, hds]
  have hbs : (sortWorldK (Elt.enc g.ro w V k) k w L0.blk 0 n d' os).heap[L0.blk]? = some (.cells (Go.Sort.putCells id 0 (flatK (Elt.enc g.ro w V k) k d') cur) e (0, 0)) := heap_sort_blk _ _ _ _ _ _ _ hblk
  obtain ⟨g', h1, h2, h3, h4, h5, h6⟩ := HRel.write h hL hvirt (id' := 0) (.inl rfl) ⟨e, k, dr rows'⟩ (Go.Sort.putCells id 0 (flatK (Elt.enc g.ro w V k) k d') cur) (w' := sortWorldK (Elt.enc g.ro w V k) k w L0.blk 0 n d' os) (cap := L0.cap) (B := L0.blk) rfl ⟨rfl, drawn_sort _ _ _ _ _ _ _⟩ rfl (size_sort _ _ _ _ _ _ _)
    (fun b hb hne => heap_sort _ _ _ _ _ _ _ hb hne) (.inl rfl) hbs hkm.symm hok.pos (by simp only [Go.Sort.putCells, Array.size_mapIdx]; exact hcs) (by have := hp.length_eq; simp [dr]; omega) hcap (fun _ => ⟨rfl, rfl⟩) (by
      intro i row hi
      have hil : i < rows'.length := by have := (List.getElem?_eq_some_iff.1 hi).1; simpa [dr] using this
      have hil2 : i < rows.length := by have := hp.length_eq; omega
      have hid : i < d'.size := by omega
      have hri : rows'[i] = (d'[i]'hid).1.1 := by
        have : (d'.toList.map (fun x => x.1.1))[i]'(by simpa using hid) = rows'[i] := by simp only [hrows']
        rw [← this]; simp
      have hrow : row = rows'[i].map AV.d := by
        have : (dr rows')[i]? = some (rows'[i].map AV.d) := by simp [dr, hil]
        rw [this] at hi; exact (Option.some.inj hi).symm
      obtain ⟨x1, x2, x3, x4⟩ := (d'[i]'hid).2
      subst hrow
      rw [hri, hkm]
      have hxl : (d'[i]'hid).1.1.length = k := by have := x4.length; omega
      refine ⟨by simp [hxl], fun j av hj => ?_⟩
      have hjk : j < k := by have := (List.getElem?_eq_some_iff.1 hj).1; simp at this; omega
      have hav : av = .d ((d'[i]'hid).1.1[j]'(by omega)) := by
        rw [List.getElem?_map, List.getElem?_eq_getElem (by omega)] at hj
        exact (Option.some.inj hj).symm
      obtain ⟨v, hv1, hv2⟩ := x4.get j _ (List.getElem?_eq_getElem (by omega))
      have hdiv : (i * k + j) / k = i := (blk_iff k i _ hk0).1 ⟨by omega, by omega⟩
      have hmod : (i * k + j) % k = j := by rw [Nat.mod_eq_sub_div_mul, hdiv]; omega
      have hlt : i * k + j < rows.length * k := by have := Nat.mul_le_mul_right k (show i + 1 ≤ rows.length from hil2); rw [Nat.add_mul, Nat.one_mul] at this; omega
      refine ⟨v, ?_, x3 v (List.mem_of_getElem? hv1), ?_⟩
      · have hlc : i * k + j < cur.size := by omega
        have hc1 : (Go.Sort.putCells id 0 (flatK (Elt.enc g.ro w V k) k d') cur)[i * k + j]? = some ((flatK (Elt.enc g.ro w V k) k d')[i * k + j]!) := by
          simp only [Go.Sort.putCells, Array.getElem?_mapIdx, Array.getElem?_eq_getElem hlc, Option.map_some]
          rw [if_pos ⟨Nat.zero_le _, by rw [size_flatK, hd's]; omega⟩]
          simp
        rw [hc1, get_flatK _ _ _ _ (by rw [hd's]; exact hlt), hdiv, hmod, getElem!_pos d' i hid]
        simp only [Elt.enc]
        obtain ⟨hjl, hjv⟩ := List.getElem?_eq_some_iff.1 hv1
        rw [getElem!_pos _ j hjl, hjv]
      · rw [hav]
        simpa only [RepA] using hv2)
  refine ⟨_, g', rfl, ?_, ?_, h5, ?_⟩
  · have : (upd1 (upd1 (objL [(0, ⟨e, k, dr rows⟩)]) 0 none) 0 (some ⟨e, k, dr rows'⟩)) = objL [(0, ⟨e, k, dr rows'⟩)] := by
      funext x
      simp only [upd1, objL, find]
      by_cases hx : x = 0
      · subst hx; simp
      · have hx' : ¬ (0 = x) := fun h => hx h.symm
        simp [hx, hx']
    rw [← this]; exact h4
  · simp only [RepA, RepAs]
    exact ⟨[], rfl, rfl⟩
  · intro i j hij
    simp only [List.mem_cons, List.not_mem_nil, or_false, Prod.mk.injEq] at hij
    obtain ⟨rfl, rfl⟩ := hij
    rw [h1, hL]
    cases L0; simp_all

/-- .. at no element. -/
theorem sortFunc_px0 {P : Program} {ρ : Ren} (L : SlLaysF0.n6 P ρ) {k : Nat} (hk0 : 0 < k) (hent : Enters P (ρ.f 6)) (e : TypeId) (fv : AV) :
    PX P (ρ.f 6) [.hs 0 0 0, fv] [(0, ⟨e, k, []⟩)] [(0, 0)] [(0, ⟨e, k, []⟩)] (.tup []) := by
  refine ⟨hent, fun g w vs h hu hvs => ?_⟩
  simp only [RepAs] at hvs
  obtain ⟨v0, _, rfl, h0, v1, _, rfl, h1, rfl⟩ := hvs
  obtain ⟨L0, hL, hok⟩ := h.own 0 ⟨e, k, []⟩ (by simp [objL, find])
  simp only [RepA] at h0
  have e0 : ∃ p c, v0 = .slice p 0 c := by
    rcases h0.2 L0 hL with ⟨_, _, _, hv⟩ | ⟨_, _, hv⟩
    · exact ⟨_, _, hv⟩
    · exact ⟨_, _, hv⟩
  obtain ⟨p, c, rfl⟩ := e0
  refine (AnyF.slices_SortFunc_none { L with } p c v1 w).mono ?_
  rintro ex w' ⟨rfl, rfl⟩
  refine ⟨_, g, rfl, h, ?_, Step.refl g _, ?_⟩
  · simp only [RepA, RepAs]; exact ⟨[], rfl, rfl⟩
  · intro i j hij
    simp only [List.mem_cons, List.not_mem_nil, or_false, Prod.mk.injEq] at hij
    obtain ⟨rfl, rfl⟩ := hij
    rfl

/-- .. at any number of elements. -/
theorem sortFunc_all {P : Program} {ρ : Ren} (L : SlLaysF0.n6 P ρ) {k : Nat} (hk0 : 0 < k) (aE : ∀ w, (isAgg (ρ.t 24)).run P w = .ok true w) (zE : ∀ w, (Go.sizeOf (ρ.t 24)).run P w = .ok k w) (hent : Enters P (ρ.f 6)) {cg : FuncId}
    (eg : ∀ args w, (callFunc cg args).run P w = .ok (.enter cg args) w) {V : List D → Prop} {cf : List D → List D → Int} (hc : CmpOk P cg V cf) (hO : CmpOrd V cf) (e : TypeId) {rows rows' : List (List D)} (hV : ∀ r ∈ rows, V r)
    (hanti : ∀ a ∈ rows, ∀ b ∈ rows, ¬ cf b a < 0 → ¬ cf a b < 0 → a = b) (hp : rows'.Perm rows) (hs : rows'.Pairwise fun a b => ¬ cf b a < 0) (hsz : rows.length < 4611686018427387904) :
    PX P (ρ.f 6) [.hs 0 0 rows.length, .d (.fn (.func cg) [])] [(0, ⟨e, k, dr rows⟩)] [(0, 0)] [(0, ⟨e, k, dr rows'⟩)] (.tup []) := by
  by_cases hn : rows = []
  · subst hn
    have : rows' = [] := hp.eq_nil
    subst this
    exact sortFunc_px0 L hk0 hent e _
  · refine sortFunc_px L hk0 aE zE hent eg hc hO e hV hanti hp hs (List.length_pos_iff.2 hn) hsz _ fun g w v hv => ?_
    simp only [RepA, RepD] at hv
    obtain ⟨vs, rfl, h2⟩ := hv
    simp only [RepDs] at h2
    rw [h2]

end Go.Abs
