/-
  Texts of this seat put together: T2, T3, T4, T5, AbsS, S1, T6, U1, X9, B1, P8, P9.
-/
import Derived.Test.YtlfbjflfbjkbeaaJ6
import Derived.Test.YtlfbjflfbjkbeaaJ3
import Derived.Test.YtlfbjflfbjkbeaaJ5
import Derived.Shelf.SlSortCmp.NoneTotal
import Derived.Lib.QuietBelow
import Derived.Test.YtlfbjflfbjkbeaaChecked
import Derived.Deep.RegionHeld3
import Derived.Deep.DrawnRows
set_option linter.unusedVariables false
set_option linter.unusedSimpArgs false
set_option maxRecDepth 100000
namespace Go.Proofs.Ytlfbjflfbjkbeaa
open Go.Abs

def bef (a b : Cell) : Bool := decide (a.y < b.y) || (decide (a.y = b.y) && decide (a.x < b.x))
theorem bef_leY {a b : Cell} (h : bef a b = false) : leY b a = true := by simp [bef, leY] at *; omega
def InsAt (l : List Cell) (i : Nat) (Z : List Cell) (k : Nat) : Prop :=
  ∃ (P : List Cell) (c : Cell) (Q T : List Cell), Z = P ++ c :: (Q ++ T) ∧ P.length = k ∧ P.length + Q.length = i ∧ Z.Perm l ∧ ((P ++ Q).Pairwise fun a b => leY a b = true) ∧ ∀ q ∈ Q, leY c q = true
def UpTo (l : List Cell) (i : Nat) (Z : List Cell) : Prop := Z.Perm l ∧ ((Z.take i).Pairwise fun a b => leY a b = true)

end Go.Proofs.Ytlfbjflfbjkbeaa

namespace Go.Proofs.Ytlfbjflfbjkbeaa
open Go.Abs

end Go.Proofs.Ytlfbjflfbjkbeaa

namespace Go.Proofs.Ytlfbjflfbjkbeaa
open Go.Abs

def ofR (l : List Cell) : List Row := if l.all onG then build (sortY l) else []
def ofE (l : List Cell) : Int := if l.all onG then 0 else 8
abbrev ofD (l : List Cell) : D := .tup [.agg (regRow (ofR l)), .int .i64 (ofE l)]

theorem addC_small {R : List Row} {n : Nat} (c : Cell) (h1 : R.length ≤ n) (h2 : ∀ w ∈ R, w.runs.length ≤ n) : (addC R c).length ≤ n + 1 ∧ ∀ w ∈ addC R c, w.runs.length ≤ n + 1 := by
  refine ⟨Nat.le_trans (addC_len R c) (by omega), fun w hw => ?_⟩
  rcases List.eq_nil_or_concat R with rfl | ⟨P, v, rfl⟩
  · rw [addC_nil] at hw; simp at hw; subst hw; simp
  · rw [List.concat_eq_append] at *
    rw [addC_end] at hw
    split at hw
    · rcases List.mem_append.1 hw with hw | hw
      · have := h2 w (by simp [hw]); omega
      · simp at hw
        subst hw
        have hv := h2 v (by simp)
        simp only
        rcases List.eq_nil_or_concat v.runs with e | ⟨L, r, e⟩
        · rw [e, addRun_nil]; simp
        · rw [List.concat_eq_append] at e
          rw [e] at hv ⊢
          rw [addRun_end]
          split <;> simp at hv ⊢ <;> omega
    · rcases List.mem_append.1 hw with hw | hw
      · have := h2 w hw; omega
      · simp at hw; subst hw; simp
theorem build_small (l : List Cell) : (build l).length ≤ l.length ∧ ∀ w ∈ build l, w.runs.length ≤ l.length := by
  have : ∀ k, k ≤ l.length → (build (l.take k)).length ≤ k ∧ ∀ w ∈ build (l.take k), w.runs.length ≤ k := by
    intro k
    induction k with
    | zero => intro _; simp [build]
    | succ k ih =>
      intro hk
      obtain ⟨c, hc⟩ := getq (show k < l.length by omega)
      rw [build_take hc]
      have := ih (by omega)
      exact addC_small c this.1 this.2
  have := this l.length (Nat.le_refl _)
  rwa [List.take_length] at this

end Go.Proofs.Ytlfbjflfbjkbeaa

namespace Go.Proofs.Ytlfbjflfbjkbeaa
open Go.Abs

end Go.Proofs.Ytlfbjflfbjkbeaa

namespace Go.Abs
open Go.Shelf Go.RowKit Go.Lib Go.Sort Go.Proofs

theorem sorted_uniq {α : Type} (le : α → α → Prop) : ∀ (l l' : List α), l.Perm l' → l.Pairwise le → l'.Pairwise le → (∀ a ∈ l, ∀ b ∈ l, le a b → le b a → a = b) → l = l'
  | [], l', h, _, _, _ => by have := h.length_eq; simp at this; exact (List.length_eq_zero_iff.1 this.symm).symm
  | a :: l, [], h, _, _, _ => by have := h.length_eq; simp at this
  | a :: l, b :: l', h, h1, h2, h3 => by
    have hab : a = b := by
      have ha : a ∈ b :: l' := h.subset (by simp)
      have hb : b ∈ a :: l := h.symm.subset (by simp)
      rcases List.mem_cons.1 ha with e | ha
      · exact e
      · rcases List.mem_cons.1 hb with e | hb
        · exact e.symm
        · exact h3 a (by simp) b (by simp [hb]) ((List.pairwise_cons.1 h1).1 b hb) ((List.pairwise_cons.1 h2).1 a ha)
    subst hab
    rw [sorted_uniq le l l' h.cons_inv (List.pairwise_cons.1 h1).2 (List.pairwise_cons.1 h2).2 (fun x hx y hy => h3 x (by simp [hx]) y (by simp [hy]))]

def CmpOk (P : Program) (cg : FuncId) (V : List D → Prop) (cf : List D → List D → Int) : Prop :=
  ∀ (ro : Nat → Prop) (w : World) (a b : List D) (va vb : List Value), (∀ blk, ro blk → blk < w.heap.size) → V a → V b → RepDs ro w a va → RepDs ro w b vb → OneCells va → OneCells vb →
    Calls P cg #[.agg va.toArray, .agg vb.toArray] w fun e w' => e = .returned (.int .i64 (cf a b)) ∧ ∃ q os, w' = grow (w.drewN q) os

structure CmpOrd (V : List D → Prop) (cf : List D → List D → Int) : Prop where
  irrefl : ∀ a, V a → ¬ cf a a < 0
  trans : ∀ a b c, V a → V b → V c → cf a b < 0 → cf b c < 0 → cf a c < 0
  ntrans : ∀ a b c, V a → V b → V c → ¬ cf a b < 0 → ¬ cf b c < 0 → ¬ cf a c < 0

section
variable (ro : Nat → Prop) (w : World) (V : List D → Prop) (k : Nat)
def Elt : Type := { x : List D × List Value // V x.1 ∧ x.2.length = k ∧ OneCells x.2 ∧ RepDs ro w x.1 x.2 }
def Elt.enc (x : Elt ro w V k) : List Value := x.1.2
end

theorem heap_sort {α : Type} [Inhabited α] (enc : α → List Value) (k : Nat) (w : World) (blk m : Nat) (d : Array α) (os : Array Obj) {b : Nat} (hb : b < w.heap.size) (hne : b ≠ blk) : (sortWorldK enc k w blk 0 m d os).heap[b]? = w.heap[b]? := by
  unfold sortWorldK
  rw [heap_grow_old _ _ (by simpa [putRowK] using hb)]
  simp only [putRowK, putRow, mapBlock, heap_ahead]
  rw [Array.getElem?_modify, if_neg (fun h => hne h.symm)]

theorem heap_sort_blk {α : Type} [Inhabited α] (enc : α → List Value) (k : Nat) (w : World) (blk m : Nat) (d : Array α) (os : Array Obj) {cur : Array Value} {e : TypeId} {fr : Nat × Nat} (h : w.heap[blk]? = some (.cells cur e fr)) : (sortWorldK enc k w blk 0 m d os).heap[blk]? = some (.cells (Go.Sort.putCells id 0 (flatK enc k d) cur) e fr) := by
  have hb : blk < w.heap.size := (Array.getElem?_eq_some_iff.1 h).1
  unfold sortWorldK
  rw [heap_grow_old _ _ (by simpa [putRowK] using hb)]
  simp only [putRowK, putRow, mapBlock, heap_ahead]
  rw [Array.getElem?_modify, if_pos rfl, h]
  rfl

theorem size_sort {α : Type} [Inhabited α] (enc : α → List Value) (k : Nat) (w : World) (blk m : Nat) (d : Array α) (os : Array Obj) : w.heap.size ≤ (sortWorldK enc k w blk 0 m d os).heap.size := by
  unfold sortWorldK
  rw [size_grow]
  simp [putRowK]

theorem drawn_sort {α : Type} [Inhabited α] (enc : α → List Value) (k : Nat) (w : World) (blk m : Nat) (d : Array α) (os : Array Obj) : w.drawn ≤ (sortWorldK enc k w blk 0 m d os).drawn := by
  simp [sortWorldK, putRowK, grow, putRow, mapBlock, ahead]

theorem cmp_of_pc {P : Program} {cg : FuncId} {V : List D → Prop} {cf : List D → List D → Int} (h : ∀ a b, V a → V b → PC P cg [.agg a, .agg b] (.p (.int .i64 (cf a b)))) : CmpOk P cg V cf := by
  intro ro w a b va vb hro ha hb ra rb oa ob
  refine ((h a b ha hb).2 ro w [.agg va.toArray, .agg vb.toArray] hro ?_).mono ?_
  · simp only [RepDs, RepD]
    exact ⟨_, _, rfl, ⟨va, rfl, oa, ra⟩, _, _, rfl, ⟨vb, rfl, ob, rb⟩, rfl⟩
  · rintro e w' ⟨v, he, hB, hr⟩
    simp only [RepRes, RepD] at hr
    refine ⟨by rw [he, hr], ?_⟩
    obtain ⟨p, hp⟩ := regrown_of_below hB.kit
    have hd : w'.drawn = w.drawn + (w'.drawn - w.drawn) := by have := hB.tape.2; omega
    refine ⟨w'.drawn - w.drawn, p.os, ?_⟩
    have hpd : p.d = w'.drawn := by rw [hp]; rfl
    rw [hp]
    simp only [grow, redrawn, World.drewN]
    rw [hp] at hd
    simp only [grow, redrawn] at hd
    congr 1

theorem cmp_lays {P : Program} {cg : FuncId} {V : List D → Prop} {cf : List D → List D → Int} (hc : CmpOk P cg V cf) {ro : Nat → Prop} {w : World} {k blk size : Nat} (hro : ∀ b, ro b → b < w.heap.size ∧ b ≠ blk) [Inhabited (Elt ro w V k)] :
    CmpLays P cg #[] (Elt.enc ro w V k) k (fun x y => cf x.1.1 y.1.1) blk 0 size w := by
  intro m os dk _ x y
  have hf : Fut ro w ro (sortWorldK (Elt.enc ro w V k) k w blk 0 m dk os) := fun b hb => ⟨hb, heap_sort _ _ _ _ _ _ _ (hro b hb).1 (hro b hb).2⟩
  obtain ⟨hx1, _, ox, hx2⟩ := x.2
  obtain ⟨hy1, _, oy, hy2⟩ := y.2
  have := hc ro (sortWorldK (Elt.enc ro w V k) k w blk 0 m dk os) x.1.1 y.1.1 x.1.2 y.1.2 (fun b hb => Nat.lt_of_lt_of_le (hro b hb).1 (size_sort _ _ _ _ _ _ _)) hx1 hy1 (RepDs.mono hf _ _ hx2) (RepDs.mono hf _ _ hy2) ox oy
  simpa [Elt.enc] using this

theorem sortFunc_px {P : Program} {ρ : Ren} (L : SlLaysF0.n6 P ρ) {k : Nat} (hk0 : 0 < k) (aE : ∀ w, (isAgg (ρ.t 24)).run P w = .ok true w) (zE : ∀ w, (Go.sizeOf (ρ.t 24)).run P w = .ok k w) (hent : Enters P (ρ.f 6)) {cg : FuncId}
    (eg : ∀ args w, (callFunc cg args).run P w = .ok (.enter cg args) w) {V : List D → Prop} {cf : List D → List D → Int} (hc : CmpOk P cg V cf) (hO : CmpOrd V cf) (e : TypeId) {rows rows' : List (List D)} (hV : ∀ r ∈ rows, V r)
    (hanti : ∀ a ∈ rows, ∀ b ∈ rows, ¬ cf b a < 0 → ¬ cf a b < 0 → a = b) (hp : rows'.Perm rows) (hs : rows'.Pairwise fun a b => ¬ cf b a < 0) (hn : 0 < rows.length) (hsz : rows.length < 4611686018427387904) (fv : AV)
    (hfv : ∀ g w v, RepA g w fv v → v = .func (.func cg) #[] #[]) :
    PX P (ρ.f 6) [.hs 0 0 rows.length, fv] [(0, ⟨e, k, dr rows⟩)] [(0, 0)] [(0, ⟨e, k, dr rows'⟩)] (.tup []) := by
  refine ⟨hent, fun g w vs h hu hvs => ?_⟩
  simp only [RepAs] at hvs
  obtain ⟨v0, _, rfl, h0, v1, _, rfl, h1, rfl⟩ := hvs
  have e1 := hfv g w v1 h1
  obtain ⟨L0, hL, hok⟩ := h.own 0 ⟨e, k, dr rows⟩ (by simp [objL, find])
  have hkm : L0.m = k := hok.m
  have hlenr : (dr rows).length = rows.length := by simp [dr]
  have hvirt : L0.virt = false := by
    cases hv : L0.virt with
    | false => rfl
    | true =>
      have h2 : (dr rows).length = 0 := by rw [show dr rows = [] from hok.virt hv]; rfl
      omega
  simp only [RepA] at h0
  have hflat : L0.virt = false ∧ L0.map = false := by
    rcases h0.2 L0 hL with ⟨hv, _⟩ | ⟨hv, _⟩
    · rw [hvirt] at hv; cases hv
    · exact hv
  have hvm := hflat.2
  obtain ⟨cur, hblk, hcs, hcap, hrows⟩ := hok.cells hflat
  have e0 : v0 = .slice (some ⟨L0.blk, 0, none⟩) rows.length L0.cap := by
    rcases h0.2 L0 hL with ⟨hv, _⟩ | ⟨_, _, hv⟩
    · rw [hvirt] at hv; cases hv
    · rw [hv]; simp
  have hcapl : rows.length ≤ L0.cap := by have := hok.len hvm; rw [hlenr] at this; exact this
  have hblt : L0.blk < w.heap.size := (Array.getElem?_eq_some_iff.1 hblk).1
  have hnro : ¬ g.ro L0.blk := ((h.live 0 L0 hL).2 hvirt).2
  have hro : ∀ b, g.ro b → b < w.heap.size ∧ b ≠ L0.blk := fun b hb => ⟨h.ro b hb, fun e => hnro (e ▸ hb)⟩
  have hcsz : rows.length * k ≤ cur.size := by rw [hcs, hkm]; exact Nat.mul_le_mul_right k hcapl
  have hin : ∀ i, i < rows.length → i * k + k ≤ cur.size := fun i hi => by
    have := Nat.mul_le_mul_right k (show i + 1 ≤ rows.length from hi)
    rw [Nat.add_mul, Nat.one_mul] at this; omega
  -- the cells of element i
  have hel : ∀ i (hi : i < rows.length), V rows[i] ∧ (cur.toList.drop (i * k) |>.take k).length = k ∧ OneCells (cur.toList.drop (i * k) |>.take k) ∧ RepDs g.ro w rows[i] (cur.toList.drop (i * k) |>.take k) := by
    intro i hi
    have hrow := hrows i (rows[i].map AV.d) (by simp [dr, hi])
    have hl : (cur.toList.drop (i * k) |>.take k).length = k := by
      have := hin i hi
      simp only [List.length_take, List.length_drop, Array.length_toList]; omega
    have hget : ∀ j, j < k → (cur.toList.drop (i * k) |>.take k)[j]? = cur[i * k + j]? := fun j hj => by
      rw [List.getElem?_take, if_pos hj, List.getElem?_drop, Array.getElem?_toList]
    have hrl : rows[i].length = k := by have := hrow.1; rw [hkm] at this; simpa using this
    refine ⟨hV _ (List.getElem_mem hi), hl, ?_, ?_⟩
    · intro v hv
      obtain ⟨j, hj⟩ := List.mem_iff_getElem?.1 hv
      have hjk : j < k := by have := (List.getElem?_eq_some_iff.1 hj).1; omega
      rw [hget j hjk] at hj
      obtain ⟨u, hu1, hu2, _⟩ := hrow.2 j (.d (rows[i][j]'(by omega))) (by simp [show j < rows[i].length by omega])
      rw [hkm, hj] at hu1
      cases hu1
      exact hu2
    · refine RepDs.of_get (by rw [hl, hrl]) fun j x hj => ?_
      have hjk : j < k := by have := (List.getElem?_eq_some_iff.1 hj).1; omega
      obtain ⟨u, hu1, _, hu3⟩ := hrow.2 j (.d x) (by simp [hj])
      rw [hkm] at hu1
      exact ⟨u, by rw [hget j hjk, hu1], by simpa only [RepA] using hu3⟩
  let mk : _root_.Fin rows.length → Elt g.ro w V k := fun i => ⟨(rows[i.1], (cur.toList.drop (i.1 * k)).take k), hel i.1 i.2⟩
  let d : Array (Elt g.ro w V k) := Array.ofFn mk
  haveI : Inhabited (Elt g.ro w V k) := ⟨mk ⟨0, hn⟩⟩
  have hds : d.size = rows.length := by simp [d]
  have hdi : ∀ i (hi : i < rows.length), d[i]! = mk ⟨i, hi⟩ := fun i hi => by
    rw [getElem!_pos d i (by rw [hds]; exact hi)]; simp [d]
  have hdl : d.toList.map (fun x => x.1.1) = rows := by
    apply List.ext_getElem
    · simp [d]
    · intro i h1 h2
      have hi : i < d.size := by simpa using h1
      rw [List.getElem_map, Array.getElem_toList]
      have e := hdi i h2
      rw [getElem!_pos d i hi] at e
      rw [e]
  have hH : HoldsK (Elt.enc g.ro w V k) k w L0.blk 0 d := by
    intro j hj
    have hjs : j < rows.length * k := by simpa [hds] using hj
    have hdk : j / k < rows.length := Nat.div_lt_of_lt_mul (by rwa [Nat.mul_comm] at hjs)
    have hmod : j % k < k := Nat.mod_lt j hk0
    have hdm : j / k * k + j % k = j := by rw [Nat.mul_comm]; exact Nat.div_add_mod j k
    rw [get_flatK _ _ _ _ (by rw [hds]; exact hjs), hdi _ hdk]
    have hlt : j < cur.size := by omega
    refine ⟨?_, ?_⟩
    · simp only [World.cell?, hblk, Nat.zero_add]
      simp only [Option.isSome_none, Bool.false_eq_true, if_false, id_eq]
      have hl2 := (hel _ hdk).2.1
      rw [getElem!_pos _ _ (by rw [show (Elt.enc g.ro w V k (mk ⟨j / k, hdk⟩)) = (cur.toList.drop (j / k * k)).take k from rfl, hl2]; exact hmod)]
      simp only [Elt.enc, mk, List.getElem_take, List.getElem_drop, Array.getElem_toList, hdm]
      exact Array.getElem?_eq_getElem hlt
    · simp only [World.frozen?, hblk]
      simp
  have hswo : SWO (ltOf fun x y : Elt g.ro w V k => cf x.1.1 y.1.1) := by
    refine ⟨fun x => ?_, fun x y z h1 h2 => ?_, fun x y z h1 h2 => ?_⟩
    · simpa [ltOf] using hO.irrefl x.1.1 x.2.1
    · simp only [ltOf, decide_eq_true_eq] at h1 h2 ⊢
      exact hO.trans _ _ _ x.2.1 y.2.1 z.2.1 h1 h2
    · simp only [ltOf, decide_eq_false_iff_not] at h1 h2 ⊢
      exact hO.ntrans _ _ _ x.2.1 y.2.1 z.2.1 h1 h2
  have hmain := AnyQ.slices_SortFunc L k aE zE (Elt.enc g.ro w V k) (fun x => x.2.2.1) (fun x v hv => x.2.2.2.1 v hv) (fun x y => cf x.1.1 y.1.1) hswo cg #[] L0.blk 0 L0.cap d w eg (cmp_lays hc hro) hH hblt (by rw [hds]; exact hsz)
  rw [hds] at hmain
  rw [e0, e1]
  refine hmain.mono ?_
  rintro ex w' ⟨rfl, d', n, os, hperm, hsort, rfl⟩
  obtain ⟨hps, _, hpp⟩ := hperm
  have hex : ∀ a : Array (Elt g.ro w V k), a.size = rows.length → (a.extract 0 rows.length) = a := fun a ha => by rw [← ha]; simp
  rw [hex d' (by rw [hps, hds]), hex d hds] at hpp
  have hrows' : d'.toList.map (fun x => x.1.1) = rows' := by
    refine sorted_uniq (fun a b => ¬ cf b a < 0) _ _ ((hpp.map _).trans (by rw [hdl]; exact hp.symm)) ?_ hs ?_
    · rw [List.pairwise_map, List.pairwise_iff_getElem]
      intro i j hi hj hij
      have hj' : j < d'.size := by simpa using hj
      have := hsort i j (Nat.zero_le _) hij (by rw [hps, hds] at hj'; exact hj')
      rw [getElem!_pos d' i (by omega), getElem!_pos d' j hj'] at this
      simpa [ltOf] using this
    · intro a ha b hb hab hba
      have hsub : ∀ x, x ∈ d'.toList.map (fun x => x.1.1) → x ∈ rows := fun x hx => by
        have := (hpp.map (fun x : Elt g.ro w V k => x.1.1)).subset hx
        rwa [hdl] at this
      exact hanti a (hsub a ha) b (hsub b hb) hab hba
  have hd's : d'.size = rows.length := by rw [hps, hds]
  have hbs : (sortWorldK (Elt.enc g.ro w V k) k w L0.blk 0 n d' os).heap[L0.blk]? = some (.cells (Go.Sort.putCells id 0 (flatK (Elt.enc g.ro w V k) k d') cur) e (0, 0)) := heap_sort_blk _ _ _ _ _ _ _ hblk
  obtain ⟨g', h1, h2, h3, h4, h5, h6⟩ := HRel.write h hL hflat (id' := 0) (.inl rfl) ⟨e, k, dr rows'⟩ (Go.Sort.putCells id 0 (flatK (Elt.enc g.ro w V k) k d') cur) (w' := sortWorldK (Elt.enc g.ro w V k) k w L0.blk 0 n d' os) (cap := L0.cap) (B := L0.blk) rfl ⟨rfl, drawn_sort _ _ _ _ _ _ _⟩ rfl (size_sort _ _ _ _ _ _ _)
    (fun b hb hne => heap_sort _ _ _ _ _ _ _ hb hne) (.inl rfl) hbs hkm.symm hok.pos (by simp only [Go.Sort.putCells, Array.size_mapIdx]; exact hcs) (by have := hp.length_eq; simp [dr]; omega) hcap (fun _ => ⟨rfl, rfl⟩) (by
      intro i row hi
      have hil : i < rows'.length := by have := (List.getElem?_eq_some_iff.1 hi).1; simpa [dr] using this
      have hil2 : i < rows.length := by have := hp.length_eq; omega
      have hid : i < d'.size := by omega
      have hri : rows'[i] = (d'[i]'hid).1.1 := by
        have : (d'.toList.map (fun x => x.1.1))[i]'(by simpa using hid) = rows'[i] := by simp only [hrows']
        rw [← this]; simp
      have hrow : row = rows'[i].map AV.d := by
        have : (dr rows')[i]? = some (rows'[i].map AV.d) := by simp [dr, hil]
        rw [this] at hi; exact (Option.some.inj hi).symm
      obtain ⟨x1, x2, x3, x4⟩ := (d'[i]'hid).2
      subst hrow
      rw [hri, hkm]
      have hxl : (d'[i]'hid).1.1.length = k := by have := x4.length; omega
      refine ⟨by simp [hxl], fun j av hj => ?_⟩
      have hjk : j < k := by have := (List.getElem?_eq_some_iff.1 hj).1; simp at this; omega
      have hav : av = .d ((d'[i]'hid).1.1[j]'(by omega)) := by
        rw [List.getElem?_map, List.getElem?_eq_getElem (by omega)] at hj
        exact (Option.some.inj hj).symm
      obtain ⟨v, hv1, hv2⟩ := x4.get j _ (List.getElem?_eq_getElem (by omega))
      have hdiv : (i * k + j) / k = i := (blk_iff k i _ hk0).1 ⟨by omega, by omega⟩
      have hmod : (i * k + j) % k = j := by rw [Nat.mod_eq_sub_div_mul, hdiv]; omega
      have hlt : i * k + j < rows.length * k := by have := Nat.mul_le_mul_right k (show i + 1 ≤ rows.length from hil2); rw [Nat.add_mul, Nat.one_mul] at this; omega
      refine ⟨v, ?_, x3 v (List.mem_of_getElem? hv1), ?_⟩
      · have hlc : i * k + j < cur.size := by omega
        have hc1 : (Go.Sort.putCells id 0 (flatK (Elt.enc g.ro w V k) k d') cur)[i * k + j]? = some ((flatK (Elt.enc g.ro w V k) k d')[i * k + j]!) := by
          simp only [Go.Sort.putCells, Array.getElem?_mapIdx, Array.getElem?_eq_getElem hlc, Option.map_some]
          rw [if_pos ⟨Nat.zero_le _, by rw [size_flatK, hd's]; omega⟩]
          simp
        rw [hc1, get_flatK _ _ _ _ (by rw [hd's]; exact hlt), hdiv, hmod, getElem!_pos d' i hid]
        simp only [Elt.enc]
        obtain ⟨hjl, hjv⟩ := List.getElem?_eq_some_iff.1 hv1
        rw [getElem!_pos _ j hjl, hjv]
      · rw [hav]
        simpa only [RepA] using hv2)
  refine ⟨_, g', rfl, ?_, ?_, h5, ?_⟩
  · have : (upd1 (upd1 (objL [(0, ⟨e, k, dr rows⟩)]) 0 none) 0 (some ⟨e, k, dr rows'⟩)) = objL [(0, ⟨e, k, dr rows'⟩)] := by
      funext x
      simp only [upd1, objL, find]
      by_cases hx : x = 0
      · subst hx; simp
      · have hx' : ¬ (0 = x) := fun h => hx h.symm
        simp [hx, hx']
    rw [← this]; exact h4
  · simp only [RepA, RepAs]
    exact ⟨[], rfl, rfl⟩
  · intro i j hij
    simp only [List.mem_cons, List.not_mem_nil, or_false, Prod.mk.injEq] at hij
    obtain ⟨rfl, rfl⟩ := hij
    rw [h1, hL]
    cases L0; simp_all

theorem sortFunc_px0 {P : Program} {ρ : Ren} (L : SlLaysF0.n6 P ρ) {k : Nat} (hk0 : 0 < k) (hent : Enters P (ρ.f 6)) (e : TypeId) (fv : AV) :
    PX P (ρ.f 6) [.hs 0 0 0, fv] [(0, ⟨e, k, []⟩)] [(0, 0)] [(0, ⟨e, k, []⟩)] (.tup []) := by
  refine ⟨hent, fun g w vs h hu hvs => ?_⟩
  simp only [RepAs] at hvs
  obtain ⟨v0, _, rfl, h0, v1, _, rfl, h1, rfl⟩ := hvs
  obtain ⟨L0, hL, hok⟩ := h.own 0 ⟨e, k, []⟩ (by simp [objL, find])
  simp only [RepA] at h0
  have e0 : ∃ p c, v0 = .slice p 0 c := by
    rcases h0.2 L0 hL with ⟨_, _, _, a0, hv⟩ | ⟨_, _, hv⟩
    · exact ⟨a0, _, hv⟩
    · exact ⟨_, _, hv⟩
  obtain ⟨p, c, rfl⟩ := e0
  refine (AnyF.slices_SortFunc_none { L with } p c v1 w).mono ?_
  rintro ex w' ⟨rfl, rfl⟩
  refine ⟨_, g, rfl, h, ?_, Step.refl g _, ?_⟩
  · simp only [RepA, RepAs]; exact ⟨[], rfl, rfl⟩
  · intro i j hij
    simp only [List.mem_cons, List.not_mem_nil, or_false, Prod.mk.injEq] at hij
    obtain ⟨rfl, rfl⟩ := hij
    rfl

theorem sortFunc_all {P : Program} {ρ : Ren} (L : SlLaysF0.n6 P ρ) {k : Nat} (hk0 : 0 < k) (aE : ∀ w, (isAgg (ρ.t 24)).run P w = .ok true w) (zE : ∀ w, (Go.sizeOf (ρ.t 24)).run P w = .ok k w) (hent : Enters P (ρ.f 6)) {cg : FuncId}
    (eg : ∀ args w, (callFunc cg args).run P w = .ok (.enter cg args) w) {V : List D → Prop} {cf : List D → List D → Int} (hc : CmpOk P cg V cf) (hO : CmpOrd V cf) (e : TypeId) {rows rows' : List (List D)} (hV : ∀ r ∈ rows, V r)
    (hanti : ∀ a ∈ rows, ∀ b ∈ rows, ¬ cf b a < 0 → ¬ cf a b < 0 → a = b) (hp : rows'.Perm rows) (hs : rows'.Pairwise fun a b => ¬ cf b a < 0) (hsz : rows.length < 4611686018427387904) :
    PX P (ρ.f 6) [.hs 0 0 rows.length, .d (.fn (.func cg) [])] [(0, ⟨e, k, dr rows⟩)] [(0, 0)] [(0, ⟨e, k, dr rows'⟩)] (.tup []) := by
  by_cases hn : rows = []
  · subst hn
    have : rows' = [] := hp.eq_nil
    subst this
    exact sortFunc_px0 L hk0 hent e _
  · refine sortFunc_px L hk0 aE zE hent eg hc hO e hV hanti hp hs (List.length_pos_iff.2 hn) hsz _ fun g w v hv => ?_
    simp only [RepA, RepD] at hv
    obtain ⟨vs, rfl, h2⟩ := hv
    simp only [RepDs] at h2
    rw [h2]

end Go.Abs

namespace Go.Proofs.Ytlfbjflfbjkbeaa
open Go.Abs Go.Shelf Go.RowKit Go.Lib Go.Sort

def sortCell_ren : Go.Shelf.Ren := ⟨fun | 6 => 84 | 15 => 89 | 14 => 94 | 28 => 105 | 29 => 106 | 20 => 107 | 21 => 108 | 22 => 109 | 23 => 110 | 24 => 111 | 25 => 112 | 26 => 113 | 27 => 114 | 46 => 120 | 47 => 116 | 48 => 117 | 49 => 121 | 50 => 122 | 57 => 124 | n => n, fun | 22 => 106 | 24 => 31 | 25 => 120 | 3 => 3 | 39 => 114 | 0 => 0 | 53 => 138 | 55 => 115 | 4 => 4 | 46 => 132 | 45 => 131 | 50 => 100 | 5 => 5 | 9 => 9 | 66 => 145 | 70 => 149 | 76 => 153 | 77 => 154 | n => n, fun n => n⟩
theorem sortCell_lays : SlLaysF0.n6 Try.prog sortCell_ren where
  mixed := by kernel_rfl
  f6 := ⟨Try.f84.name, by kernel_rfl, Try.func84.trans (congrArg some (by kernel_rfl))⟩
  f14 := ⟨Try.f94.name, by kernel_rfl, Try.func94.trans (congrArg some (by kernel_rfl))⟩
  f15 := Try.func89.trans (congrArg some (by kernel_rfl))
  f20 := ⟨Try.f107.name, by kernel_rfl, Try.func107.trans (congrArg some (by kernel_rfl))⟩
  f21 := ⟨Try.f108.name, by kernel_rfl, Try.func108.trans (congrArg some (by kernel_rfl))⟩
  f22 := ⟨Try.f109.name, by kernel_rfl, Try.func109.trans (congrArg some (by kernel_rfl))⟩
  f23 := ⟨Try.f110.name, by kernel_rfl, Try.func110.trans (congrArg some (by kernel_rfl))⟩
  f24 := ⟨Try.f111.name, by kernel_rfl, Try.func111.trans (congrArg some (by kernel_rfl))⟩
  f25 := ⟨Try.f112.name, by kernel_rfl, Try.func112.trans (congrArg some (by kernel_rfl))⟩
  f26 := ⟨Try.f113.name, by kernel_rfl, Try.func113.trans (congrArg some (by kernel_rfl))⟩
  f27 := ⟨Try.f114.name, by kernel_rfl, Try.func114.trans (congrArg some (by kernel_rfl))⟩
  f28 := Try.func105.trans (congrArg some (by kernel_rfl))
  f29 := Try.func106.trans (congrArg some (by kernel_rfl))
  f46 := ⟨Try.f120.name, by kernel_rfl, Try.func120.trans (congrArg some (by kernel_rfl))⟩
  f47 := Try.func116.trans (congrArg some (by kernel_rfl))
  f48 := Try.func117.trans (congrArg some (by kernel_rfl))
  f49 := ⟨Try.f121.name, by kernel_rfl, Try.func121.trans (congrArg some (by kernel_rfl))⟩
  f50 := ⟨Try.f122.name, by kernel_rfl, Try.func122.trans (congrArg some (by kernel_rfl))⟩
  f57 := ⟨Try.f124.name, by kernel_rfl, Try.func124.trans (congrArg some (by kernel_rfl))⟩
  t0 := Try.underlying0
  a0 := Try.isAgg0
  z0 := Try.sizeOf0
  v0 := Try.zeroValue0
  t3 := Try.underlying3
  a3 := Try.isAgg3
  z3 := Try.sizeOf3
  v3 := Try.zeroValue3
  t4 := Try.underlying4
  a4 := Try.isAgg4
  z4 := Try.sizeOf4
  v4 := Try.zeroValue4
  t5 := Try.underlying5
  a5 := Try.isAgg5
  z5 := Try.sizeOf5
  v5 := Try.zeroValue5
  t9 := Try.underlying9
  a9 := Try.isAgg9
  z9 := Try.sizeOf9
  v9 := Try.zeroValue9
  t22 := Try.underlying106
  a22 := Try.isAgg106
  z22 := Try.sizeOf106
  v22 := Try.zeroValue106
  t25 := Try.underlying120
  a25 := Try.isAgg120
  z25 := Try.sizeOf120
  v25 := Try.zeroValue120
  t39 := Try.underlying114
  a39 := Try.isAgg114
  z39 := Try.sizeOf114
  v39 := Try.zeroValue114
  t45 := Try.underlying131
  a45 := Try.isAgg131
  z45 := Try.sizeOf131
  v45 := Try.zeroValue131
  t46 := Try.underlying132
  a46 := Try.isAgg132
  z46 := Try.sizeOf132
  v46 := Try.zeroValue132
  t50 := Try.underlying100
  a50 := Try.isAgg100
  z50 := Try.sizeOf100
  v50 := Try.zeroValue100
  t53 := Try.underlying138
  a53 := Try.isAgg138
  z53 := Try.sizeOf138
  v53 := Try.zeroValue138
  t55 := Try.underlying115
  a55 := Try.isAgg115
  z55 := Try.sizeOf115
  v55 := Try.zeroValue115
  t66 := Try.underlying145
  a66 := Try.isAgg145
  z66 := Try.sizeOf145
  v66 := Try.zeroValue145
  t70 := Try.underlying149
  a70 := Try.isAgg149
  z70 := Try.sizeOf149
  v70 := Try.zeroValue149
  t76 := Try.underlying153
  a76 := Try.isAgg153
  z76 := Try.sizeOf153
  v76 := Try.zeroValue153
  t77 := Try.underlying154
  a77 := Try.isAgg154
  z77 := Try.sizeOf154
  v77 := Try.zeroValue154

def cfX : List D → List D → Int
  | [.int _ ax, .int _ ay], [.int _ bx, .int _ by'] => if ax ≠ bx then ax - bx else ay - by'
  | _, _ => 0
def VC (r : List D) : Prop := ∃ c : Cell, r = c.row ∧ onG c = true


def cfY : List D → List D → Int
  | [_, _, .sl ([.int _ ax, .int _ ay] :: _)], [_, _, .sl ([.int _ bx, .int _ by'] :: _)] => if ay ≠ by' then ay - by' else ax - bx
  | _, _ => 0
def VT (r : List D) : Prop := ∃ (t : Track) (c : Cell) (l : List Cell), r = t.row ∧ t.cells = c :: l ∧ onG c = true

end Go.Proofs.Ytlfbjflfbjkbeaa

namespace Go.Proofs.Ytlfbjflfbjkbeaa
open Go.Abs

def cfD : List D → List D → Int
  | [.int _ ax, .int _ ay], [.int _ bx, .int _ by'] => orI (cmpI ay by') (cmpI ax bx)
  | _, _ => 0
theorem orI_lt (a b c d : Int) : orI (cmpI a b) (cmpI c d) < 0 ↔ a < b ∨ a = b ∧ c < d := by
  unfold orI cmpI
  split <;> (try split) <;> (try split) <;> (try split) <;> omega
theorem cfD_bef (a b : Cell) : cfD a.row b.row < 0 ↔ bef a b = true := by
  obtain ⟨ax, ay⟩ := a
  obtain ⟨bx, b'⟩ := b
  simp only [cfD, Cell.row, orI_lt, bef]
  simp
theorem cfD_ok : CmpOk Try.prog 85 VC cfD := by
  refine cmp_of_pc ?_
  rintro _ _ ⟨a, rfl, _⟩ ⟨b, rfl, _⟩
  have := ofCmp_ok a b
  exact this
theorem cfD_ord : CmpOrd VC cfD where
  irrefl := by rintro _ ⟨a, rfl, _⟩; rw [cfD_bef]; simp [bef]
  trans := by
    rintro _ _ _ ⟨a, rfl, _⟩ ⟨b, rfl, _⟩ ⟨c, rfl, _⟩
    rw [cfD_bef, cfD_bef, cfD_bef]
    simp [bef]; omega
  ntrans := by
    rintro _ _ _ ⟨a, rfl, _⟩ ⟨b, rfl, _⟩ ⟨c, rfl, _⟩
    rw [cfD_bef, cfD_bef, cfD_bef]
    simp [bef]; omega
theorem sortO_px (l : List Cell) (hon : ∀ c ∈ l, onG c = true) (hl : l.length ≤ 1000000) : PX Try.prog 84 [.hs 0 0 l.length, .d (.fn (.func 85) [])] [(0, ⟨31, 2, dr (l.map Cell.row)⟩)] [(0, 0)] [(0, ⟨31, 2, dr ((sortY l).map Cell.row)⟩)] (.tup []) := by
  have h := sortFunc_all (P := Try.prog) sortCell_lays (k := 2) (by decide) (fun w => by kernel_rfl) (fun w => by kernel_rfl) ⟨_, Try.func84, by kernel_rfl, by kernel_rfl⟩ (cg := 85) (fun args w => by kernel_rfl) cfD_ok cfD_ord 31 (rows := l.map Cell.row) (rows' := (sortY l).map Cell.row)
    (fun r hr => by obtain ⟨c, hc, rfl⟩ := List.mem_map.1 hr; exact ⟨c, rfl, hon c hc⟩)
    (fun a ha b hb h1 h2 => by
      obtain ⟨c, hc, rfl⟩ := List.mem_map.1 ha
      obtain ⟨d, hd, rfl⟩ := List.mem_map.1 hb
      rw [cfD_bef] at h1 h2
      have e : c = d := leY_anti (bef_leY (by simpa using h1)) (bef_leY (by simpa using h2))
      rw [e])
    ((sortY_perm l).map _) (by
      rw [List.pairwise_map]
      refine (sortY_le l).imp fun {a b} h => ?_
      rw [cfD_bef]
      simp [bef, leY] at *; omega) (by simp; omega)
  simp only [List.length_map] at h
  exact h

def ofTl : Option (Int × List Run) → List (List AV)
  | none => []
  | some (y, L) => [[.d (.int .i64 y), .hs 3 0 L.length]]
def ofRl : Option (Int × List Run) → List Run
  | none => []
  | some (_, L) => L
def ofX (P : List Row) : Option (Int × List Run) → List Row
  | none => P
  | some (y, L) => P ++ [⟨y, L⟩]

set_option maxHeartbeats 4000000 in
theorem of_ok (l : List Cell) (hl : l.length ≤ 1000000) : PC Try.prog 73 [encCells l] (.p (ofD l)) := by
  have hD : ofD l = .tup [.agg (regRow (ofR l)), .int .i64 (ofE l)] := rfl
  rw [hD]
  refine pc_of_awp cx (fn := Try.f73) (c := _) Try.func73 rfl rfl (Nat.le_of_ble_eq_true rfl) ?_
  rw [Try.ntmps73]; refine Nav.imp ?_
  refine awp_region cx [] fun K hK => ?_
  simp [push_cast]
  repeat (refine And.intro (by clear hK; intros; first | omega | (simp_all; done) | (simp_all <;> omega)) ?_)
  refine hK _ ?_; clear hK K; refine Nav.imp ?_
  refine awp_region cx [] fun K hK => ?_
  simp [push_cast]
  repeat (refine And.intro (by clear hK; intros; first | omega | (simp_all; done) | (simp_all <;> omega)) ?_)
  refine hK _ ?_; clear hK K; refine Nav.imp ?_
  refine awp_loop (β := Nat) (fun k => ⟨124, [(0, .d (encCells l)), (2, .ptr 0 0 0), (3, .d (.int .i64 0)), (13, .d (encCells l)), (14, .d (.int .i64 l.length)), (15, .d (.int .i64 k))], [(0, some ⟨56, 1, [[.nl]]⟩)], 1⟩) (fun k => k ≤ l.length ∧ ∀ c ∈ l.take k, onG c = true) (fun k => l.length - k) 0 ?_ ⟨Nat.zero_le _, by simp⟩ ?_
  · refine weak_of [(0, some 0)] rfl (by simp [upT, up, upL, push_cast]) (by simp [upH, upR, upL, up, push_cast]) (by simp [namesOk, push_cast]) (by simp [olds])
  · rintro k ⟨hk, hon⟩
    refine Nav.imp ?_
    refine awp_region cx [] fun K hK => ?_
    simp [push_cast]
    repeat (refine And.intro (by clear hK; intros; first | omega | (simp_all; done) | (simp_all <;> omega)) ?_)
    refine hK _ ?_; clear hK K; refine Nav.imp ?_
    refine awp_cond (b := decide ((k : Int) < l.length)) (by simp [push_cast]) (fun hb => ?_) (fun hb => ?_) <;> (refine Nav.imp ?_)
    · have hlt : k < l.length := by simpa using hb
      obtain ⟨c, hc⟩ := getq hlt
      have e0 := wrap_i64 (n := (k : Int) + 1) (by omega) (by omega)
      have c1 := ok_ok c.x
      have c2 := ok_ok c.y
      have hv : onG c = (okB c.x && okB c.y) := by simp [onG, okB, Bool.and_assoc]
      have hbad : onG c = false → ofR l = [] ∧ ofE l = 8 := fun h => by
        have hall : l.all onG = false := by
          rw [Bool.eq_false_iff]
          intro h'
          have := List.all_eq_true.1 h' c (List.mem_of_getElem? hc)
          rw [h] at this; cases this
        exact ⟨by simp [ofR, hall], by simp [ofE, hall]⟩
      obtain ⟨x, y⟩ := c
      simp only at c1 c2 hv
      generalize okB x = p at *
      generalize okB y = q at *
      refine awp_region cx [] fun K hK => ?_
      simp [push_cast, hc]
      repeat (refine And.intro (by clear hK; intros; first | omega | (simp_all; done) | (simp_all <;> omega)) ?_)
      refine hK _ ?_; clear hK K; refine Nav.imp ?_
      cases p with
      | false =>
        obtain ⟨h1, h2⟩ := hbad (by rw [hv]; rfl)
        rw [h1, h2]
        refine awp_region cx [(2, .p (.bool false)), (7, .skip)] fun K hK => ?_
        simp [push_cast, c1]
        repeat (refine And.intro (by clear hK; intros; first | omega | (simp_all; done) | (simp_all <;> omega)) ?_)
        refine hK _ ?_; clear hK K; refine Nav.imp ?_
        refine awp_cond (b := true) (by simp [push_cast]) (fun hb => ?_) (fun hb => ?_) <;> (refine Nav.imp ?_)
        · refine awp_region cx [] fun K hK => ?_
          simp [push_cast]
          repeat (refine And.intro (by clear hK; intros; first | omega | (simp_all; done) | (simp_all <;> omega)) ?_)
          refine hK _ ?_; clear hK K; refine Nav.imp ?_
          simp [push_cast]
        · simp at hb
      | true =>
        refine awp_region cx [(2, .p (.bool true)), (7, .p (.bool q))] fun K hK => ?_
        simp [push_cast, c1, c2]
        repeat (refine And.intro (by clear hK; intros; first | omega | (simp_all; done) | (simp_all <;> omega)) ?_)
        refine hK _ ?_; clear hK K; refine Nav.imp ?_
        refine awp_cond (b := !q) (by simp [push_cast]) (fun hb => ?_) (fun hb => ?_) <;> (refine Nav.imp ?_)
        · simp at hb
          obtain ⟨h1, h2⟩ := hbad (by rw [hv, hb]; rfl)
          rw [h1, h2]
          refine awp_region cx [] fun K hK => ?_
          simp [push_cast]
          repeat (refine And.intro (by clear hK; intros; first | omega | (simp_all; done) | (simp_all <;> omega)) ?_)
          refine hK _ ?_; clear hK K; refine Nav.imp ?_
          simp [push_cast]
        · simp at hb
          refine awp_region cx [] fun K hK => ?_
          simp [push_cast, e0]
          repeat (refine And.intro (by clear hK; intros; first | omega | (simp_all; done) | (simp_all <;> omega)) ?_)
          refine hK _ ?_; clear hK K; refine Nav.imp ?_
          refine ⟨k + 1, ⟨hlt, fun d hd => ?_⟩, by omega, ?_⟩
          · rw [take_get hc] at hd
            rcases List.mem_append.1 hd with hd | hd
            · exact hon d hd
            · simp at hd; subst hd; rw [hv, hb]; rfl
          · refine weak_of [(0, some 0)] rfl (by simp [upT, up, upL, push_cast]) (by simp [upH, upR, upL, up, push_cast]) (by simp [namesOk, push_cast]) (by simp [olds])
    · have hge : k = l.length := by simp at hb; omega
      subst hge
      rw [List.take_length] at hon
      have hall : l.all onG = true := List.all_eq_true.2 hon
      have h1 : ofR l = build (sortY l) := by simp [ofR, hall]
      have h2 : ofE l = 0 := by simp [ofE, hall]
      have c1 := clone_ok l hl
      have c2 := sortO_px l hon hl
      have hslen : (sortY l).length = l.length := (sortY_perm l).length_eq
      have hson : ∀ c ∈ sortY l, onG c = true := fun c hc => hon c ((sortY_perm l).mem_iff.1 hc)
      rw [h1, h2]
      clear h1 h2 hb hall
      generalize sortY l = s at *
      refine awp_region cx [(1, .o 31 2 (l.map Cell.row))] fun K hK => ?_
      simp [push_cast, c1]
      repeat (refine And.intro (by clear hK; intros; first | omega | (simp_all; done) | (simp_all <;> omega)) ?_)
      refine hK _ ?_; clear hK K; refine Nav.imp ?_
      refine awp_region cx [(1, .x ⟨[(0, 3)], [.hs 0 0 l.length, .d (.fn (.func 85) [])], [(0, ⟨31, 2, dr (l.map Cell.row)⟩)], [(0, 0)], none, [(0, ⟨31, 2, dr (s.map Cell.row)⟩)], .tup []⟩)] fun K hK => ?_
      simp [push_cast, c2]
      repeat (refine And.intro (by clear hK; intros; first | omega | (simp_all; done) | (simp_all <;> omega)) ?_)
      refine hK _ ?_; clear hK K; refine Nav.imp ?_
      rw [← hslen]
      have hsl : s.length ≤ 1000000 := by omega
      refine awp_freeze 3 (s.map Cell.row) rfl (by simp [push_cast]) fun K hK => ?_
      simp [push_cast, St.fz, fzT, fzH, fzO, fz, fzL, fzR, fzR_dr, fzR_app, fzR_set, fzL_map]
      refine hK _ ?_; clear hK K; refine Nav.imp ?_
      refine awp_region cx [] fun K hK => ?_
      simp [push_cast]
      repeat (refine And.intro (by clear hK; intros; first | omega | (simp_all; done) | (simp_all <;> omega)) ?_)
      refine hK _ ?_; clear hK K; refine Nav.imp ?_
      refine awp_region cx [] fun K hK => ?_
      simp [push_cast]
      repeat (refine And.intro (by clear hK; intros; first | omega | (simp_all; done) | (simp_all <;> omega)) ?_)
      refine hK _ ?_; clear hK K; refine Nav.imp ?_
      refine awp_loop (β := Nat × List Row × Option (Int × List Run)) (fun b => ⟨124, [(2, .ptr 0 0 0), (3, .d (.int .i64 0)), (7, .ptr 1 0 0), (35, .d (encCells s)), (36, .d (.int .i64 s.length)), (37, .d (.int .i64 b.1))], [(0, some ⟨56, 1, [[.nl]]⟩), (1, some ⟨56, 1, [[.hs 2 0 (b.2.1.length + (ofTl b.2.2).length)]]⟩), (2, some ⟨72, 2, dr (b.2.1.map Row.row) ++ ofTl b.2.2⟩), (3, some ⟨92, 2, dr ((ofRl b.2.2).map Run.row)⟩)], 4⟩)
        (fun b => b.1 ≤ s.length ∧ ofX b.2.1 b.2.2 = build (s.take b.1) ∧ (b.2.2 = none → b.2.1 = []) ∧ (∀ y L, b.2.2 = some (y, L) → L ≠ [])) (fun b => s.length - b.1) (0, [], none) ?_ ⟨Nat.zero_le _, by simp [ofX, build], fun _ => rfl, fun y L h => by cases h⟩ ?_
      · refine weak_of [(0, some 0), (1, some 7), (2, none), (3, none)] rfl (by simp [upT, up, upL, push_cast, ofTl, ofRl]) (by simp [upH, upR, upL, up, push_cast, ofTl, ofRl]) (by simp [namesOk, push_cast]) (by simp [olds])
      · rintro ⟨k, P, o⟩ ⟨hk, hX, hP0, hL0⟩
        simp only at hk hX hP0 hL0
        refine Nav.imp ?_
        refine awp_region cx [] fun K hK => ?_
        simp [push_cast, ofTl, ofRl]
        repeat (refine And.intro (by clear hK; intros; first | omega | (simp_all; done) | (simp_all <;> omega)) ?_)
        refine hK _ ?_; clear hK K; refine Nav.imp ?_
        refine awp_cond (b := decide ((k : Int) < s.length)) (by simp [push_cast]) (fun hb => ?_) (fun hb => ?_) <;> (refine Nav.imp ?_)
        · have hlt : k < s.length := by simpa using hb
          obtain ⟨c, hc⟩ := getq hlt
          have e0 := wrap_i64 (n := (k : Int) + 1) (by omega) (by omega)
          have hcg := onG_bd (hson c (List.mem_of_getElem? hc))
          have hnx : build (s.take (k + 1)) = addC (ofX P o) c := by rw [build_take hc, hX]
          have hsm := build_small (s.take k)
          rw [← hX] at hsm
          have hXl : (ofX P o).length ≤ 1000000 := by have := hsm.1; simp at this; omega
          have hXr : ∀ w ∈ ofX P o, w.runs.length ≤ 1000000 := fun w hw => by have := hsm.2 w hw; simp at this; omega
          clear hX hsm
          obtain ⟨x, y⟩ := c
          simp only at hcg
          have ex := wrap_i64 (n := x + 1) (by omega) (by omega)
          rcases o with _ | ⟨wy, L⟩
          · have hP := hP0 rfl
            subst hP
            simp only [ofX, addC_nil] at hnx
            refine awp_region cx [] fun K hK => ?_
            simp [push_cast, hc, ofTl, ofRl]
            repeat (refine And.intro (by clear hK; intros; first | omega | (simp_all; done) | (simp_all <;> omega)) ?_)
            refine hK _ ?_; clear hK K; refine Nav.imp ?_
            refine awp_region cx [] fun K hK => ?_
            simp [push_cast]
            repeat (refine And.intro (by clear hK; intros; first | omega | (simp_all; done) | (simp_all <;> omega)) ?_)
            refine hK _ ?_; clear hK K; refine Nav.imp ?_
            refine awp_region_draw cx mixed [] fun K hK => ?_
            simp [push_cast]
            repeat (refine And.intro (by clear hK; intros; first | omega | (simp_all; done) | (simp_all <;> omega)) ?_)
            refine hK _ _ (by kernel_rfl) ?_; clear hK K; refine Nav.imp ?_
            refine awp_cond (b := true) (by simp [push_cast]) (fun hb => ?_) (fun hb => ?_) <;> (refine Nav.imp ?_)
            · refine awp_region cx [] fun K hK => ?_
              simp [push_cast, ex]
              repeat (refine And.intro (by clear hK; intros; first | omega | (simp_all; done) | (simp_all <;> omega)) ?_)
              refine hK _ ?_; clear hK K; refine Nav.imp ?_
              refine awp_region cx [] fun K hK => ?_
              simp [push_cast, e0]
              repeat (refine And.intro (by clear hK; intros; first | omega | (simp_all; done) | (simp_all <;> omega)) ?_)
              refine hK _ ?_; clear hK K; refine Nav.imp ?_
              refine ⟨(k + 1, [], some (y, [⟨x, x + 1⟩])), ⟨hlt, hnx.symm, fun h => (by cases h), fun y L h => (by cases h; simp)⟩, by simp only; omega, ?_⟩
              refine weak_of [(0, some 0), (1, some 1), (2, some 40), (3, some 37)] rfl (by simp [upT, up, upL, push_cast, Row.row, Run.row, ofTl, ofRl]) (by simp [upH, upR, upL, up, push_cast, Row.row, Run.row, ofTl, ofRl]) (by simp [namesOk, push_cast]) (by simp [olds])
            · simp at hb
          · have hLne := hL0 wy L rfl
            simp only [ofX] at hnx hXl hXr
            rw [addC_end] at hnx
            have hLl := hXr ⟨wy, L⟩ (by simp)
            simp only at hnx hLl
            simp at hXl
            have hP32 : (P.length + 1 + 1) * 32 ≤ 140737488355328 := by omega
            have hL16 : (L.length + 1) * 16 ≤ 140737488355328 := by omega
            have hget : (dr (P.map Row.row) ++ [[AV.d (.int .i64 wy), AV.hs 3 0 L.length]])[P.length]? = some [AV.d (.int .i64 wy), AV.hs 3 0 L.length] := by
              rw [List.getElem?_append_right (by simp [dr])]; simp [dr]
            have hset : ∀ v, (dr (P.map Row.row) ++ [[AV.d (.int .i64 wy), AV.hs 3 0 L.length]]).set P.length v = dr (P.map Row.row) ++ [v] := fun v => by
              rw [List.set_append_right _ _ (by simp [dr])]; simp [dr]
            obtain ⟨A, hA⟩ : ∃ A, A = P ++ [(⟨wy, L⟩ : Row)] := ⟨_, rfl⟩
            have hfold : dr (P.map Row.row) ++ [[AV.d (.int .i64 wy), AV.d (.sl (L.map Run.row))]] = dr (A.map Row.row) := by rw [hA]; simp [dr, Row.row]
            have hAl : P.length + 1 = A.length := by rw [hA]; simp
            have e4 : ((P.length : Int) + 1 == 0) = false := by simp; omega
            have e6 := wrap_i64 (n := (P.length : Int)) (by omega) (by omega)
            refine awp_region cx [] fun K hK => ?_
            simp [push_cast, hc, ofTl, ofRl]
            repeat (refine And.intro (by clear hK; intros; first | omega | (simp_all; done) | (simp_all <;> omega)) ?_)
            refine hK _ ?_; clear hK K; refine Nav.imp ?_
            refine awp_region cx [] fun K hK => ?_
            simp [push_cast]
            repeat (refine And.intro (by clear hK; intros; first | omega | (simp_all; done) | (simp_all <;> omega)) ?_)
            refine hK _ ?_; clear hK K; refine Nav.imp ?_
            refine awp_region_draw cx mixed [] fun K hK => ?_
            simp [push_cast, hget, e4, e6]
            repeat (refine And.intro (by clear hK; intros; first | omega | (simp_all; done) | (simp_all <;> omega)) ?_)
            refine hK _ _ (by kernel_rfl) ?_; clear hK K; refine Nav.imp ?_
            refine awp_cond (b := wy != y) (by simp [push_cast, e4]) (fun hb => ?_) (fun hb => ?_) <;> (refine Nav.imp ?_)
            · have hb : ¬ wy = y := by simpa using hb
              rw [if_neg hb, ← hA] at hnx
              refine awp_freeze 3 (L.map Run.row) rfl (by simp [push_cast, hfold]) fun K hK => ?_
              simp [push_cast, St.fz, fzT, fzH, fzO, fz, fzL, fzR, fzR_dr, fzR_app, fzR_set, fzL_map, hfold]
              refine hK _ ?_; clear hK K; refine Nav.imp ?_
              rw [hAl] at hP32 ⊢
              clear hA hfold hget hset
              refine awp_region cx [] fun K hK => ?_
              simp [push_cast, ex, hP32]
              repeat (refine And.intro (by clear hK; intros; first | omega | (simp_all; done) | (simp_all <;> omega)) ?_)
              refine hK _ ?_; clear hK K; refine Nav.imp ?_
              refine awp_region cx [] fun K hK => ?_
              simp [push_cast, e0]
              repeat (refine And.intro (by clear hK; intros; first | omega | (simp_all; done) | (simp_all <;> omega)) ?_)
              refine hK _ ?_; clear hK K; refine Nav.imp ?_
              refine ⟨(k + 1, A, some (y, [⟨x, x + 1⟩])), ⟨hlt, hnx.symm, fun h => (by cases h), fun y L h => (by cases h; simp)⟩, by simp only; omega, ?_⟩
              refine weak_of [(0, some 0), (1, some 1), (2, some 40), (3, some 37)] rfl (by simp [upT, up, upL, push_cast, Row.row, Run.row, ofTl, ofRl]) (by simp [upH, upR, upL, up, push_cast, Row.row, Run.row, ofTl, ofRl]) (by simp [namesOk, push_cast]) (by simp [olds])
            · have hb : wy = y := by simpa using hb
              subst hb
              rw [if_pos rfl] at hnx
              obtain ⟨L', r, rfl⟩ : ∃ L' r, L = L' ++ [r] := by
                rcases List.eq_nil_or_concat L with e | ⟨L', r, e⟩
                · exact absurd e hLne
                · exact ⟨L', r, by rw [e, List.concat_eq_append]⟩
              have hadd := addRun_end L' r x
              obtain ⟨ra, rb⟩ := r
              simp only at hadd
              have hz : (L' ++ [(⟨ra, rb⟩ : Run)])[L'.length]? = some ⟨ra, rb⟩ := by simp
              have hlen : (L' ++ [(⟨ra, rb⟩ : Run)]).length = L'.length + 1 := by simp
              have hset2 : ∀ m : Int, (dr ((L' ++ [(⟨ra, rb⟩ : Run)]).map Run.row)).set L'.length [AV.d (.int .i64 ra), AV.d (.int .i64 m)] = dr ((L' ++ [(⟨ra, m⟩ : Run)]).map Run.row) := fun m => by
                simp [dr, Run.row]
              have hlen2 : ∀ m : Int, (L' ++ [(⟨ra, m⟩ : Run)]).length = (L' ++ [(⟨ra, rb⟩ : Run)]).length := fun m => by simp
              generalize hB : L' ++ [(⟨ra, rb⟩ : Run)] = B at *
              have e7 := wrap_i64 (n := (B.length : Int) - 1) (by omega) (by omega)
              have e8 : ((B.length : Int) - 1).toNat = L'.length := by omega
              have e9 : (0 : Int) ≤ (B.length : Int) - 1 := by omega
              refine awp_region cx [] fun K hK => ?_
              simp [push_cast, hget, e6]
              repeat (refine And.intro (by clear hK; intros; first | omega | (simp_all; done) | (simp_all <;> omega)) ?_)
              refine hK _ ?_; clear hK K; refine Nav.imp ?_
              refine awp_region_draw cx mixed [] fun K hK => ?_
              simp [push_cast, hget, hz, e7, e8, e9]
              repeat (refine And.intro (by clear hK; intros; first | omega | (simp_all; done) | (simp_all <;> omega)) ?_)
              refine hK _ _ (by kernel_rfl) ?_; clear hK K; refine Nav.imp ?_
              refine awp_region_draw cx mixed [] fun K hK => ?_
              simp [push_cast, hget, hz, Run.row]
              repeat (refine And.intro (by clear hK; intros; first | omega | (simp_all; done) | (simp_all <;> omega)) ?_)
              refine hK _ _ (by kernel_rfl) ?_; clear hK K; refine Nav.imp ?_
              refine awp_cond (b := decide (rb < x)) (by simp [push_cast]) (fun hb => ?_) (fun hb => ?_) <;> (refine Nav.imp ?_)
              · have hb : rb < x := by simpa using hb
                rw [if_pos hb] at hadd
                rw [hadd] at hnx
                refine awp_region_draw cx mixed [] fun K hK => ?_
                simp [push_cast, hget, ex, hL16, hset]
                repeat (refine And.intro (by clear hK; intros; first | omega | (simp_all; done) | (simp_all <;> omega)) ?_)
                refine hK _ _ (by kernel_rfl) ?_; clear hK K; refine Nav.imp ?_
                refine awp_region cx [] fun K hK => ?_
                simp [push_cast, e0]
                repeat (refine And.intro (by clear hK; intros; first | omega | (simp_all; done) | (simp_all <;> omega)) ?_)
                refine hK _ ?_; clear hK K; refine Nav.imp ?_
                refine ⟨(k + 1, P, some (wy, B ++ [(⟨x, x + 1⟩ : Run)])), ⟨hlt, hnx.symm, fun h => (by cases h), fun y L h => (by cases h; simp)⟩, by simp only; omega, ?_⟩
                refine weak_of [(0, some 0), (1, some 1), (2, some 2), (3, some 64)] rfl (by simp [upT, up, upL, push_cast, Row.row, Run.row, ofTl, ofRl]) (by simp [upH, upR, upL, up, push_cast, Row.row, Run.row, ofTl, ofRl]) (by simp [namesOk, push_cast]) (by simp [olds])
              · have hb : ¬ rb < x := by simpa using hb
                rw [if_neg hb] at hadd
                rw [hadd] at hnx
                have hne2 : L' ++ [(⟨ra, max rb (x + 1)⟩ : Run)] ≠ [] := by simp
                have hset2 := hset2 (max rb (x + 1))
                have hlen2 := hlen2 (max rb (x + 1))
                generalize L' ++ [(⟨ra, max rb (x + 1)⟩ : Run)] = C at *
                refine awp_region_draw cx mixed [] fun K hK => ?_
                simp [push_cast, hget, hz, ex, hset2, Run.row]
                repeat (refine And.intro (by clear hK; intros; first | omega | (simp_all; done) | (simp_all <;> omega)) ?_)
                refine hK _ _ (by kernel_rfl) ?_; clear hK K; refine Nav.imp ?_
                refine awp_region cx [] fun K hK => ?_
                simp [push_cast, e0]
                repeat (refine And.intro (by clear hK; intros; first | omega | (simp_all; done) | (simp_all <;> omega)) ?_)
                refine hK _ ?_; clear hK K; refine Nav.imp ?_
                rw [← hlen2]
                refine ⟨(k + 1, P, some (wy, C)), ⟨hlt, hnx.symm, fun h => (by cases h), fun y L h => (by cases h; exact hne2)⟩, by simp only; omega, ?_⟩
                refine weak_of [(0, some 0), (1, some 1), (2, some 2), (3, some 3)] rfl (by simp [upT, up, upL, push_cast, Row.row, Run.row, ofTl, ofRl]) (by simp [upH, upR, upL, up, push_cast, Row.row, Run.row, ofTl, ofRl]) (by simp [namesOk, push_cast]) (by simp [olds])
        · have hge : k = s.length := by simp at hb; omega
          subst hge
          rw [List.take_length] at hX
          rw [← hX]
          rcases o with _ | ⟨wy, L⟩
          · have hP := hP0 rfl
            subst hP
            simp only [ofX, ofTl, ofRl]
            refine awp_freeze 2 ([] : List (List D)) rfl (by simp [push_cast]) fun K hK => ?_
            simp [push_cast, St.fz, fzT, fzH, fzO, fz, fzL, fzR, fzR_dr, fzR_app, fzR_set, fzL_map]
            refine hK _ ?_; clear hK K; refine Nav.imp ?_
            refine awp_region cx [] fun K hK => ?_
            simp [push_cast]
            repeat (refine And.intro (by clear hK; intros; first | omega | (simp_all; done) | (simp_all <;> omega)) ?_)
            refine hK _ ?_; clear hK K; refine Nav.imp ?_
            simp [push_cast]
          · simp only [ofX, ofTl, ofRl]
            obtain ⟨A, hA⟩ : ∃ A, A = P ++ [(⟨wy, L⟩ : Row)] := ⟨_, rfl⟩
            have hfold : dr (P.map Row.row) ++ [[AV.d (.int .i64 wy), AV.d (.sl (L.map Run.row))]] = dr (A.map Row.row) := by rw [hA]; simp [dr, Row.row]
            have hAl : P.length + 1 = A.length := by rw [hA]; simp
            rw [← hA]
            refine awp_freeze 3 (L.map Run.row) rfl (by simp [push_cast, hfold]) fun K hK => ?_
            simp [push_cast, St.fz, fzT, fzH, fzO, fz, fzL, fzR, fzR_dr, fzR_app, fzR_set, fzL_map, hfold]
            refine hK _ ?_; clear hK K; refine Nav.imp ?_
            rw [hAl]
            clear hA hfold
            refine awp_freeze 2 (A.map Row.row) rfl (by simp [push_cast, Row.row]) fun K hK => ?_
            simp [push_cast, St.fz, fzT, fzH, fzO, fz, fzL, fzR, fzR_dr, fzR_app, fzR_set, fzL_map, Row.row]
            refine hK _ ?_; clear hK K; refine Nav.imp ?_
            refine awp_region cx [] fun K hK => ?_
            simp [push_cast]
            repeat (refine And.intro (by clear hK; intros; first | omega | (simp_all; done) | (simp_all <;> omega)) ?_)
            refine hK _ ?_; clear hK K; refine Nav.imp ?_
            simp [push_cast]
end Go.Proofs.Ytlfbjflfbjkbeaa

namespace Go.Proofs.Ytlfbjflfbjkbeaa
open Go.Abs

def lenN (l : List Run) : Nat := (l.flatMap (runCells 0)).length
theorem lenN_take {l : List Run} {k : Nat} {r : Run} (h : l[k]? = some r) : lenN (l.take (k + 1)) = lenN (l.take k) + (r.b - r.a).toNat := by
  unfold lenN
  rw [flat_take _ h, List.length_append, runCells_len]
theorem rowCells_len (w : Row) : (rowCells w).length = lenN w.runs := by
  unfold rowCells lenN
  rw [List.length_flatMap, List.length_flatMap]
  simp only [runCells_len]
theorem lenN_bound {l : List Run} (h : rvalid l = true) : ∀ k, k ≤ l.length → lenN (l.take k) ≤ k * 2097152
  | 0, _ => by simp [lenN]
  | k + 1, hk => by
    obtain ⟨r, hr⟩ := getq (show k < l.length by omega)
    have h1 := lenN_bound h k (by omega)
    have h2 := fitsB_bd (rvalid_at h hr).2
    rw [lenN_take hr, Nat.succ_mul]
    omega

theorem length_ok (l : List Run) (hl : l.length ≤ 1000000) (hv : rvalid l = true) : PC Try.prog 63 [encRuns l] (.p (.int .i64 (lenN l))) := by
  have c1 := rvalid_ok l hl
  rw [hv] at c1
  refine pc_of_awp cx (fn := Try.f63) (c := _) Try.func63 rfl rfl (Nat.le_of_ble_eq_true rfl) ?_
  rw [Try.ntmps63]; refine Nav.imp ?_
  refine awp_region cx [] fun K hK => ?_
  simp [push_cast]
  repeat (refine And.intro (by clear hK; intros; first | omega | (simp_all; done) | (simp_all <;> omega)) ?_)
  refine hK _ ?_; clear hK K; refine Nav.imp ?_
  refine awp_region cx [(1, .p (.bool true))] fun K hK => ?_
  simp [push_cast, c1]
  repeat (refine And.intro (by clear hK; intros; first | omega | (simp_all; done) | (simp_all <;> omega)) ?_)
  refine hK _ ?_; clear hK K; refine Nav.imp ?_
  refine awp_cond (b := false) (by simp [push_cast]) (fun hb => ?_) (fun hb => ?_) <;> (refine Nav.imp ?_)
  · simp at hb
  · refine awp_region cx [] fun K hK => ?_
    simp [push_cast]
    repeat (refine And.intro (by clear hK; intros; first | omega | (simp_all; done) | (simp_all <;> omega)) ?_)
    refine hK _ ?_; clear hK K; refine Nav.imp ?_
    refine awp_region cx [] fun K hK => ?_
    simp [push_cast]
    repeat (refine And.intro (by clear hK; intros; first | omega | (simp_all; done) | (simp_all <;> omega)) ?_)
    refine hK _ ?_; clear hK K; refine Nav.imp ?_
    refine awp_loop (β := Nat × Nat) (fun b => ⟨24, [(3, .d (.int .i64 b.2)), (9, .d (encRuns l)), (10, .d (.int .i64 l.length)), (11, .d (.int .i64 b.1))], [], 0⟩) (fun b => b.1 ≤ l.length ∧ b.2 = lenN (l.take b.1)) (fun b => l.length - b.1) (0, 0) ?_ ⟨Nat.zero_le _, by simp [lenN]⟩ ?_
    · refine weak_of [] rfl (by simp [upT, up, upL, push_cast]) (by simp [upH, upR, upL, up, push_cast]) (by simp [namesOk, push_cast]) (by simp [olds])
    · rintro ⟨k, n0⟩ ⟨hk, hn⟩
      simp only at hk hn
      refine Nav.imp ?_
      refine awp_region cx [] fun K hK => ?_
      simp [push_cast]
      repeat (refine And.intro (by clear hK; intros; first | omega | (simp_all; done) | (simp_all <;> omega)) ?_)
      refine hK _ ?_; clear hK K; refine Nav.imp ?_
      refine awp_cond (b := decide ((k : Int) < l.length)) (by simp [push_cast]) (fun hb => ?_) (fun hb => ?_) <;> (refine Nav.imp ?_)
      · have hlt : k < l.length := by simpa using hb
        obtain ⟨r, hr⟩ := getq hlt
        have hs := lenN_take hr
        have hbd := lenN_bound hv k (by omega)
        rw [← hn] at hs hbd
        have hrf := rvalid_at hv hr
        have hf := fitsB_bd hrf.2
        obtain ⟨ra, rb⟩ := r
        simp only at hs hrf hf
        have e0 := wrap_i64 (n := (k : Int) + 1) (by omega) (by omega)
        have e1 := wrap_i64 (n := rb - ra) (by omega) (by omega)
        have e2 := wrap_i64 (n := (n0 : Int) + (rb - ra)) (by omega) (by omega)
        have e3 : (n0 : Int) + (rb - ra) = (lenN (l.take (k + 1)) : Nat) := by rw [hs]; omega
        rw [e3] at e2
        generalize hn1 : lenN (l.take (k + 1)) = n1 at *
        refine awp_region cx [] fun K hK => ?_
        simp [push_cast, hr, Run.row]
        repeat (refine And.intro (by clear hK; intros; first | omega | (simp_all; done) | (simp_all <;> omega)) ?_)
        refine hK _ ?_; clear hK K; refine Nav.imp ?_
        refine awp_region cx [] fun K hK => ?_
        simp [push_cast, e1, e2, e3, Run.row]
        repeat (refine And.intro (by clear hK; intros; first | omega | (simp_all; done) | (simp_all <;> omega)) ?_)
        refine hK _ ?_; clear hK K; refine Nav.imp ?_
        refine awp_region cx [] fun K hK => ?_
        simp [push_cast, e0]
        repeat (refine And.intro (by clear hK; intros; first | omega | (simp_all; done) | (simp_all <;> omega)) ?_)
        refine hK _ ?_; clear hK K; refine Nav.imp ?_
        refine ⟨(k + 1, n1), ⟨hlt, hn1.symm⟩, by simp only; omega, ?_⟩
        refine weak_of [] rfl (by simp [upT, up, upL, push_cast]) (by simp [upH, upR, upL, up, push_cast]) (by simp [namesOk, push_cast]) (by simp [olds])
      · have hge : k = l.length := by simp at hb; omega
        subst hge
        rw [List.take_length] at hn
        subst hn
        refine awp_region cx [] fun K hK => ?_
        simp [push_cast]
        repeat (refine And.intro (by clear hK; intros; first | omega | (simp_all; done) | (simp_all <;> omega)) ?_)
        refine hK _ ?_; clear hK K; refine Nav.imp ?_
        simp [push_cast]

def countR (R : List Row) : Nat := if validR R then (regCells R).length else 0
theorem rows_bound {R : List Row} (h : validR R = true) (hR : smallR R) : ∀ i, i ≤ R.length → (rowsTo R i).length ≤ i * 2097152000000
  | 0, _ => by simp [rowsTo]
  | i + 1, hi => by
    obtain ⟨w, hw⟩ := getq (show i < R.length by omega)
    have h1 := rows_bound h hR i (by omega)
    have h2 := lenN_bound (fine_rv (validR_at h hw).2) w.runs.length (Nat.le_refl _)
    have h3 := hR.2 w (List.mem_of_getElem? hw)
    rw [rowsTo_next hw, List.length_append, rowCells_len, Nat.succ_mul]
    rw [List.take_length] at h2
    have := Nat.mul_le_mul_right 2097152 h3
    omega
theorem rows_big {R : List Row} (h : validR R = true) (hR : smallR R) {i : Nat} (hi : i ≤ R.length) : (rowsTo R i).length ≤ 2097152000000000000 := by
  have h1 := rows_bound h hR i hi
  have h2 := hR.1
  have := Nat.mul_le_mul_right 2097152000000 (show i ≤ 1000000 by omega)
  omega

theorem count_ok (R : List Row) (hR : smallR R) : PC Try.prog 41 [.agg (regRow R)] (.p (.int .i64 (countR R))) := by
  have c1 := valid_ok R hR
  have hl := hR.1
  have hC : countR R = if validR R then (regCells R).length else 0 := rfl
  generalize hv : validR R = v at *
  refine pc_of_awp cx (fn := Try.f41) (c := _) Try.func41 rfl rfl (Nat.le_of_ble_eq_true rfl) ?_
  rw [Try.ntmps41]; refine Nav.imp ?_
  refine awp_region cx [] fun K hK => ?_
  simp [push_cast]
  repeat (refine And.intro (by clear hK; intros; first | omega | (simp_all; done) | (simp_all <;> omega)) ?_)
  refine hK _ ?_; clear hK K; refine Nav.imp ?_
  refine awp_region cx [(1, .p (.bool v))] fun K hK => ?_
  simp [push_cast, c1]
  repeat (refine And.intro (by clear hK; intros; first | omega | (simp_all; done) | (simp_all <;> omega)) ?_)
  refine hK _ ?_; clear hK K; refine Nav.imp ?_
  refine awp_cond (b := !v) (by simp [push_cast]) (fun hb => ?_) (fun hb => ?_) <;> (refine Nav.imp ?_)
  · simp at hb
    rw [hC, hb]
    refine awp_region cx [] fun K hK => ?_
    simp [push_cast]
    repeat (refine And.intro (by clear hK; intros; first | omega | (simp_all; done) | (simp_all <;> omega)) ?_)
    refine hK _ ?_; clear hK K; refine Nav.imp ?_
    simp [push_cast]
  · simp at hb
    rw [hb] at hv hC
    rw [hC, if_pos rfl]
    clear hC
    refine awp_region cx [] fun K hK => ?_
    simp [push_cast]
    repeat (refine And.intro (by clear hK; intros; first | omega | (simp_all; done) | (simp_all <;> omega)) ?_)
    refine hK _ ?_; clear hK K; refine Nav.imp ?_
    refine awp_region cx [] fun K hK => ?_
    simp [push_cast]
    repeat (refine And.intro (by clear hK; intros; first | omega | (simp_all; done) | (simp_all <;> omega)) ?_)
    refine hK _ ?_; clear hK K; refine Nav.imp ?_
    refine awp_loop (β := Nat × Nat) (fun b => ⟨23, [(3, .d (.int .i64 b.2)), (10, .d (encRows R)), (11, .d (.int .i64 R.length)), (12, .d (.int .i64 b.1))], [], 0⟩) (fun b => b.1 ≤ R.length ∧ b.2 = (rowsTo R b.1).length) (fun b => R.length - b.1) (0, 0) ?_ ⟨Nat.zero_le _, by simp [rowsTo]⟩ ?_
    · refine weak_of [] rfl (by simp [upT, up, upL, push_cast]) (by simp [upH, upR, upL, up, push_cast]) (by simp [namesOk, push_cast]) (by simp [olds])
    · rintro ⟨k, n0⟩ ⟨hk, hn⟩
      simp only at hk hn
      refine Nav.imp ?_
      refine awp_region cx [] fun K hK => ?_
      simp [push_cast]
      repeat (refine And.intro (by clear hK; intros; first | omega | (simp_all; done) | (simp_all <;> omega)) ?_)
      refine hK _ ?_; clear hK K; refine Nav.imp ?_
      refine awp_cond (b := decide ((k : Int) < R.length)) (by simp [push_cast]) (fun hb => ?_) (fun hb => ?_) <;> (refine Nav.imp ?_)
      · have hlt : k < R.length := by simpa using hb
        obtain ⟨w, hw⟩ := getq hlt
        have hs : (rowsTo R (k + 1)).length = n0 + lenN w.runs := by rw [rowsTo_next hw, List.length_append, rowCells_len, hn]
        have hbd := rows_big hv hR (i := k + 1) hlt
        have c2 := length_ok w.runs (hR.2 w (List.mem_of_getElem? hw)) (fine_rv (validR_at hv hw).2)
        have e0 := wrap_i64 (n := (k : Int) + 1) (by omega) (by omega)
        have e2 := wrap_i64 (n := (n0 : Int) + (lenN w.runs : Nat)) (by omega) (by omega)
        have e3 : (n0 : Int) + (lenN w.runs : Nat) = ((rowsTo R (k + 1)).length : Nat) := by rw [hs]; omega
        rw [e3] at e2
        generalize hn1 : (rowsTo R (k + 1)).length = n1 at *
        obtain ⟨y, ru⟩ := w
        simp only at c2 e3
        generalize lenN ru = m at *
        refine awp_region cx [] fun K hK => ?_
        simp [push_cast, hw, Row.row]
        repeat (refine And.intro (by clear hK; intros; first | omega | (simp_all; done) | (simp_all <;> omega)) ?_)
        refine hK _ ?_; clear hK K; refine Nav.imp ?_
        refine awp_region cx [(3, .p (.int .i64 m))] fun K hK => ?_
        simp [push_cast, c2, e2, e3, Row.row]
        repeat (refine And.intro (by clear hK; intros; first | omega | (simp_all; done) | (simp_all <;> omega)) ?_)
        refine hK _ ?_; clear hK K; refine Nav.imp ?_
        refine awp_region cx [] fun K hK => ?_
        simp [push_cast, e0]
        repeat (refine And.intro (by clear hK; intros; first | omega | (simp_all; done) | (simp_all <;> omega)) ?_)
        refine hK _ ?_; clear hK K; refine Nav.imp ?_
        refine ⟨(k + 1, n1), ⟨hlt, hn1.symm⟩, by simp only; omega, ?_⟩
        refine weak_of [] rfl (by simp [upT, up, upL, push_cast]) (by simp [upH, upR, upL, up, push_cast]) (by simp [namesOk, push_cast]) (by simp [olds])
      · have hge : k = R.length := by simp at hb; omega
        subst hge
        rw [rowsTo_all] at hn
        subst hn
        refine awp_region cx [] fun K hK => ?_
        simp [push_cast]
        repeat (refine And.intro (by clear hK; intros; first | omega | (simp_all; done) | (simp_all <;> omega)) ?_)
        refine hK _ ?_; clear hK K; refine Nav.imp ?_
        simp [push_cast]



def smallB (R : List Row) : Bool := decide (R.length ≤ 40) && R.all (fun w => decide (w.runs.length ≤ 40)) && decide (countR R ≤ 600)
end Go.Proofs.Ytlfbjflfbjkbeaa

namespace Go.Proofs.Ytlfbjflfbjkbeaa
open Go.Abs

section
variable {a b : List Row} (ha : validR a = true) (hb : validR b = true) (c : Cell)
include ha hb
theorem opU_iff : c ∈ regCells (opR fU a b) ↔ c ∈ regCells a ∨ c ∈ regCells b := by
  have h := (opR_facts (f := fU) rfl ha hb).2 c
  have e : ∀ x y, fU x y = (x || y) := fun _ _ => rfl
  rw [e] at h
  rw [← decide_eq_true_iff (p := c ∈ regCells (opR fU a b)), h]
  simp
end
theorem valid_empty {R : List Row} (hv : validR R = true) (h : ∀ c, c ∉ regCells R) : R = [] := region_uniq hv rfl fun c => ⟨fun hc => absurd hc (h c), fun hc => by simp [regCells] at hc⟩
end Go.Proofs.Ytlfbjflfbjkbeaa

namespace Go.Proofs.Ytlfbjflfbjkbeaa
open Go.Abs

theorem one_valid {c : Cell} (h : onG c = true) : validR [⟨c.y, [⟨c.x, c.x + 1⟩]⟩] = true ∧ ∀ d, d ∈ regCells [⟨c.y, [⟨c.x, c.x + 1⟩]⟩] ↔ d = c := by
  obtain ⟨x, y⟩ := c
  have hg := onG_bd h
  simp only at hg
  constructor
  · simp [validR, rowAt, okB, fine, fnAt, List.range_succ]
    omega
  · rintro ⟨a, b⟩
    rw [mem_regCells]
    simp
    omega
theorem set_region : ∀ {l : List Cell}, (∀ c ∈ l, onG c = true) → ∃ R, validR R = true ∧ ∀ c, c ∈ regCells R ↔ c ∈ l
  | [], _ => ⟨[], rfl, fun c => by simp [regCells]⟩
  | c :: l, h => by
    obtain ⟨R, h1, h2⟩ := set_region (l := l) fun d hd => h d (by simp [hd])
    obtain ⟨h3, h4⟩ := one_valid (h c (by simp))
    refine ⟨opR fU [⟨c.y, [⟨c.x, c.x + 1⟩]⟩] R, (opR_facts rfl h3 h1).1, fun d => ?_⟩
    rw [opU_iff h3 h1, h4, h2, List.mem_cons]
theorem of_set {l : List Cell} (hn : l.Nodup) (hon : ∀ c ∈ l, onG c = true) : validR (ofR l) = true ∧ (∀ c, c ∈ regCells (ofR l) ↔ c ∈ l) ∧ (regCells (ofR l)).length = l.length := by
  obtain ⟨R, h1, h2⟩ := set_region hon
  have hp : l.Perm (regCells R) := (List.perm_ext_iff_of_nodup hn (nodup_of_ltY (cells_pw h1))).2 fun c => (h2 c).symm
  have e : ofR l = R := by
    unfold ofR
    rw [if_pos (List.all_eq_true.2 hon), sortY_cells h1 hp, build_cells h1]
  rw [e]
  exact ⟨h1, h2, hp.length_eq.symm⟩
def xc (c : Cell) : Cell := ⟨c.y, c.x⟩
def turnR (R : List Row) : List Row := ofR ((regCells R).map xc)
def anch (H : List Row) (y : Int) (q : Run) : Bool := decide ((⟨q.a - 1, y⟩ : Cell) ∈ regCells H) && decide ((⟨q.b, y⟩ : Cell) ∈ regCells H)
def spanRun (H : List Row) (y : Int) (q : Run) : List (List Cell) := if anch H y q then [runCells y q] else []
def spanRow (H : List Row) (w : Row) : List (List Cell) := w.runs.flatMap (spanRun H w.y)
def spanR (D H : List Row) : List (List Cell) := D.flatMap (spanRow H)
def spansL (r b : List Row) : List (List Cell) := spanR (opR fD r b) (opR fI r b)
def spansU (r b : List Row) (up : Bool) : List (List Cell) := if up then (spansL (turnR r) (turnR b)).map (·.map xc) else spansL r b
def coverR (L : List (List Cell)) : List Row := ofR L.flatten

theorem cells_le {a b : List Row} (ha : validR a = true) (hb : validR b = true) (h : ∀ x, x ∈ regCells a → x ∈ regCells b) : (regCells a).length ≤ (regCells b).length := by
  have e : regCells a = (regCells b).filter fun c => decide (c ∈ regCells a) := ltY_uniq (cells_pw ha) ((cells_pw hb).filter _) fun c => by
    rw [List.mem_filter, decide_eq_true_eq]
    exact ⟨fun hc => ⟨h c hc, hc⟩, fun hc => hc.2⟩
  rw [e]
  exact List.length_filter_le _ _
end Go.Proofs.Ytlfbjflfbjkbeaa

namespace Go.Proofs.Ytlfbjflfbjkbeaa
open Go.Abs

theorem den_dr (l : List (List D)) : List.map (fun r => List.map den r) (dr l) = dr l := by
  induction l with
  | nil => rfl
  | cons r l ih =>
    rw [dr_cons, List.map_cons, ih, List.map_map]
    congr 1
theorem weak_den {s : St} (id : Nat) {o : Ob} (ho : s.obj id = some o) (hom : Nat.beq o.m mapM = false) : Weak s { s with hp := (id, some ⟨o.elem, o.m, o.rows.map (fun r => r.map den)⟩) :: s.hp } := by
  refine (fun g a w hr => ⟨g, ⟨hr.defers, hr.size, hr.tmp, hr.used, ⟨fun x o' hx => ?_, fun x hx => ?_, hr.heap.live, hr.heap.inj, hr.heap.ro⟩⟩, Step.refl g w⟩)
  · simp only [St.obj, find] at hx
    split at hx
    · rename_i e
      subst e
      cases hx
      obtain ⟨L, hL, hok⟩ := hr.heap.own id o ho
      refine ⟨L, hL, hok.m, hok.pos, by simpa using hok.len, fun hv => by simp [hok.virt hv], fun hv => ?_, fun hv => by have := (hok.ents hv).1; rw [← hok.m, this] at hom; cases hom⟩
      obtain ⟨cur, c1, c2, c3, c5⟩ := hok.cells hv
      refine ⟨cur, c1, c2, c3, fun i row hi => ?_⟩
      simp only [List.getElem?_map, Option.map_eq_some_iff] at hi
      obtain ⟨r0, hr0, rfl⟩ := hi
      obtain ⟨d1, d2⟩ := c5 i r0 hr0
      refine ⟨by simpa using d1, fun j av hj => ?_⟩
      simp only [List.getElem?_map, Option.map_eq_some_iff] at hj
      obtain ⟨a0, ha0, rfl⟩ := hj
      obtain ⟨v, q1, q2, q3⟩ := d2 j a0 ha0
      exact ⟨v, q1, q2, den_rep q3⟩
    · exact hr.heap.own x o' hx
  · simp only [St.obj, find] at hx
    split at hx
    · cases hx
    · exact hr.heap.gone x hx
abbrev Bench.wav (b : Bench) (c : Cell) (l : Int) (x : AV) : List AV := [.d (.int .i64 b.real.p), .d (.int .i64 b.real.q), .d (.int .i64 b.real.r), .d (.int .i64 b.real.s), .d (.int .i64 b.t0), .d (.int .i64 b.t1), .d (.int .i64 b.pw0), .d (.int .i64 b.ls0), .d (.int .i64 b.ms0), .d (.int .i64 b.am0), .d (.int .i64 b.pw1), .d (.int .i64 b.ls1), .d (.int .i64 b.ms1), .d (.int .i64 b.am1), .d (.int .i64 b.filament), .d (.int .i64 b.drawn), .d (.int .i64 b.dry), x, .d (.int .i64 b.hits), .d (.bool b.door), .d (.bool b.k0), .d (.bool b.k1), .d (.int .i64 c.x), .d (.int .i64 c.y), .d (.int .i64 l)]
theorem grid_ok (c : Cell) : PC Try.prog 72 [.agg c.row] (.p (.bool (onG c))) := by
  refine pc_of_awp cx (fn := Try.f72) (c := _) Try.func72 rfl rfl (Nat.le_of_ble_eq_true rfl) ?_
  rw [Try.ntmps72]; refine Nav.imp ?_
  refine awp_region cx [] fun K hK => ?_
  simp [push_cast]
  repeat (refine And.intro (by clear hK; intros; first | omega | (simp_all; done) | (simp_all <;> omega)) ?_)
  refine hK _ ?_; clear hK K; refine Nav.imp ?_
  refine awp_region cx [] fun K hK => ?_
  simp [push_cast]
  repeat (refine And.intro (by clear hK; intros; first | omega | (simp_all; done) | (simp_all <;> omega)) ?_)
  refine hK _ ?_; clear hK K; refine Nav.imp ?_
  simp [push_cast, onG]
def layL (L : List (List Row)) (n : Nat) (c : Cell) : List (List Row) := (L ++ List.replicate (n + 1 - L.length) []).set n (opR fU ((L ++ List.replicate (n + 1 - L.length) []).getD n []) (ofR [c]))
def layOk (l : Int) (c : Cell) : Bool := decide (0 ≤ l) && decide (l < 256) && onG c
def layF (L : List (List Row)) (l : Int) (c : Cell) : List (List Row) := if layOk l c then layL L l.toNat c else L
theorem layL_len {L : List (List Row)} {n : Nat} {c : Cell} : (layL L n c).length = if L.length ≤ n then n + 1 else L.length := by
  unfold layL
  simp only [List.length_set, List.length_append, List.length_replicate]
  split <;> omega
set_option maxHeartbeats 4000000 in
theorem lay_px (b : Bench) (c : Cell) (l : Int) (L : List (List Row)) (hL : ∀ R ∈ L, validR R = true) (hl : L.length ≤ 256) :
    PX Try.prog 55 [.ptr 0 0 0] [(0, ⟨75, 25, [b.wav c l (.hs 1 0 L.length)]⟩), (1, ⟨56, 1, dr (L.map regRow)⟩)] [(0, 0)] [(0, ⟨75, 25, [b.wav c l (.hs 1 0 (layF L l c).length)]⟩), (1, ⟨56, 1, dr ((layF L l c).map regRow)⟩)] (.tup []) := by
  have c1 := grid_ok c
  have hok : layOk l c = (!(decide (l < 0) || decide (256 ≤ l) || !onG c)) := by
    unfold layOk
    have h1 : decide (0 ≤ l) = !decide (l < 0) := by rw [Bool.eq_iff_iff]; simp
    have h2 : decide (l < 256) = !decide (256 ≤ l) := by rw [Bool.eq_iff_iff]; simp
    rw [h1, h2]; simp
  have hF : layF L l c = if layOk l c then layL L l.toNat c else L := rfl
  generalize hg : onG c = og at *
  generalize layF L l c = F at *
  refine px_of_awp cx (fn := Try.f55) (c := _) 2 Try.func55 rfl rfl (Nat.le_of_ble_eq_true rfl) rfl rfl fun Ls => ?_
  rw [Try.ntmps55]; refine Nav.imp ?_
  refine awp_region cx [(17, .p (.bool og))] fun K hK => ?_
  simp [push_cast, c1, Cell.row]
  repeat (refine And.intro (by clear hK; intros; first | omega | (simp_all; done) | (simp_all <;> omega)) ?_)
  refine hK _ ?_; clear hK K; refine Nav.imp ?_
  refine awp_cond (b := !layOk l c) (by simp [push_cast, hok]) (fun hb => ?_) (fun hb => ?_) <;> (refine Nav.imp ?_)
  · have hf : layOk l c = false := by simpa using hb
    rw [hf, if_neg (by simp)] at hF
    subst hF
    first | refine rx_r [(0, 0), (1, 1)] ?_ | refine rx_n [(0, 0), (1, 1)] ?_
    simp [push_cast]
    try decide
  · have hf : layOk l c = true := by simpa using hb
    rw [hf, if_pos rfl] at hF
    have hf2 := hf
    rw [hok] at hf2
    have hl0 : 0 ≤ l ∧ l < 256 ∧ og = true := by
      simp at hf2; exact ⟨by omega, by omega, hf2.2⟩
    clear hok
    obtain ⟨n, rfl⟩ : ∃ n : Nat, l = n := ⟨l.toNat, by omega⟩
    rw [show ((n : Int)).toNat = n by omega] at hF
    refine awp_loop (β := List (List Row) × Nat) (fun s => ⟨79, [(0, .ptr 0 0 0), (79, .pin 0 (Ls 0))], [(0, some ⟨75, 25, [b.wav c n (.hs 1 0 s.1.length)]⟩), (1, some ⟨56, 1, dr (s.1.map regRow)⟩)], 2⟩) (fun s => s.1 = L ++ List.replicate s.2 [] ∧ (s.2 = 0 ∨ s.1.length ≤ n + 1)) (fun s => n + 1 - s.1.length) (L, 0) ?_ ⟨by simp, .inl rfl⟩ ?_
    · refine weak_of [(0, some 0), (1, some 1)] rfl (by simp [upT, up, upL, push_cast]) (by simp [upH, upR, upL, up, push_cast]) (by simp [namesOk, push_cast]) (by simp [olds])
    · rintro ⟨M, k⟩ ⟨hM, hk⟩
      simp only at hM hk
      have hMl : M.length ≤ 257 := by
        rcases hk with h | h
        · subst h; rw [hM]; simp; omega
        · omega
      refine Nav.imp ?_
      refine awp_region_draw cx mixed [] fun K hK => ?_
      simp [push_cast]
      repeat (refine And.intro (by clear hK; intros; first | omega | (simp_all; done) | (simp_all <;> omega)) ?_)
      refine hK _ _ (by kernel_rfl) ?_; clear hK K; refine Nav.imp ?_
      refine awp_cond (b := decide (M.length ≤ n)) (by simp [push_cast]) (fun hb => ?_) (fun hb => ?_) <;> (refine Nav.imp ?_)
      · have hlt : M.length ≤ n := by simpa using hb
        have h24 : (M.length + 1) * 24 ≤ 140737488355328 := by omega
        refine awp_region cx [] fun K hK => ?_
        simp [push_cast, h24]
        repeat (refine And.intro (by clear hK; intros; first | omega | (simp_all; done) | (simp_all <;> omega)) ?_)
        refine hK _ ?_; clear hK K; refine Nav.imp ?_
        refine ⟨(M ++ [[]], k + 1), ⟨by simp only; rw [hM, List.append_assoc, ← List.replicate_succ'], .inr (by simp; omega)⟩, by simp; omega, ?_⟩
        refine Weak.trans (weak_den 21 rfl rfl) ?_
        simp [push_cast, den, den_dr]
        refine weak_of [(0, some 0), (1, some 21)] rfl (by simp [upT, up, upL, push_cast]) (by simp [upH, upR, upL, up, push_cast]) (by simp [namesOk, push_cast]) (by simp [olds])
      · have hge : ¬ M.length ≤ n := by simpa using hb
        have c2 := of_ok [c] (by simp)
        have hD : ofD [c] = .tup [.agg (regRow (ofR [c])), .int .i64 0] := by simp [ofE, hg, hl0.2.2]
        rw [hD] at c2
        obtain ⟨Q, hQ⟩ := getq (show n < M.length by omega)
        have hQv : validR Q = true := by
          rw [hM] at hQ
          rw [List.getElem?_append] at hQ
          split at hQ
          · exact hL Q (List.mem_of_getElem? hQ)
          · have := List.mem_of_getElem? hQ
            rw [List.mem_replicate] at this
            rw [this.2]; rfl
        have hOv : validR (ofR [c]) = true := (of_set (l := [c]) (by simp) (by simp [hg, hl0.2.2])).1
        have c3 := unionR_ok Q (ofR [c]) (small_valid hQv) (small_valid hOv)
        have hFM : F = M.set n (opR fU Q (ofR [c])) := by
          rw [hF]; unfold layL
          have hp : L ++ List.replicate (n + 1 - L.length) [] = M := by
            rw [hM]
            congr 2
            rcases hk with h | h
            · subst h
              rw [hM] at hge
              simp at hge
              omega
            · rw [hM] at h hge
              simp at h hge
              omega
          rw [hp]
          congr 2
          rw [List.getD_eq_getElem?_getD, hQ]; rfl
        have hFl : F.length = M.length := by rw [hFM]; simp
        generalize ofR [c] = O at *
        generalize opR fU Q O = U at *
        refine awp_region cx [(4, .f (encCells [c])), (5, .p (.tup [.agg (regRow O), .int .i64 0]))] fun K hK => ?_
        simp [push_cast, c2, Cell.row]
        repeat (refine And.intro (by clear hK; intros; first | omega | (simp_all; done) | (simp_all <;> omega)) ?_)
        refine hK _ ?_; clear hK K; refine Nav.imp ?_
        refine awp_region_draw cx mixed [(21, .p (.agg (regRow U)))] fun K hK => ?_
        simp [push_cast, hQ, c3]
        repeat (refine And.intro (by clear hK; intros; first | omega | (simp_all; done) | (simp_all <;> omega)) ?_)
        refine hK _ _ (by kernel_rfl) ?_; clear hK K; refine Nav.imp ?_
        have hFr : dr (F.map regRow) = (dr (M.map regRow)).set n [AV.d (encRows U)] := by
          rw [hFM, List.map_set, dr_set]; rfl
        rw [← hFr]
        clear hFr
        first | refine rx_r [(0, 0), (1, 1)] ?_ | refine rx_n [(0, 0), (1, 1)] ?_
        simp [push_cast, hFl]
        try decide
end Go.Proofs.Ytlfbjflfbjkbeaa

namespace Go.Proofs.Ytlfbjflfbjkbeaa
open Go.Abs

def extB (b : Bench) (c : Cell) (l : Int) (by_ : Int) : Bench :=
  if by_ < 0 then { b with drawn := b.drawn + 1 } else if by_ = 0 then b else if 0 < b.drawn then { b with drawn := b.drawn - 1 } else if 0 < b.filament then { b with filament := b.filament - 1, lays := layF b.lays l c } else { b with dry := b.dry + 1 }
def cntB (n : Int) : Bool := decide (0 ≤ n) && decide (n ≤ 1099511627776)
set_option maxHeartbeats 4000000 in
theorem extrude_px (b : Bench) (c : Cell) (l : Int) (by_ : Int) (hL : ∀ R ∈ b.lays, validR R = true) (hl : b.lays.length ≤ 256) (h1 : cntB b.filament = true) (h2 : cntB b.drawn = true) (h3 : cntB b.dry = true) :
    PX Try.prog 30 [.ptr 0 0 0, .d (.int .i64 by_)] [(0, ⟨75, 25, [b.wav c l (.hs 1 0 b.lays.length)]⟩), (1, ⟨56, 1, dr (b.lays.map regRow)⟩)] [(0, 0)] [(0, ⟨75, 25, [(extB b c l by_).wav c l (.hs 1 0 (extB b c l by_).lays.length)]⟩), (1, ⟨56, 1, dr ((extB b c l by_).lays.map regRow)⟩)] (.tup []) := by
  simp [cntB] at h1 h2 h3
  have hE : extB b c l by_ = if by_ < 0 then { b with drawn := b.drawn + 1 } else if by_ = 0 then b else if 0 < b.drawn then { b with drawn := b.drawn - 1 } else if 0 < b.filament then { b with filament := b.filament - 1, lays := layF b.lays l c } else { b with dry := b.dry + 1 } := rfl
  generalize extB b c l by_ = B at *
  have w1 := wrap_i64 (n := b.drawn + 1) (by omega) (by omega)
  have w2 := wrap_i64 (n := b.drawn - 1) (by omega) (by omega)
  have w3 := wrap_i64 (n := b.filament - 1) (by omega) (by omega)
  have w4 := wrap_i64 (n := b.dry + 1) (by omega) (by omega)
  by_cases q1 : by_ < 0
  · rw [if_pos q1] at hE
    subst hE
    refine px_of_awp cx (fn := Try.f30) (c := _) 2 Try.func30 rfl rfl (Nat.le_of_ble_eq_true rfl) rfl rfl fun Ls => ?_
    rw [Try.ntmps30]; refine Nav.imp ?_
    refine awp_region cx [] fun K hK => ?_
    simp [push_cast]
    repeat (refine And.intro (by clear hK; intros; first | omega | (simp_all; done) | (simp_all <;> omega)) ?_)
    refine hK _ ?_; clear hK K; refine Nav.imp ?_
    refine awp_cond (b := true) (by simp [push_cast, q1]) (fun hb => ?_) (fun hb => ?_) <;> (refine Nav.imp ?_)
    · refine awp_region cx [] fun K hK => ?_
      simp [push_cast, w1]
      repeat (refine And.intro (by clear hK; intros; first | omega | (simp_all; done) | (simp_all <;> omega)) ?_)
      refine hK _ ?_; clear hK K; refine Nav.imp ?_
      first | refine rx_r [(0, 0), (1, 1)] ?_ | refine rx_n [(0, 0), (1, 1)] ?_
      simp [push_cast]
      try decide
    · simp at hb
  rw [if_neg q1] at hE
  by_cases q2 : by_ = 0
  · rw [if_pos q2] at hE
    subst hE
    subst q2
    refine px_of_awp cx (fn := Try.f30) (c := _) 2 Try.func30 rfl rfl (Nat.le_of_ble_eq_true rfl) rfl rfl fun Ls => ?_
    rw [Try.ntmps30]; refine Nav.imp ?_
    refine awp_region cx [] fun K hK => ?_
    simp [push_cast]
    repeat (refine And.intro (by clear hK; intros; first | omega | (simp_all; done) | (simp_all <;> omega)) ?_)
    refine hK _ ?_; clear hK K; refine Nav.imp ?_
    refine awp_cond (b := false) (by simp [push_cast]) (fun hb => ?_) (fun hb => ?_) <;> (refine Nav.imp ?_)
    · simp at hb
    · refine awp_region cx [] fun K hK => ?_
      simp [push_cast]
      repeat (refine And.intro (by clear hK; intros; first | omega | (simp_all; done) | (simp_all <;> omega)) ?_)
      refine hK _ ?_; clear hK K; refine Nav.imp ?_
      refine awp_cond (b := true) (by simp [push_cast]) (fun hb => ?_) (fun hb => ?_) <;> (refine Nav.imp ?_)
      · first | refine rx_r [(0, 0), (1, 1)] ?_ | refine rx_n [(0, 0), (1, 1)] ?_
        simp [push_cast]
        try decide
      · simp at hb
  rw [if_neg q2] at hE
  have q2' : (by_ == 0) = false := by simp; exact q2
  by_cases q3 : 0 < b.drawn
  · rw [if_pos q3] at hE
    subst hE
    refine px_of_awp cx (fn := Try.f30) (c := _) 2 Try.func30 rfl rfl (Nat.le_of_ble_eq_true rfl) rfl rfl fun Ls => ?_
    rw [Try.ntmps30]; refine Nav.imp ?_
    refine awp_region cx [] fun K hK => ?_
    simp [push_cast]
    repeat (refine And.intro (by clear hK; intros; first | omega | (simp_all; done) | (simp_all <;> omega)) ?_)
    refine hK _ ?_; clear hK K; refine Nav.imp ?_
    refine awp_cond (b := false) (by simp [push_cast, q1]) (fun hb => ?_) (fun hb => ?_) <;> (refine Nav.imp ?_)
    · simp at hb
    · refine awp_region cx [] fun K hK => ?_
      simp [push_cast]
      repeat (refine And.intro (by clear hK; intros; first | omega | (simp_all; done) | (simp_all <;> omega)) ?_)
      refine hK _ ?_; clear hK K; refine Nav.imp ?_
      refine awp_cond (b := false) (by simp [push_cast, q2']) (fun hb => ?_) (fun hb => ?_) <;> (refine Nav.imp ?_)
      · simp at hb
      · refine awp_region cx [] fun K hK => ?_
        simp [push_cast]
        repeat (refine And.intro (by clear hK; intros; first | omega | (simp_all; done) | (simp_all <;> omega)) ?_)
        refine hK _ ?_; clear hK K; refine Nav.imp ?_
        refine awp_cond (b := true) (by simp [push_cast, q3]) (fun hb => ?_) (fun hb => ?_) <;> (refine Nav.imp ?_)
        · refine awp_region cx [] fun K hK => ?_
          simp [push_cast, w2]
          repeat (refine And.intro (by clear hK; intros; first | omega | (simp_all; done) | (simp_all <;> omega)) ?_)
          refine hK _ ?_; clear hK K; refine Nav.imp ?_
          first | refine rx_r [(0, 0), (1, 1)] ?_ | refine rx_n [(0, 0), (1, 1)] ?_
          simp [push_cast]
          try decide
        · simp at hb
  rw [if_neg q3] at hE
  by_cases q4 : 0 < b.filament
  · rw [if_pos q4] at hE
    have c1 := lay_px { b with filament := b.filament - 1 } c l b.lays hL hl
    subst hE
    generalize layF b.lays l c = F at *
    refine px_of_awp cx (fn := Try.f30) (c := _) 2 Try.func30 rfl rfl (Nat.le_of_ble_eq_true rfl) rfl rfl fun Ls => ?_
    rw [Try.ntmps30]; refine Nav.imp ?_
    refine awp_region cx [] fun K hK => ?_
    simp [push_cast]
    repeat (refine And.intro (by clear hK; intros; first | omega | (simp_all; done) | (simp_all <;> omega)) ?_)
    refine hK _ ?_; clear hK K; refine Nav.imp ?_
    refine awp_cond (b := false) (by simp [push_cast, q1]) (fun hb => ?_) (fun hb => ?_) <;> (refine Nav.imp ?_)
    · simp at hb
    · refine awp_region cx [] fun K hK => ?_
      simp [push_cast]
      repeat (refine And.intro (by clear hK; intros; first | omega | (simp_all; done) | (simp_all <;> omega)) ?_)
      refine hK _ ?_; clear hK K; refine Nav.imp ?_
      refine awp_cond (b := false) (by simp [push_cast, q2']) (fun hb => ?_) (fun hb => ?_) <;> (refine Nav.imp ?_)
      · simp at hb
      · refine awp_region cx [] fun K hK => ?_
        simp [push_cast]
        repeat (refine And.intro (by clear hK; intros; first | omega | (simp_all; done) | (simp_all <;> omega)) ?_)
        refine hK _ ?_; clear hK K; refine Nav.imp ?_
        refine awp_cond (b := false) (by simp [push_cast, q3]) (fun hb => ?_) (fun hb => ?_) <;> (refine Nav.imp ?_)
        · simp at hb
        · refine awp_region cx [] fun K hK => ?_
          simp [push_cast]
          repeat (refine And.intro (by clear hK; intros; first | omega | (simp_all; done) | (simp_all <;> omega)) ?_)
          refine hK _ ?_; clear hK K; refine Nav.imp ?_
          refine awp_cond (b := true) (by simp [push_cast, q4]) (fun hb => ?_) (fun hb => ?_) <;> (refine Nav.imp ?_)
          · refine awp_region cx [] fun K hK => ?_
            simp [push_cast, w3]
            repeat (refine And.intro (by clear hK; intros; first | omega | (simp_all; done) | (simp_all <;> omega)) ?_)
            refine hK _ ?_; clear hK K; refine Nav.imp ?_
            refine awp_region cx [(1, .x ⟨[(0, 0), (1, 1)], [.ptr 0 0 0], [(0, ⟨75, 25, [Bench.wav { b with filament := b.filament - 1 } c l (.hs 1 0 b.lays.length)]⟩), (1, ⟨56, 1, dr (b.lays.map regRow)⟩)], [(0, 0)], some 1, [(0, ⟨75, 25, [Bench.wav { b with filament := b.filament - 1 } c l (.hs 1 0 F.length)]⟩), (1, ⟨56, 1, dr (F.map regRow)⟩)], .tup []⟩)] fun K hK => ?_
            simp [push_cast, c1]
            repeat (refine And.intro (by clear hK; intros; first | omega | (simp_all; done) | (simp_all <;> omega)) ?_)
            refine hK _ ?_; clear hK K; refine Nav.imp ?_
            first | refine rx_r [(0, 0), (1, 33)] ?_ | refine rx_n [(0, 0), (1, 33)] ?_
            simp [push_cast]
            try decide
          · simp at hb
  rw [if_neg q4] at hE
  subst hE
  refine px_of_awp cx (fn := Try.f30) (c := _) 2 Try.func30 rfl rfl (Nat.le_of_ble_eq_true rfl) rfl rfl fun Ls => ?_
  rw [Try.ntmps30]; refine Nav.imp ?_
  refine awp_region cx [] fun K hK => ?_
  simp [push_cast]
  repeat (refine And.intro (by clear hK; intros; first | omega | (simp_all; done) | (simp_all <;> omega)) ?_)
  refine hK _ ?_; clear hK K; refine Nav.imp ?_
  refine awp_cond (b := false) (by simp [push_cast, q1]) (fun hb => ?_) (fun hb => ?_) <;> (refine Nav.imp ?_)
  · simp at hb
  · refine awp_region cx [] fun K hK => ?_
    simp [push_cast]
    repeat (refine And.intro (by clear hK; intros; first | omega | (simp_all; done) | (simp_all <;> omega)) ?_)
    refine hK _ ?_; clear hK K; refine Nav.imp ?_
    refine awp_cond (b := false) (by simp [push_cast, q2']) (fun hb => ?_) (fun hb => ?_) <;> (refine Nav.imp ?_)
    · simp at hb
    · refine awp_region cx [] fun K hK => ?_
      simp [push_cast]
      repeat (refine And.intro (by clear hK; intros; first | omega | (simp_all; done) | (simp_all <;> omega)) ?_)
      refine hK _ ?_; clear hK K; refine Nav.imp ?_
      refine awp_cond (b := false) (by simp [push_cast, q3]) (fun hb => ?_) (fun hb => ?_) <;> (refine Nav.imp ?_)
      · simp at hb
      · refine awp_region cx [] fun K hK => ?_
        simp [push_cast]
        repeat (refine And.intro (by clear hK; intros; first | omega | (simp_all; done) | (simp_all <;> omega)) ?_)
        refine hK _ ?_; clear hK K; refine Nav.imp ?_
        refine awp_cond (b := false) (by simp [push_cast, q4]) (fun hb => ?_) (fun hb => ?_) <;> (refine Nav.imp ?_)
        · simp at hb
        · refine awp_region cx [] fun K hK => ?_
          simp [push_cast, w4]
          repeat (refine And.intro (by clear hK; intros; first | omega | (simp_all; done) | (simp_all <;> omega)) ?_)
          refine hK _ ?_; clear hK K; refine Nav.imp ?_
          first | refine rx_r [(0, 0), (1, 1)] ?_ | refine rx_n [(0, 0), (1, 1)] ?_
          simp [push_cast]
          try decide

def aboveB (L : List (List Row)) (s : Nat) (c : Cell) : Bool := (L.drop s).any fun R => conB R c
def hitF (b : Bench) (c : Cell) (l by_ : Int) : Bench := if by_ = 0 then b else if aboveB b.lays (l + 1).toNat c then { b with hits := b.hits + 1 } else b
set_option maxHeartbeats 4000000 in
theorem hit_px (b : Bench) (c : Cell) (l : Int) (by_ : Int) (hl0 : -1 ≤ l ∧ l ≤ 4611686018427387905) (hL : ∀ R ∈ b.lays, smallR R) (hl : b.lays.length ≤ 256) (h1 : cntB b.hits = true) :
    PX Try.prog 31 [.ptr 0 0 0, .d (.int .i64 by_)] [(0, ⟨75, 25, [b.wav c l (.hs 1 0 b.lays.length)]⟩), (1, ⟨56, 1, dr (b.lays.map regRow)⟩)] [(0, 0)] [(0, ⟨75, 25, [(hitF b c l by_).wav c l (.hs 1 0 (hitF b c l by_).lays.length)]⟩), (1, ⟨56, 1, dr ((hitF b c l by_).lays.map regRow)⟩)] (.tup []) := by
  simp [cntB] at h1
  have hE : hitF b c l by_ = if by_ = 0 then b else if aboveB b.lays (l + 1).toNat c then { b with hits := b.hits + 1 } else b := rfl
  generalize hitF b c l by_ = B at *
  have w1 := wrap_i64 (n := b.hits + 1) (by omega) (by omega)
  have w2 := wrap_i64 (n := l + 1) (by omega) (by omega)
  by_cases q : by_ = 0
  · rw [if_pos q] at hE
    subst hE
    subst q
    refine px_of_awp cx (fn := Try.f31) (c := _) 2 Try.func31 rfl rfl (Nat.le_of_ble_eq_true rfl) rfl rfl fun Ls => ?_
    rw [Try.ntmps31]; refine Nav.imp ?_
    refine awp_region cx [] fun K hK => ?_
    simp [push_cast]
    repeat (refine And.intro (by clear hK; intros; first | omega | (simp_all; done) | (simp_all <;> omega)) ?_)
    refine hK _ ?_; clear hK K; refine Nav.imp ?_
    refine awp_cond (b := true) (by simp [push_cast]) (fun hb => ?_) (fun hb => ?_) <;> (refine Nav.imp ?_)
    · first | refine rx_r [(0, 0), (1, 1)] ?_ | refine rx_n [(0, 0), (1, 1)] ?_
      simp [push_cast]
      try decide
    · simp at hb
  have q' : (by_ == 0) = false := by simp; exact q
  rw [if_neg q] at hE
  obtain ⟨s, hs⟩ : ∃ s : Nat, l + 1 = s := ⟨(l + 1).toNat, by omega⟩
  have hmx : (if (0 : Int) < (s : Int) then (s : Int) else 0) = s := by split <;> omega
  rw [hs] at hE w2
  rw [show ((s : Int)).toNat = s by omega] at hE
  refine px_of_awp cx (fn := Try.f31) (c := _) 2 Try.func31 rfl rfl (Nat.le_of_ble_eq_true rfl) rfl rfl fun Ls => ?_
  rw [Try.ntmps31]; refine Nav.imp ?_
  refine awp_region cx [] fun K hK => ?_
  simp [push_cast]
  repeat (refine And.intro (by clear hK; intros; first | omega | (simp_all; done) | (simp_all <;> omega)) ?_)
  refine hK _ ?_; clear hK K; refine Nav.imp ?_
  refine awp_cond (b := false) (by simp [push_cast, q']) (fun hb => ?_) (fun hb => ?_) <;> (refine Nav.imp ?_)
  · simp at hb
  · refine awp_region cx [] fun K hK => ?_
    simp [push_cast, w2, hs]
    repeat (refine And.intro (by clear hK; intros; first | omega | (simp_all; done) | (simp_all <;> omega)) ?_)
    refine hK _ ?_; clear hK K; refine Nav.imp ?_
    refine awp_loop (β := Nat) (fun i => ⟨45, [(0, .ptr 0 0 0), (4, .d (.int .i64 i)), (45, .pin 0 (Ls 0))], [(0, some ⟨75, 25, [b.wav c l (.hs 1 0 b.lays.length)]⟩), (1, some ⟨56, 1, dr (b.lays.map regRow)⟩)], 2⟩) (fun i => aboveB b.lays s c = aboveB b.lays i c ∧ (i = s ∨ i ≤ 256)) (fun i => b.lays.length - i) s ?_ ⟨rfl, .inl rfl⟩ ?_
    · refine weak_of [(0, some 0), (1, some 1)] rfl (by simp [upT, up, upL, push_cast]) (by simp [upH, upR, upL, up, push_cast]) (by simp [namesOk, push_cast]) (by simp [olds])
    · rintro i ⟨hi, hi2⟩
      refine Nav.imp ?_
      refine awp_region cx [] fun K hK => ?_
      simp [push_cast]
      repeat (refine And.intro (by clear hK; intros; first | omega | (simp_all; done) | (simp_all <;> omega)) ?_)
      refine hK _ ?_; clear hK K; refine Nav.imp ?_
      refine awp_cond (b := decide (i < b.lays.length)) (by simp [push_cast]) (fun hb => ?_) (fun hb => ?_) <;> (refine Nav.imp ?_)
      · have hlt : i < b.lays.length := by simpa using hb
        obtain ⟨R, hR⟩ := getq hlt
        have c1 := contains_ok R c (hL R (List.mem_of_getElem? hR))
        have e0 := wrap_i64 (n := (i : Int) + 1) (by omega) (by omega)
        have hst : aboveB b.lays i c = (conB R c || aboveB b.lays (i + 1) c) := by
          unfold aboveB
          rw [drop_get hR]; rfl
        cases hc : conB R c with
        | true =>
          rw [hc] at c1 hst
          rw [hi, hst, if_pos (by simp)] at hE
          subst hE
          refine awp_region_draw cx mixed [(12, .p (.bool true))] fun K hK => ?_
          simp [push_cast, hR, c1, Cell.row]
          repeat (refine And.intro (by clear hK; intros; first | omega | (simp_all; done) | (simp_all <;> omega)) ?_)
          refine hK _ _ (by kernel_rfl) ?_; clear hK K; refine Nav.imp ?_
          refine awp_cond (b := true) (by simp [push_cast]) (fun hb => ?_) (fun hb => ?_) <;> (refine Nav.imp ?_)
          · refine awp_region cx [] fun K hK => ?_
            simp [push_cast, w1]
            repeat (refine And.intro (by clear hK; intros; first | omega | (simp_all; done) | (simp_all <;> omega)) ?_)
            refine hK _ ?_; clear hK K; refine Nav.imp ?_
            first | refine rx_r [(0, 0), (1, 1)] ?_ | refine rx_n [(0, 0), (1, 1)] ?_
            simp [push_cast]
            try decide
          · simp at hb
        | false =>
          rw [hc] at c1 hst
          rw [Bool.false_or] at hst
          refine awp_region_draw cx mixed [(12, .p (.bool false))] fun K hK => ?_
          simp [push_cast, hR, c1, Cell.row]
          repeat (refine And.intro (by clear hK; intros; first | omega | (simp_all; done) | (simp_all <;> omega)) ?_)
          refine hK _ _ (by kernel_rfl) ?_; clear hK K; refine Nav.imp ?_
          refine awp_cond (b := false) (by simp [push_cast]) (fun hb => ?_) (fun hb => ?_) <;> (refine Nav.imp ?_)
          · simp at hb
          · refine awp_region cx [] fun K hK => ?_
            simp [push_cast, e0]
            repeat (refine And.intro (by clear hK; intros; first | omega | (simp_all; done) | (simp_all <;> omega)) ?_)
            refine hK _ ?_; clear hK K; refine Nav.imp ?_
            refine ⟨i + 1, ⟨hi.trans hst, .inr (by omega)⟩, by omega, ?_⟩
            refine weak_of [(0, some 0), (1, some 1)] rfl (by simp [upT, up, upL, push_cast]) (by simp [upH, upR, upL, up, push_cast]) (by simp [namesOk, push_cast]) (by simp [olds])
      · have hge : ¬ i < b.lays.length := by simpa using hb
        have h0 : aboveB b.lays i c = false := by
          unfold aboveB
          rw [List.drop_eq_nil_of_le (by omega)]; rfl
        rw [hi, h0, if_neg (by simp)] at hE
        subst hE
        first | refine rx_r [(0, 0), (1, 1)] ?_ | refine rx_n [(0, 0), (1, 1)] ?_
        simp [push_cast]
        try decide
end Go.Proofs.Ytlfbjflfbjkbeaa
