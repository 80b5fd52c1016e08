/-
  Texts of this seat put together: T3, T4, T5, AbsS, S1, T6, S5, G2.
-/
import Derived.Test.YtgicofpllopjmaaDoorJ5
import Derived.Test.YtgicofpllopjmaaDoorJ3
import Derived.Test.YtgicofpllopjmaaDoorJ4
import Derived.Shelf.SlSortCmp.NoneTotal
import Derived.Lib.QuietBelow
import Derived.Test.YtgicofpllopjmaaDoorChecked
import Derived.Deep.RegionHeld3
import Derived.Deep.DrawnRows
set_option linter.unusedVariables false
set_option linter.unusedSimpArgs false
set_option maxRecDepth 100000
namespace Go.Proofs.YtgicofpllopjmaaDoor
open Go.Abs

end Go.Proofs.YtgicofpllopjmaaDoor

namespace Go.Proofs.YtgicofpllopjmaaDoor
open Go.Abs

def ofR (l : List Cell) : List Row := if l.all onG then build (sortY l) else []
def ofE (l : List Cell) : Int := if l.all onG then 0 else 8
abbrev ofD (l : List Cell) : D := .tup [.agg (regRow (ofR l)), .int .i64 (ofE l)]

theorem addC_small {R : List Row} {n : Nat} (c : Cell) (h1 : R.length ≤ n) (h2 : ∀ w ∈ R, w.runs.length ≤ n) : (addC R c).length ≤ n + 1 ∧ ∀ w ∈ addC R c, w.runs.length ≤ n + 1 := by
  refine ⟨Nat.le_trans (addC_len R c) (by omega), fun w hw => ?_⟩
  rcases List.eq_nil_or_concat R with rfl | ⟨P, v, rfl⟩
  · rw [addC_nil] at hw; simp at hw; subst hw; simp
  · rw [List.concat_eq_append] at *
    rw [addC_end] at hw
    split at hw
    · rcases List.mem_append.1 hw with hw | hw
      · have := h2 w (by simp [hw]); omega
      · simp at hw
        subst hw
        have hv := h2 v (by simp)
        simp only
        rcases List.eq_nil_or_concat v.runs with e | ⟨L, r, e⟩
        · rw [e, addRun_nil]; simp
        · rw [List.concat_eq_append] at e
          rw [e] at hv ⊢
          rw [addRun_end]
          split <;> simp at hv ⊢ <;> omega
    · rcases List.mem_append.1 hw with hw | hw
      · have := h2 w hw; omega
      · simp at hw; subst hw; simp
theorem build_small (l : List Cell) : (build l).length ≤ l.length ∧ ∀ w ∈ build l, w.runs.length ≤ l.length := by
  have : ∀ k, k ≤ l.length → (build (l.take k)).length ≤ k ∧ ∀ w ∈ build (l.take k), w.runs.length ≤ k := by
    intro k
    induction k with
    | zero => intro _; simp [build]
    | succ k ih =>
      intro hk
      obtain ⟨c, hc⟩ := getq (show k < l.length by omega)
      rw [build_take hc]
      have := ih (by omega)
      exact addC_small c this.1 this.2
  have := this l.length (Nat.le_refl _)
  rwa [List.take_length] at this

end Go.Proofs.YtgicofpllopjmaaDoor

namespace Go.Proofs.YtgicofpllopjmaaDoor
open Go.Abs

set_option maxHeartbeats 1000000 in
theorem rsame_ok (a b : List Row) (ha : smallR a) : PC Tryd.prog 13 [.agg (regRow a), .agg (regRow b)] (.p (.bool (decide (a = b)))) := by
  have hal := ha.1
  refine pc_of_awp cx (fn := Tryd.f13) (c := _) Tryd.func13 rfl rfl (Nat.le_of_ble_eq_true rfl) ?_
  rw [Tryd.ntmps13]; refine Nav.imp ?_
  refine awp_region cx [] fun K hK => ?_
  simp [push_cast]
  repeat (refine And.intro (by clear hK; intros; first | omega | (simp_all; done) | (simp_all <;> omega)) ?_)
  refine hK _ ?_; clear hK K; refine Nav.imp ?_
  refine awp_region cx [] fun K hK => ?_
  simp [push_cast]
  repeat (refine And.intro (by clear hK; intros; first | omega | (simp_all; done) | (simp_all <;> omega)) ?_)
  refine hK _ ?_; clear hK K; refine Nav.imp ?_
  refine awp_cond (by simp [push_cast] <;> exact rfl) (fun hb => ?_) (fun hb => ?_) <;> (refine Nav.imp ?_)
  · simp at hb
    have hne : a ≠ b := by intro e; subst e; simp at hb
    refine awp_region cx [] fun K hK => ?_
    simp [push_cast]
    repeat (refine And.intro (by clear hK; intros; first | omega | (simp_all; done) | (simp_all <;> omega)) ?_)
    refine hK _ ?_; clear hK K; refine Nav.imp ?_
    simp [push_cast, hne]
  · have hlen : a.length = b.length := by simp at hb; omega
    clear hb
    refine awp_region cx [] fun K hK => ?_
    simp [push_cast]
    repeat (refine And.intro (by clear hK; intros; first | omega | (simp_all; done) | (simp_all <;> omega)) ?_)
    refine hK _ ?_; clear hK K; refine Nav.imp ?_
    refine awp_loop (β := Nat) (fun k => ⟨65, [(2, .ptr 0 0 0), (3, .ptr 1 0 0), (5, .d (.int .i64 k))], [(0, some ⟨24, 1, [(regRow a).map .d]⟩), (1, some ⟨24, 1, [(regRow b).map .d]⟩)], 2⟩) (fun k => k ≤ a.length ∧ a.take k = b.take k) (fun k => a.length - k) 0 ?_ ⟨Nat.zero_le _, by simp⟩ ?_
    · refine weak_of [(0, some 0), (1, some 1)] rfl (by simp [upT, up, upL, push_cast]) (by simp [upH, upR, upL, up, push_cast]) (by simp [namesOk, push_cast]) (by simp [olds])
    · rintro k ⟨hk, hpre⟩
      refine Nav.imp ?_
      refine awp_region cx [] fun K hK => ?_
      simp [push_cast]
      repeat (refine And.intro (by clear hK; intros; first | omega | (simp_all; done) | (simp_all <;> omega)) ?_)
      refine hK _ ?_; clear hK K; refine Nav.imp ?_
      refine awp_cond (b := decide ((k : Int) < a.length)) (by simp [push_cast]) (fun hb => ?_) (fun hb => ?_) <;> (refine Nav.imp ?_)
      · have hlt : k < a.length := by simpa using hb
        obtain ⟨x, hx⟩ := getq hlt
        obtain ⟨y, hy⟩ : ∃ y, b[k]? = some y := getq (by omega)
        have e0 := wrap_i64 (n := (k : Int) + 1) (by omega) (by omega)
        have hxl := ha.2 x (List.mem_of_getElem? hx)
        have hno : x ≠ y → a ≠ b := fun h e => by
          subst e
          rw [hx] at hy
          exact h (Option.some.inj hy)
        obtain ⟨xy, xr⟩ := x
        obtain ⟨yy, yr⟩ := y
        simp only at hxl
        refine awp_region_draw cx mixed [] fun K hK => ?_
        simp [push_cast, hx, hy, Row.row]
        repeat (refine And.intro (by clear hK; intros; first | omega | (simp_all; done) | (simp_all <;> omega)) ?_)
        refine hK _ _ (by kernel_rfl) ?_; clear hK K; refine Nav.imp ?_
        refine awp_region cx [] fun K hK => ?_
        simp [push_cast, Row.row]
        repeat (refine And.intro (by clear hK; intros; first | omega | (simp_all; done) | (simp_all <;> omega)) ?_)
        refine hK _ ?_; clear hK K; refine Nav.imp ?_
        refine awp_cond (by simp [push_cast] <;> exact rfl) (fun hb => ?_) (fun hb => ?_) <;> (refine Nav.imp ?_)
        · have hn : a ≠ b := hno (by rintro ⟨⟩; simp at hb)
          refine awp_region cx [] fun K hK => ?_
          simp [push_cast]
          repeat (refine And.intro (by clear hK; intros; first | omega | (simp_all; done) | (simp_all <;> omega)) ?_)
          refine hK _ ?_; clear hK K; refine Nav.imp ?_
          simp [push_cast, hn]
        · simp at hb
          obtain ⟨hy0, hl0⟩ := hb
          have hl0 : xr.length = yr.length := by omega
          subst hy0
          refine awp_region cx [] fun K hK => ?_
          simp [push_cast]
          repeat (refine And.intro (by clear hK; intros; first | omega | (simp_all; done) | (simp_all <;> omega)) ?_)
          refine hK _ ?_; clear hK K; refine Nav.imp ?_
          refine awp_loop (β := Nat) (fun j => ⟨65, [(2, .ptr 0 0 0), (3, .ptr 1 0 0), (5, .d (.int .i64 k)), (6, .ptr 2 0 0), (7, .ptr 3 0 0), (8, .d (.int .i64 j))], [(0, some ⟨24, 1, [(regRow a).map .d]⟩), (1, some ⟨24, 1, [(regRow b).map .d]⟩), (2, some ⟨40, 2, [(Row.row ⟨xy, xr⟩).map .d]⟩), (3, some ⟨40, 2, [(Row.row ⟨xy, yr⟩).map .d]⟩)], 4⟩) (fun j => j ≤ xr.length ∧ xr.take j = yr.take j) (fun j => xr.length - j) 0 ?_ ⟨Nat.zero_le _, by simp⟩ ?_
          · refine weak_of [(0, some 0), (1, some 1), (2, some 17), (3, some 18)] rfl (by simp [upT, up, upL, push_cast, Row.row]) (by simp [upH, upR, upL, up, push_cast, Row.row]) (by simp [namesOk, push_cast]) (by simp [olds])
          · rintro j ⟨hj, hpr⟩
            refine Nav.imp ?_
            refine awp_region cx [] fun K hK => ?_
            simp [push_cast, Row.row]
            repeat (refine And.intro (by clear hK; intros; first | omega | (simp_all; done) | (simp_all <;> omega)) ?_)
            refine hK _ ?_; clear hK K; refine Nav.imp ?_
            refine awp_cond (b := decide ((j : Int) < xr.length)) (by simp [push_cast]) (fun hb => ?_) (fun hb => ?_) <;> (refine Nav.imp ?_)
            · have hjl : j < xr.length := by simpa using hb
              obtain ⟨p, hp⟩ := getq hjl
              obtain ⟨q, hq⟩ : ∃ y, yr[j]? = some y := getq (by omega)
              have e1 := wrap_i64 (n := (j : Int) + 1) (by omega) (by omega)
              have hn2 : p ≠ q → a ≠ b := fun h => hno fun e => by
                injection e with _ e2
                subst e2
                rw [hp] at hq
                exact h (Option.some.inj hq)
              obtain ⟨pa, pb⟩ := p
              obtain ⟨qa, qb⟩ := q
              refine awp_region_draw cx mixed [] fun K hK => ?_
              simp [push_cast, hp, hq, Row.row, Run.row]
              repeat (refine And.intro (by clear hK; intros; first | omega | (simp_all; done) | (simp_all <;> omega)) ?_)
              refine hK _ _ (by kernel_rfl) ?_; clear hK K; refine Nav.imp ?_
              refine awp_cond (by simp [push_cast] <;> exact rfl) (fun hb => ?_) (fun hb => ?_) <;> (refine Nav.imp ?_)
              · have hn : a ≠ b := hn2 (by rintro ⟨⟩; simp at hb)
                refine awp_region cx [] fun K hK => ?_
                simp [push_cast]
                repeat (refine And.intro (by clear hK; intros; first | omega | (simp_all; done) | (simp_all <;> omega)) ?_)
                refine hK _ ?_; clear hK K; refine Nav.imp ?_
                simp [push_cast, hn]
              · simp at hb
                obtain ⟨h1, h2⟩ := hb
                subst h1 h2
                refine awp_region cx [] fun K hK => ?_
                simp [push_cast, e1]
                repeat (refine And.intro (by clear hK; intros; first | omega | (simp_all; done) | (simp_all <;> omega)) ?_)
                refine hK _ ?_; clear hK K; refine Nav.imp ?_
                refine ⟨j + 1, ⟨hjl, take_eq_step hpr hp hq rfl⟩, by omega, ?_⟩
                refine weak_of [(0, some 0), (1, some 1), (2, some 2), (3, some 3)] rfl (by simp [upT, up, upL, push_cast, Row.row]) (by simp [upH, upR, upL, up, push_cast, Row.row]) (by simp [namesOk, push_cast]) (by simp [olds])
            · have hjn : j = xr.length := by simp at hb; omega
              subst hjn
              rw [List.take_length, hl0, List.take_length] at hpr
              subst hpr
              refine awp_region cx [] fun K hK => ?_
              simp [push_cast, e0]
              repeat (refine And.intro (by clear hK; intros; first | omega | (simp_all; done) | (simp_all <;> omega)) ?_)
              refine hK _ ?_; clear hK K; refine Nav.imp ?_
              refine ⟨k + 1, ⟨hlt, take_eq_step hpre hx hy rfl⟩, by omega, ?_⟩
              refine weak_of [(0, some 0), (1, some 1)] rfl (by simp [upT, up, upL, push_cast]) (by simp [upH, upR, upL, up, push_cast]) (by simp [namesOk, push_cast]) (by simp [olds])
      · have hge : k = a.length := by simp at hb; omega
        subst hge
        rw [List.take_length, hlen, List.take_length] at hpre
        refine awp_region cx [] fun K hK => ?_
        simp [push_cast]
        repeat (refine And.intro (by clear hK; intros; first | omega | (simp_all; done) | (simp_all <;> omega)) ?_)
        refine hK _ ?_; clear hK K; refine Nav.imp ?_
        simp [push_cast, hpre]
end Go.Proofs.YtgicofpllopjmaaDoor

set_option linter.unusedSectionVars false
namespace Go.Abs
variable [Flag]
open Go.Shelf Go.RowKit Go.Lib Go.Sort Go.Proofs

theorem sorted_uniq {α : Type} (le : α → α → Prop) : ∀ (l l' : List α), l.Perm l' → l.Pairwise le → l'.Pairwise le → (∀ a ∈ l, ∀ b ∈ l, le a b → le b a → a = b) → l = l'
  | [], l', h, _, _, _ => by have := h.length_eq; simp at this; exact (List.length_eq_zero_iff.1 this.symm).symm
  | a :: l, [], h, _, _, _ => by have := h.length_eq; simp at this
  | a :: l, b :: l', h, h1, h2, h3 => by
    have hab : a = b := by
      have ha : a ∈ b :: l' := h.subset (by simp)
      have hb : b ∈ a :: l := h.symm.subset (by simp)
      rcases List.mem_cons.1 ha with e | ha
      · exact e
      · rcases List.mem_cons.1 hb with e | hb
        · exact e.symm
        · exact h3 a (by simp) b (by simp [hb]) ((List.pairwise_cons.1 h1).1 b hb) ((List.pairwise_cons.1 h2).1 a ha)
    subst hab
    rw [sorted_uniq le l l' h.cons_inv (List.pairwise_cons.1 h1).2 (List.pairwise_cons.1 h2).2 (fun x hx y hy => h3 x (by simp [hx]) y (by simp [hy]))]

def CmpOk (P : Program) (cg : FuncId) (V : List D → Prop) (cf : List D → List D → Int) : Prop :=
  ∀ (ro : Nat → Prop) (w : World) (a b : List D) (va vb : List Value), (∀ blk, ro blk → blk < w.heap.size) → V a → V b → RepDs ro w a va → RepDs ro w b vb → OneCells va → OneCells vb →
    Calls P cg #[.agg va.toArray, .agg vb.toArray] w fun e w' => e = .returned (.int .i64 (cf a b)) ∧ ∃ q os, w' = grow (w.drewN q) os

structure CmpOrd (V : List D → Prop) (cf : List D → List D → Int) : Prop where
  irrefl : ∀ a, V a → ¬ cf a a < 0
  trans : ∀ a b c, V a → V b → V c → cf a b < 0 → cf b c < 0 → cf a c < 0
  ntrans : ∀ a b c, V a → V b → V c → ¬ cf a b < 0 → ¬ cf b c < 0 → ¬ cf a c < 0

section
variable (ro : Nat → Prop) (w : World) (V : List D → Prop) (k : Nat)
def Elt : Type := { x : List D × List Value // V x.1 ∧ x.2.length = k ∧ OneCells x.2 ∧ RepDs ro w x.1 x.2 }
def Elt.enc (x : Elt ro w V k) : List Value := x.1.2
end

theorem heap_sort {α : Type} [Inhabited α] (enc : α → List Value) (k : Nat) (w : World) (blk m : Nat) (d : Array α) (os : Array Obj) {b : Nat} (hb : b < w.heap.size) (hne : b ≠ blk) : (sortWorldK enc k w blk 0 m d os).heap[b]? = w.heap[b]? := by
  unfold sortWorldK
  rw [heap_grow_old _ _ (by simpa [putRowK] using hb)]
  simp only [putRowK, putRow, mapBlock, heap_ahead]
  rw [Array.getElem?_modify, if_neg (fun h => hne h.symm)]

theorem heap_sort_blk {α : Type} [Inhabited α] (enc : α → List Value) (k : Nat) (w : World) (blk m : Nat) (d : Array α) (os : Array Obj) {cur : Array Value} {e : TypeId} {fr : Nat × Nat} (h : w.heap[blk]? = some (.cells cur e fr)) : (sortWorldK enc k w blk 0 m d os).heap[blk]? = some (.cells (Go.Sort.putCells id 0 (flatK enc k d) cur) e fr) := by
  have hb : blk < w.heap.size := (Array.getElem?_eq_some_iff.1 h).1
  unfold sortWorldK
  rw [heap_grow_old _ _ (by simpa [putRowK] using hb)]
  simp only [putRowK, putRow, mapBlock, heap_ahead]
  rw [Array.getElem?_modify, if_pos rfl, h]
  rfl

theorem size_sort {α : Type} [Inhabited α] (enc : α → List Value) (k : Nat) (w : World) (blk m : Nat) (d : Array α) (os : Array Obj) : w.heap.size ≤ (sortWorldK enc k w blk 0 m d os).heap.size := by
  unfold sortWorldK
  rw [size_grow]
  simp [putRowK]

theorem drawn_sort {α : Type} [Inhabited α] (enc : α → List Value) (k : Nat) (w : World) (blk m : Nat) (d : Array α) (os : Array Obj) : w.drawn ≤ (sortWorldK enc k w blk 0 m d os).drawn := by
  simp [sortWorldK, putRowK, grow, putRow, mapBlock, ahead]

theorem cmp_of_pc {P : Program} {cg : FuncId} {V : List D → Prop} {cf : List D → List D → Int} (h : ∀ a b, V a → V b → PC P cg [.agg a, .agg b] (.p (.int .i64 (cf a b)))) (hF : ¬ Flag.p := by exact fun h => h) : CmpOk P cg V cf := by
  intro ro w a b va vb hro ha hb ra rb oa ob
  refine ((h a b ha hb).2 ro w [.agg va.toArray, .agg vb.toArray] hro ?_).mono ?_
  · simp only [RepDs, RepD]
    exact ⟨_, _, rfl, ⟨va, rfl, oa, ra⟩, _, _, rfl, ⟨vb, rfl, ob, rb⟩, rfl⟩
  · rintro e w' ⟨v, he, hB, hr⟩
    simp only [RepRes, RepD] at hr
    refine ⟨by rw [he, hr], ?_⟩
    obtain ⟨p, hp⟩ := regrown_of_below hB.kit
    have hd : w'.drawn = w.drawn + (w'.drawn - w.drawn) := by have := hB.tape.2.resolve_left hF; omega
    refine ⟨w'.drawn - w.drawn, p.os, ?_⟩
    have hpd : p.d = w'.drawn := by rw [hp]; rfl
    rw [hp]
    simp only [grow, redrawn, World.drewN]
    rw [hp] at hd
    simp only [grow, redrawn] at hd
    congr 1

theorem cmp_lays {P : Program} {cg : FuncId} {V : List D → Prop} {cf : List D → List D → Int} (hc : CmpOk P cg V cf) {ro : Nat → Prop} {w : World} {k blk size : Nat} (hro : ∀ b, ro b → b < w.heap.size ∧ b ≠ blk) [Inhabited (Elt ro w V k)] :
    CmpLays P cg #[] (Elt.enc ro w V k) k (fun x y => cf x.1.1 y.1.1) blk 0 size w := by
  intro m os dk _ x y
  have hf : Fut ro w ro (sortWorldK (Elt.enc ro w V k) k w blk 0 m dk os) := fun b hb => ⟨hb, heap_sort _ _ _ _ _ _ _ (hro b hb).1 (hro b hb).2⟩
  obtain ⟨hx1, _, ox, hx2⟩ := x.2
  obtain ⟨hy1, _, oy, hy2⟩ := y.2
  have := hc ro (sortWorldK (Elt.enc ro w V k) k w blk 0 m dk os) x.1.1 y.1.1 x.1.2 y.1.2 (fun b hb => Nat.lt_of_lt_of_le (hro b hb).1 (size_sort _ _ _ _ _ _ _)) hx1 hy1 (RepDs.mono hf _ _ hx2) (RepDs.mono hf _ _ hy2) ox oy
  simpa [Elt.enc] using this

theorem sortFunc_px {P : Program} {ρ : Ren} (L : SlLaysF0.n6 P ρ) {k : Nat} (hk0 : 0 < k) (aE : ∀ w, (isAgg (ρ.t 24)).run P w = .ok true w) (zE : ∀ w, (Go.sizeOf (ρ.t 24)).run P w = .ok k w) (hent : Enters P (ρ.f 6)) {cg : FuncId}
    (eg : ∀ args w, (callFunc cg args).run P w = .ok (.enter cg args) w) {V : List D → Prop} {cf : List D → List D → Int} (hc : CmpOk P cg V cf) (hO : CmpOrd V cf) (e : TypeId) {rows rows' : List (List D)} (hV : ∀ r ∈ rows, V r)
    (hanti : ∀ a ∈ rows, ∀ b ∈ rows, ¬ cf b a < 0 → ¬ cf a b < 0 → a = b) (hp : rows'.Perm rows) (hs : rows'.Pairwise fun a b => ¬ cf b a < 0) (hn : 0 < rows.length) (hsz : rows.length < 4611686018427387904) (fv : AV)
    (hfv : ∀ g w v, RepA g w fv v → v = .func (.func cg) #[] #[]) :
    PX P (ρ.f 6) [.hs 0 0 rows.length, fv] [(0, ⟨e, k, dr rows⟩)] [(0, 0)] [(0, ⟨e, k, dr rows'⟩)] (.tup []) := by
  refine ⟨hent, fun g w vs h hu hvs => ?_⟩
  simp only [RepAs] at hvs
  obtain ⟨v0, _, rfl, h0, v1, _, rfl, h1, rfl⟩ := hvs
  have e1 := hfv g w v1 h1
  obtain ⟨L0, hL, hok⟩ := h.own 0 ⟨e, k, dr rows⟩ (by simp [objL, find])
  have hkm : L0.m = k := hok.m
  have hlenr : (dr rows).length = rows.length := by simp [dr]
  have hvirt : L0.virt = false := by
    cases hv : L0.virt with
    | false => rfl
    | true =>
      have h2 : (dr rows).length = 0 := by rw [show dr rows = [] from hok.virt hv]; rfl
      omega
  simp only [RepA] at h0
  have hflat : L0.virt = false ∧ L0.map = false := by
    rcases h0.2 L0 hL with ⟨hv, _⟩ | ⟨hv, _⟩
    · rw [hvirt] at hv; cases hv
    · exact hv
  have hvm := hflat.2
  obtain ⟨cur, hR, hcs, hcap, hrows⟩ := hok.cells hflat
  have hR' := hR
  obtain ⟨el0, fr0, hblk, hx1, hx2⟩ := hR'
  have e0 : v0 = .slice (some ⟨L0.blk, 0, none⟩) rows.length L0.cap := by
    rcases h0.2 L0 hL with ⟨hv, _⟩ | ⟨_, _, hv⟩
    · rw [hvirt] at hv; cases hv
    · rw [hv]; simp
  have hcapl : rows.length ≤ L0.cap := by have := hok.len hvm; rw [hlenr] at this; exact this
  have hblt : L0.blk < w.heap.size := (Array.getElem?_eq_some_iff.1 hblk).1
  have hnro : ¬ g.ro L0.blk := ((h.live 0 L0 hL).2 hvirt).2
  have hro : ∀ b, g.ro b → b < w.heap.size ∧ b ≠ L0.blk := fun b hb => ⟨h.ro b hb, fun e => hnro (e ▸ hb)⟩
  have hcsz : rows.length * k ≤ cur.size := by rw [hcs, hkm]; exact Nat.mul_le_mul_right k hcapl
  have hin : ∀ i, i < rows.length → i * k + k ≤ cur.size := fun i hi => by
    have := Nat.mul_le_mul_right k (show i + 1 ≤ rows.length from hi)
    rw [Nat.add_mul, Nat.one_mul] at this; omega
  -- the cells of element i
  have hel : ∀ i (hi : i < rows.length), V rows[i] ∧ (cur.toList.drop (i * k) |>.take k).length = k ∧ OneCells (cur.toList.drop (i * k) |>.take k) ∧ RepDs g.ro w rows[i] (cur.toList.drop (i * k) |>.take k) := by
    intro i hi
    have hrow := hrows i (rows[i].map AV.d) (by simp [dr, hi])
    have hl : (cur.toList.drop (i * k) |>.take k).length = k := by
      have := hin i hi
      simp only [List.length_take, List.length_drop, Array.length_toList]; omega
    have hget : ∀ j, j < k → (cur.toList.drop (i * k) |>.take k)[j]? = cur[i * k + j]? := fun j hj => by
      rw [List.getElem?_take, if_pos hj, List.getElem?_drop, Array.getElem?_toList]
    have hrl : rows[i].length = k := by have := hrow.1; rw [hkm] at this; simpa using this
    refine ⟨hV _ (List.getElem_mem hi), hl, ?_, ?_⟩
    · intro v hv
      obtain ⟨j, hj⟩ := List.mem_iff_getElem?.1 hv
      have hjk : j < k := by have := (List.getElem?_eq_some_iff.1 hj).1; omega
      rw [hget j hjk] at hj
      obtain ⟨u, hu1, hu2, _⟩ := hrow.2 j (.d (rows[i][j]'(by omega))) (by simp [show j < rows[i].length by omega])
      rw [hkm, hj] at hu1
      cases hu1
      exact hu2
    · refine RepDs.of_get (by rw [hl, hrl]) fun j x hj => ?_
      have hjk : j < k := by have := (List.getElem?_eq_some_iff.1 hj).1; omega
      obtain ⟨u, hu1, _, hu3⟩ := hrow.2 j (.d x) (by simp [hj])
      rw [hkm] at hu1
      exact ⟨u, by rw [hget j hjk, hu1], by simpa only [RepA] using hu3⟩
  let mk : _root_.Fin rows.length → Elt g.ro w V k := fun i => ⟨(rows[i.1], (cur.toList.drop (i.1 * k)).take k), hel i.1 i.2⟩
  let d : Array (Elt g.ro w V k) := Array.ofFn mk
  haveI : Inhabited (Elt g.ro w V k) := ⟨mk ⟨0, hn⟩⟩
  have hds : d.size = rows.length := by simp [d]
  have hdi : ∀ i (hi : i < rows.length), d[i]! = mk ⟨i, hi⟩ := fun i hi => by
    rw [getElem!_pos d i (by rw [hds]; exact hi)]; simp [d]
  have hdl : d.toList.map (fun x => x.1.1) = rows := by
    apply List.ext_getElem
    · simp [d]
    · intro i h1 h2
      have hi : i < d.size := by simpa using h1
      rw [List.getElem_map, Array.getElem_toList]
      have e := hdi i h2
      rw [getElem!_pos d i hi] at e
      rw [e]
  have hH : HoldsK (Elt.enc g.ro w V k) k w L0.blk 0 d := by
    intro j hj
    have hjs : j < rows.length * k := by simpa [hds] using hj
    have hdk : j / k < rows.length := Nat.div_lt_of_lt_mul (by rwa [Nat.mul_comm] at hjs)
    have hmod : j % k < k := Nat.mod_lt j hk0
    have hdm : j / k * k + j % k = j := by rw [Nat.mul_comm]; exact Nat.div_add_mod j k
    rw [get_flatK _ _ _ _ (by rw [hds]; exact hjs), hdi _ hdk]
    have hlt : j < cur.size := by omega
    refine ⟨?_, ?_⟩
    · simp only [World.cell?, hblk, Nat.zero_add]
      simp only [Option.isSome_none, Bool.false_eq_true, if_false, id_eq]
      have hl2 := (hel _ hdk).2.1
      rw [getElem!_pos _ _ (by rw [show (Elt.enc g.ro w V k (mk ⟨j / k, hdk⟩)) = (cur.toList.drop (j / k * k)).take k from rfl, hl2]; exact hmod)]
      simp only [Elt.enc, mk, List.getElem_take, List.getElem_drop, Array.getElem_toList, hdm]
      exact Array.getElem?_eq_getElem hlt
    · simpa using hR.open (o := j) hlt
  have hswo : SWO (ltOf fun x y : Elt g.ro w V k => cf x.1.1 y.1.1) := by
    refine ⟨fun x => ?_, fun x y z h1 h2 => ?_, fun x y z h1 h2 => ?_⟩
    · simpa [ltOf] using hO.irrefl x.1.1 x.2.1
    · simp only [ltOf, decide_eq_true_eq] at h1 h2 ⊢
      exact hO.trans _ _ _ x.2.1 y.2.1 z.2.1 h1 h2
    · simp only [ltOf, decide_eq_false_iff_not] at h1 h2 ⊢
      exact hO.ntrans _ _ _ x.2.1 y.2.1 z.2.1 h1 h2
  have hmain := AnyQ.slices_SortFunc L k aE zE (Elt.enc g.ro w V k) (fun x => x.2.2.1) (fun x v hv => x.2.2.2.1 v hv) (fun x y => cf x.1.1 y.1.1) hswo cg #[] L0.blk 0 L0.cap d w eg (cmp_lays hc hro) hH hblt (by rw [hds]; exact hsz)
  rw [hds] at hmain
  rw [e0, e1]
  refine hmain.mono ?_
  rintro ex w' ⟨rfl, d', n, os, hperm, hsort, rfl⟩
  obtain ⟨hps, _, hpp⟩ := hperm
  have hex : ∀ a : Array (Elt g.ro w V k), a.size = rows.length → (a.extract 0 rows.length) = a := fun a ha => by rw [← ha]; simp
  rw [hex d' (by rw [hps, hds]), hex d hds] at hpp
  have hrows' : d'.toList.map (fun x => x.1.1) = rows' := by
    refine sorted_uniq (fun a b => ¬ cf b a < 0) _ _ ((hpp.map _).trans (by rw [hdl]; exact hp.symm)) ?_ hs ?_
    · rw [List.pairwise_map, List.pairwise_iff_getElem]
      intro i j hi hj hij
      have hj' : j < d'.size := by simpa using hj
      have := hsort i j (Nat.zero_le _) hij (by rw [hps, hds] at hj'; exact hj')
      rw [getElem!_pos d' i (by omega), getElem!_pos d' j hj'] at this
      simpa [ltOf] using this
    · intro a ha b hb hab hba
      have hsub : ∀ x, x ∈ d'.toList.map (fun x => x.1.1) → x ∈ rows := fun x hx => by
        have := (hpp.map (fun x : Elt g.ro w V k => x.1.1)).subset hx
        rwa [hdl] at this
      exact hanti a (hsub a ha) b (hsub b hb) hab hba
  have hd's : d'.size = rows.length := by rw [hps, hds]
  have hbs : RowAt ((sortWorldK (Elt.enc g.ro w V k) k w L0.blk 0 n d' os).heap[L0.blk]?) e (Go.Sort.putCells id 0 (flatK (Elt.enc g.ro w V k) k d') cur) := ⟨el0, fr0, heap_sort_blk _ _ _ _ _ _ _ hblk, hx1, by simp only [Go.Sort.putCells, Array.size_mapIdx]; exact hx2⟩
  obtain ⟨g', h1, h2, h3, h4, h5, h6⟩ := HRel.write h hL hflat (id' := 0) (.inl rfl) ⟨e, k, dr rows'⟩ (Go.Sort.putCells id 0 (flatK (Elt.enc g.ro w V k) k d') cur) (w' := sortWorldK (Elt.enc g.ro w V k) k w L0.blk 0 n d' os) (cap := L0.cap) (B := L0.blk) rfl ⟨rfl, .inr (drawn_sort _ _ _ _ _ _ _)⟩ rfl (size_sort _ _ _ _ _ _ _)
    (fun b hb hne => heap_sort _ _ _ _ _ _ _ hb hne) (.inl rfl) hbs hkm.symm hok.pos (by simp only [Go.Sort.putCells, Array.size_mapIdx]; exact hcs) (by have := hp.length_eq; simp [dr]; omega) hcap (fun _ => ⟨rfl, rfl⟩) (by
      intro i row hi
      have hil : i < rows'.length := by have := (List.getElem?_eq_some_iff.1 hi).1; simpa [dr] using this
      have hil2 : i < rows.length := by have := hp.length_eq; omega
      have hid : i < d'.size := by omega
      have hri : rows'[i] = (d'[i]'hid).1.1 := by
        have : (d'.toList.map (fun x => x.1.1))[i]'(by simpa using hid) = rows'[i] := by simp only [hrows']
        rw [← this]; simp
      have hrow : row = rows'[i].map AV.d := by
        have : (dr rows')[i]? = some (rows'[i].map AV.d) := by simp [dr, hil]
        rw [this] at hi; exact (Option.some.inj hi).symm
      obtain ⟨x1, x2, x3, x4⟩ := (d'[i]'hid).2
      subst hrow
      rw [hri, hkm]
      have hxl : (d'[i]'hid).1.1.length = k := by have := x4.length; omega
      refine ⟨by simp [hxl], fun j av hj => ?_⟩
      have hjk : j < k := by have := (List.getElem?_eq_some_iff.1 hj).1; simp at this; omega
      have hav : av = .d ((d'[i]'hid).1.1[j]'(by omega)) := by
        rw [List.getElem?_map, List.getElem?_eq_getElem (by omega)] at hj
        exact (Option.some.inj hj).symm
      obtain ⟨v, hv1, hv2⟩ := x4.get j _ (List.getElem?_eq_getElem (by omega))
      have hdiv : (i * k + j) / k = i := (blk_iff k i _ hk0).1 ⟨by omega, by omega⟩
      have hmod : (i * k + j) % k = j := by rw [Nat.mod_eq_sub_div_mul, hdiv]; omega
      have hlt : i * k + j < rows.length * k := by have := Nat.mul_le_mul_right k (show i + 1 ≤ rows.length from hil2); rw [Nat.add_mul, Nat.one_mul] at this; omega
      refine ⟨v, ?_, x3 v (List.mem_of_getElem? hv1), ?_⟩
      · have hlc : i * k + j < cur.size := by omega
        have hc1 : (Go.Sort.putCells id 0 (flatK (Elt.enc g.ro w V k) k d') cur)[i * k + j]? = some ((flatK (Elt.enc g.ro w V k) k d')[i * k + j]!) := by
          simp only [Go.Sort.putCells, Array.getElem?_mapIdx, Array.getElem?_eq_getElem hlc, Option.map_some]
          rw [if_pos ⟨Nat.zero_le _, by rw [size_flatK, hd's]; omega⟩]
          simp
        rw [hc1, get_flatK _ _ _ _ (by rw [hd's]; exact hlt), hdiv, hmod, getElem!_pos d' i hid]
        simp only [Elt.enc]
        obtain ⟨hjl, hjv⟩ := List.getElem?_eq_some_iff.1 hv1
        rw [getElem!_pos _ j hjl, hjv]
      · rw [hav]
        simpa only [RepA] using hv2)
  refine ⟨_, g', rfl, ?_, ?_, h5, ?_⟩
  · have : (upd1 (upd1 (objL [(0, ⟨e, k, dr rows⟩)]) 0 none) 0 (some ⟨e, k, dr rows'⟩)) = objL [(0, ⟨e, k, dr rows'⟩)] := by
      funext x
      simp only [upd1, objL, find]
      by_cases hx : x = 0
      · subst hx; simp
      · have hx' : ¬ (0 = x) := fun h => hx h.symm
        simp [hx, hx']
    rw [← this]; exact h4
  · simp only [RepA, RepAs]
    exact ⟨[], rfl, rfl⟩
  · intro i j hij
    simp only [List.mem_cons, List.not_mem_nil, or_false, Prod.mk.injEq] at hij
    obtain ⟨rfl, rfl⟩ := hij
    rw [h1, hL]
    cases L0; simp_all

theorem sortFunc_px0 {P : Program} {ρ : Ren} (L : SlLaysF0.n6 P ρ) {k : Nat} (hk0 : 0 < k) (hent : Enters P (ρ.f 6)) (e : TypeId) (fv : AV) :
    PX P (ρ.f 6) [.hs 0 0 0, fv] [(0, ⟨e, k, []⟩)] [(0, 0)] [(0, ⟨e, k, []⟩)] (.tup []) := by
  refine ⟨hent, fun g w vs h hu hvs => ?_⟩
  simp only [RepAs] at hvs
  obtain ⟨v0, _, rfl, h0, v1, _, rfl, h1, rfl⟩ := hvs
  obtain ⟨L0, hL, hok⟩ := h.own 0 ⟨e, k, []⟩ (by simp [objL, find])
  simp only [RepA] at h0
  have e0 : ∃ p c, v0 = .slice p 0 c := by
    rcases h0.2 L0 hL with ⟨_, _, _, a0, hv⟩ | ⟨_, _, hv⟩
    · exact ⟨a0, _, hv⟩
    · exact ⟨_, _, hv⟩
  obtain ⟨p, c, rfl⟩ := e0
  refine (AnyF.slices_SortFunc_none { L with } p c v1 w).mono ?_
  rintro ex w' ⟨rfl, rfl⟩
  refine ⟨_, g, rfl, h, ?_, Step.refl g _, ?_⟩
  · simp only [RepA, RepAs]; exact ⟨[], rfl, rfl⟩
  · intro i j hij
    simp only [List.mem_cons, List.not_mem_nil, or_false, Prod.mk.injEq] at hij
    obtain ⟨rfl, rfl⟩ := hij
    rfl

theorem sortFunc_all {P : Program} {ρ : Ren} (L : SlLaysF0.n6 P ρ) {k : Nat} (hk0 : 0 < k) (aE : ∀ w, (isAgg (ρ.t 24)).run P w = .ok true w) (zE : ∀ w, (Go.sizeOf (ρ.t 24)).run P w = .ok k w) (hent : Enters P (ρ.f 6)) {cg : FuncId}
    (eg : ∀ args w, (callFunc cg args).run P w = .ok (.enter cg args) w) {V : List D → Prop} {cf : List D → List D → Int} (hc : CmpOk P cg V cf) (hO : CmpOrd V cf) (e : TypeId) {rows rows' : List (List D)} (hV : ∀ r ∈ rows, V r)
    (hanti : ∀ a ∈ rows, ∀ b ∈ rows, ¬ cf b a < 0 → ¬ cf a b < 0 → a = b) (hp : rows'.Perm rows) (hs : rows'.Pairwise fun a b => ¬ cf b a < 0) (hsz : rows.length < 4611686018427387904) :
    PX P (ρ.f 6) [.hs 0 0 rows.length, .d (.fn (.func cg) [])] [(0, ⟨e, k, dr rows⟩)] [(0, 0)] [(0, ⟨e, k, dr rows'⟩)] (.tup []) := by
  by_cases hn : rows = []
  · subst hn
    have : rows' = [] := hp.eq_nil
    subst this
    exact sortFunc_px0 L hk0 hent e _
  · refine sortFunc_px L hk0 aE zE hent eg hc hO e hV hanti hp hs (List.length_pos_iff.2 hn) hsz _ fun g w v hv => ?_
    simp only [RepA, RepD] at hv
    obtain ⟨vs, rfl, h2⟩ := hv
    simp only [RepDs] at h2
    rw [h2]

end Go.Abs

namespace Go.Proofs.YtgicofpllopjmaaDoor
open Go.Abs Go.Shelf Go.RowKit Go.Lib Go.Sort

def sortCell_ren : Go.Shelf.Ren := ⟨fun | 6 => 49 | 15 => 68 | 14 => 67 | 28 => 84 | 29 => 85 | 20 => 76 | 21 => 77 | 22 => 78 | 23 => 79 | 24 => 80 | 25 => 81 | 26 => 82 | 27 => 83 | 46 => 91 | 47 => 92 | 48 => 93 | 49 => 94 | 50 => 95 | 57 => 98 | n => n, fun | 22 => 60 | 24 => 29 | 25 => 87 | 3 => 3 | 39 => 73 | 0 => 0 | 53 => 97 | 55 => 100 | 4 => 4 | 46 => 116 | 45 => 115 | 50 => 64 | 5 => 5 | 9 => 9 | 66 => 125 | 70 => 129 | 76 => 133 | 77 => 134 | n => n, fun n => n⟩
theorem sortCell_lays : SlLaysF0.n6 Tryd.prog sortCell_ren where
  mixed := by kernel_rfl
  f6 := ⟨Tryd.f49.name, by kernel_rfl, Tryd.func49.trans (congrArg some (by kernel_rfl))⟩
  f14 := ⟨Tryd.f67.name, by kernel_rfl, Tryd.func67.trans (congrArg some (by kernel_rfl))⟩
  f15 := Tryd.func68.trans (congrArg some (by kernel_rfl))
  f20 := ⟨Tryd.f76.name, by kernel_rfl, Tryd.func76.trans (congrArg some (by kernel_rfl))⟩
  f21 := ⟨Tryd.f77.name, by kernel_rfl, Tryd.func77.trans (congrArg some (by kernel_rfl))⟩
  f22 := ⟨Tryd.f78.name, by kernel_rfl, Tryd.func78.trans (congrArg some (by kernel_rfl))⟩
  f23 := ⟨Tryd.f79.name, by kernel_rfl, Tryd.func79.trans (congrArg some (by kernel_rfl))⟩
  f24 := ⟨Tryd.f80.name, by kernel_rfl, Tryd.func80.trans (congrArg some (by kernel_rfl))⟩
  f25 := ⟨Tryd.f81.name, by kernel_rfl, Tryd.func81.trans (congrArg some (by kernel_rfl))⟩
  f26 := ⟨Tryd.f82.name, by kernel_rfl, Tryd.func82.trans (congrArg some (by kernel_rfl))⟩
  f27 := ⟨Tryd.f83.name, by kernel_rfl, Tryd.func83.trans (congrArg some (by kernel_rfl))⟩
  f28 := Tryd.func84.trans (congrArg some (by kernel_rfl))
  f29 := Tryd.func85.trans (congrArg some (by kernel_rfl))
  f46 := ⟨Tryd.f91.name, by kernel_rfl, Tryd.func91.trans (congrArg some (by kernel_rfl))⟩
  f47 := Tryd.func92.trans (congrArg some (by kernel_rfl))
  f48 := Tryd.func93.trans (congrArg some (by kernel_rfl))
  f49 := ⟨Tryd.f94.name, by kernel_rfl, Tryd.func94.trans (congrArg some (by kernel_rfl))⟩
  f50 := ⟨Tryd.f95.name, by kernel_rfl, Tryd.func95.trans (congrArg some (by kernel_rfl))⟩
  f57 := ⟨Tryd.f98.name, by kernel_rfl, Tryd.func98.trans (congrArg some (by kernel_rfl))⟩
  t0 := Tryd.underlying0
  a0 := Tryd.isAgg0
  z0 := Tryd.sizeOf0
  v0 := Tryd.zeroValue0
  t3 := Tryd.underlying3
  a3 := Tryd.isAgg3
  z3 := Tryd.sizeOf3
  v3 := Tryd.zeroValue3
  t4 := Tryd.underlying4
  a4 := Tryd.isAgg4
  z4 := Tryd.sizeOf4
  v4 := Tryd.zeroValue4
  t5 := Tryd.underlying5
  a5 := Tryd.isAgg5
  z5 := Tryd.sizeOf5
  v5 := Tryd.zeroValue5
  t9 := Tryd.underlying9
  a9 := Tryd.isAgg9
  z9 := Tryd.sizeOf9
  v9 := Tryd.zeroValue9
  t22 := Tryd.underlying60
  a22 := Tryd.isAgg60
  z22 := Tryd.sizeOf60
  v22 := Tryd.zeroValue60
  t25 := Tryd.underlying87
  a25 := Tryd.isAgg87
  z25 := Tryd.sizeOf87
  v25 := Tryd.zeroValue87
  t39 := Tryd.underlying73
  a39 := Tryd.isAgg73
  z39 := Tryd.sizeOf73
  v39 := Tryd.zeroValue73
  t45 := Tryd.underlying115
  a45 := Tryd.isAgg115
  z45 := Tryd.sizeOf115
  v45 := Tryd.zeroValue115
  t46 := Tryd.underlying116
  a46 := Tryd.isAgg116
  z46 := Tryd.sizeOf116
  v46 := Tryd.zeroValue116
  t50 := Tryd.underlying64
  a50 := Tryd.isAgg64
  z50 := Tryd.sizeOf64
  v50 := Tryd.zeroValue64
  t53 := Tryd.underlying97
  a53 := Tryd.isAgg97
  z53 := Tryd.sizeOf97
  v53 := Tryd.zeroValue97
  t55 := Tryd.underlying100
  a55 := Tryd.isAgg100
  z55 := Tryd.sizeOf100
  v55 := Tryd.zeroValue100
  t66 := Tryd.underlying125
  a66 := Tryd.isAgg125
  z66 := Tryd.sizeOf125
  v66 := Tryd.zeroValue125
  t70 := Tryd.underlying129
  a70 := Tryd.isAgg129
  z70 := Tryd.sizeOf129
  v70 := Tryd.zeroValue129
  t76 := Tryd.underlying133
  a76 := Tryd.isAgg133
  z76 := Tryd.sizeOf133
  v76 := Tryd.zeroValue133
  t77 := Tryd.underlying134
  a77 := Tryd.isAgg134
  z77 := Tryd.sizeOf134
  v77 := Tryd.zeroValue134

def cfX : List D → List D → Int
  | [.int _ ax, .int _ ay], [.int _ bx, .int _ by'] => if ax ≠ bx then ax - bx else ay - by'
  | _, _ => 0
def VC (r : List D) : Prop := ∃ c : Cell, r = c.row ∧ onG c = true


def cfY : List D → List D → Int
  | [_, _, .sl ([.int _ ax, .int _ ay] :: _)], [_, _, .sl ([.int _ bx, .int _ by'] :: _)] => if ay ≠ by' then ay - by' else ax - bx
  | _, _ => 0
def VT (r : List D) : Prop := ∃ (t : Track) (c : Cell) (l : List Cell), r = t.row ∧ t.cells = c :: l ∧ onG c = true

end Go.Proofs.YtgicofpllopjmaaDoor

namespace Go.Proofs.YtgicofpllopjmaaDoor
open Go.Abs

def cfD : List D → List D → Int
  | [.int _ ax, .int _ ay], [.int _ bx, .int _ by'] => orI (cmpI ay by') (cmpI ax bx)
  | _, _ => 0
theorem orI_lt (a b c d : Int) : orI (cmpI a b) (cmpI c d) < 0 ↔ a < b ∨ a = b ∧ c < d := by
  unfold orI cmpI
  split <;> (try split) <;> (try split) <;> (try split) <;> omega
theorem cfD_bef (a b : Cell) : cfD a.row b.row < 0 ↔ bef a b = true := by
  obtain ⟨ax, ay⟩ := a
  obtain ⟨bx, b'⟩ := b
  simp only [cfD, Cell.row, orI_lt, bef]
  simp
theorem cfD_ok : CmpOk Tryd.prog 50 VC cfD := by
  refine cmp_of_pc ?_
  rintro _ _ ⟨a, rfl, _⟩ ⟨b, rfl, _⟩
  have := ofCmp_ok a b
  exact this
theorem cfD_ord : CmpOrd VC cfD where
  irrefl := by rintro _ ⟨a, rfl, _⟩; rw [cfD_bef]; simp [bef]
  trans := by
    rintro _ _ _ ⟨a, rfl, _⟩ ⟨b, rfl, _⟩ ⟨c, rfl, _⟩
    rw [cfD_bef, cfD_bef, cfD_bef]
    simp [bef]; omega
  ntrans := by
    rintro _ _ _ ⟨a, rfl, _⟩ ⟨b, rfl, _⟩ ⟨c, rfl, _⟩
    rw [cfD_bef, cfD_bef, cfD_bef]
    simp [bef]; omega
theorem sortO_px (l : List Cell) (hon : ∀ c ∈ l, onG c = true) (hl : l.length ≤ 1000000) : PX Tryd.prog 49 [.hs 0 0 l.length, .d (.fn (.func 50) [])] [(0, ⟨29, 2, dr (l.map Cell.row)⟩)] [(0, 0)] [(0, ⟨29, 2, dr ((sortY l).map Cell.row)⟩)] (.tup []) := by
  have h := sortFunc_all (P := Tryd.prog) sortCell_lays (k := 2) (by decide) (fun w => by kernel_rfl) (fun w => by kernel_rfl) ⟨_, Tryd.func49, by kernel_rfl, by kernel_rfl⟩ (cg := 50) (fun args w => by kernel_rfl) cfD_ok cfD_ord 29 (rows := l.map Cell.row) (rows' := (sortY l).map Cell.row)
    (fun r hr => by obtain ⟨c, hc, rfl⟩ := List.mem_map.1 hr; exact ⟨c, rfl, hon c hc⟩)
    (fun a ha b hb h1 h2 => by
      obtain ⟨c, hc, rfl⟩ := List.mem_map.1 ha
      obtain ⟨d, hd, rfl⟩ := List.mem_map.1 hb
      rw [cfD_bef] at h1 h2
      have e : c = d := leY_anti (bef_leY (by simpa using h1)) (bef_leY (by simpa using h2))
      rw [e])
    ((sortY_perm l).map _) (by
      rw [List.pairwise_map]
      refine (sortY_le l).imp fun {a b} h => ?_
      rw [cfD_bef]
      simp [bef, leY] at *; omega) (by simp; omega)
  simp only [List.length_map] at h
  exact h

def ofTl : Option (Int × List Run) → List (List AV)
  | none => []
  | some (y, L) => [[.d (.int .i64 y), .hs 3 0 L.length]]
def ofRl : Option (Int × List Run) → List Run
  | none => []
  | some (_, L) => L
def ofX (P : List Row) : Option (Int × List Run) → List Row
  | none => P
  | some (y, L) => P ++ [⟨y, L⟩]

set_option maxHeartbeats 4000000 in
theorem of_ok (l : List Cell) (hl : l.length ≤ 1000000) : PC Tryd.prog 25 [encCells l] (.p (ofD l)) := by
  have hD : ofD l = .tup [.agg (regRow (ofR l)), .int .i64 (ofE l)] := rfl
  rw [hD]
  refine pc_of_awp cx (fn := Tryd.f25) (c := _) Tryd.func25 rfl rfl (Nat.le_of_ble_eq_true rfl) ?_
  rw [Tryd.ntmps25]; refine Nav.imp ?_
  refine awp_region cx [] fun K hK => ?_
  simp [push_cast]
  repeat (refine And.intro (by clear hK; intros; first | omega | (simp_all; done) | (simp_all <;> omega)) ?_)
  refine hK _ ?_; clear hK K; refine Nav.imp ?_
  refine awp_region cx [] fun K hK => ?_
  simp [push_cast]
  repeat (refine And.intro (by clear hK; intros; first | omega | (simp_all; done) | (simp_all <;> omega)) ?_)
  refine hK _ ?_; clear hK K; refine Nav.imp ?_
  refine awp_loop (β := Nat) (fun k => ⟨124, [(0, .d (encCells l)), (2, .ptr 0 0 0), (3, .d (.int .i64 0)), (13, .d (encCells l)), (14, .d (.int .i64 l.length)), (15, .d (.int .i64 k))], [(0, some ⟨24, 1, [[.nl]]⟩)], 1⟩) (fun k => k ≤ l.length ∧ ∀ c ∈ l.take k, onG c = true) (fun k => l.length - k) 0 ?_ ⟨Nat.zero_le _, by simp⟩ ?_
  · refine weak_of [(0, some 0)] rfl (by simp [upT, up, upL, push_cast]) (by simp [upH, upR, upL, up, push_cast]) (by simp [namesOk, push_cast]) (by simp [olds])
  · rintro k ⟨hk, hon⟩
    refine Nav.imp ?_
    refine awp_region cx [] fun K hK => ?_
    simp [push_cast]
    repeat (refine And.intro (by clear hK; intros; first | omega | (simp_all; done) | (simp_all <;> omega)) ?_)
    refine hK _ ?_; clear hK K; refine Nav.imp ?_
    refine awp_cond (b := decide ((k : Int) < l.length)) (by simp [push_cast]) (fun hb => ?_) (fun hb => ?_) <;> (refine Nav.imp ?_)
    · have hlt : k < l.length := by simpa using hb
      obtain ⟨c, hc⟩ := getq hlt
      have e0 := wrap_i64 (n := (k : Int) + 1) (by omega) (by omega)
      have c1 := ok_ok c.x
      have c2 := ok_ok c.y
      have hv : onG c = (okB c.x && okB c.y) := by simp [onG, okB, Bool.and_assoc]
      have hbad : onG c = false → ofR l = [] ∧ ofE l = 8 := fun h => by
        have hall : l.all onG = false := by
          rw [Bool.eq_false_iff]
          intro h'
          have := List.all_eq_true.1 h' c (List.mem_of_getElem? hc)
          rw [h] at this; cases this
        exact ⟨by simp [ofR, hall], by simp [ofE, hall]⟩
      obtain ⟨x, y⟩ := c
      simp only at c1 c2 hv
      generalize okB x = p at *
      generalize okB y = q at *
      refine awp_region cx [] fun K hK => ?_
      simp [push_cast, hc]
      repeat (refine And.intro (by clear hK; intros; first | omega | (simp_all; done) | (simp_all <;> omega)) ?_)
      refine hK _ ?_; clear hK K; refine Nav.imp ?_
      cases p with
      | false =>
        obtain ⟨h1, h2⟩ := hbad (by rw [hv]; rfl)
        rw [h1, h2]
        refine awp_region cx [(2, .p (.bool false)), (7, .skip)] fun K hK => ?_
        simp [push_cast, c1]
        repeat (refine And.intro (by clear hK; intros; first | omega | (simp_all; done) | (simp_all <;> omega)) ?_)
        refine hK _ ?_; clear hK K; refine Nav.imp ?_
        refine awp_cond (b := true) (by simp [push_cast]) (fun hb => ?_) (fun hb => ?_) <;> (refine Nav.imp ?_)
        · refine awp_region cx [] fun K hK => ?_
          simp [push_cast]
          repeat (refine And.intro (by clear hK; intros; first | omega | (simp_all; done) | (simp_all <;> omega)) ?_)
          refine hK _ ?_; clear hK K; refine Nav.imp ?_
          simp [push_cast]
        · simp at hb
      | true =>
        refine awp_region cx [(2, .p (.bool true)), (7, .p (.bool q))] fun K hK => ?_
        simp [push_cast, c1, c2]
        repeat (refine And.intro (by clear hK; intros; first | omega | (simp_all; done) | (simp_all <;> omega)) ?_)
        refine hK _ ?_; clear hK K; refine Nav.imp ?_
        refine awp_cond (b := !q) (by simp [push_cast]) (fun hb => ?_) (fun hb => ?_) <;> (refine Nav.imp ?_)
        · simp at hb
          obtain ⟨h1, h2⟩ := hbad (by rw [hv, hb]; rfl)
          rw [h1, h2]
          refine awp_region cx [] fun K hK => ?_
          simp [push_cast]
          repeat (refine And.intro (by clear hK; intros; first | omega | (simp_all; done) | (simp_all <;> omega)) ?_)
          refine hK _ ?_; clear hK K; refine Nav.imp ?_
          simp [push_cast]
        · simp at hb
          refine awp_region cx [] fun K hK => ?_
          simp [push_cast, e0]
          repeat (refine And.intro (by clear hK; intros; first | omega | (simp_all; done) | (simp_all <;> omega)) ?_)
          refine hK _ ?_; clear hK K; refine Nav.imp ?_
          refine ⟨k + 1, ⟨hlt, fun d hd => ?_⟩, by omega, ?_⟩
          · rw [take_get hc] at hd
            rcases List.mem_append.1 hd with hd | hd
            · exact hon d hd
            · simp at hd; subst hd; rw [hv, hb]; rfl
          · refine weak_of [(0, some 0)] rfl (by simp [upT, up, upL, push_cast]) (by simp [upH, upR, upL, up, push_cast]) (by simp [namesOk, push_cast]) (by simp [olds])
    · have hge : k = l.length := by simp at hb; omega
      subst hge
      rw [List.take_length] at hon
      have hall : l.all onG = true := List.all_eq_true.2 hon
      have h1 : ofR l = build (sortY l) := by simp [ofR, hall]
      have h2 : ofE l = 0 := by simp [ofE, hall]
      have c1 := clone_ok l hl
      have c2 := sortO_px l hon hl
      have hslen : (sortY l).length = l.length := (sortY_perm l).length_eq
      have hson : ∀ c ∈ sortY l, onG c = true := fun c hc => hon c ((sortY_perm l).mem_iff.1 hc)
      rw [h1, h2]
      clear h1 h2 hb hall
      generalize sortY l = s at *
      refine awp_region cx [(1, .o 29 2 (l.map Cell.row))] fun K hK => ?_
      simp [push_cast, c1]
      repeat (refine And.intro (by clear hK; intros; first | omega | (simp_all; done) | (simp_all <;> omega)) ?_)
      refine hK _ ?_; clear hK K; refine Nav.imp ?_
      refine awp_region cx [(1, .x ⟨[(0, 3)], [.hs 0 0 l.length, .d (.fn (.func 50) [])], [(0, ⟨29, 2, dr (l.map Cell.row)⟩)], [(0, 0)], none, [(0, ⟨29, 2, dr (s.map Cell.row)⟩)], .tup []⟩)] fun K hK => ?_
      simp [push_cast, c2]
      repeat (refine And.intro (by clear hK; intros; first | omega | (simp_all; done) | (simp_all <;> omega)) ?_)
      refine hK _ ?_; clear hK K; refine Nav.imp ?_
      rw [← hslen]
      have hsl : s.length ≤ 1000000 := by omega
      refine awp_freeze 3 (s.map Cell.row) rfl (by simp [push_cast]) fun K hK => ?_
      simp [push_cast, St.fz, fzT, fzH, fzO, fz, fzL, fzR, fzR_dr, fzR_app, fzR_set, fzL_map]
      refine hK _ ?_; clear hK K; refine Nav.imp ?_
      refine awp_region cx [] fun K hK => ?_
      simp [push_cast]
      repeat (refine And.intro (by clear hK; intros; first | omega | (simp_all; done) | (simp_all <;> omega)) ?_)
      refine hK _ ?_; clear hK K; refine Nav.imp ?_
      refine awp_region cx [] fun K hK => ?_
      simp [push_cast]
      repeat (refine And.intro (by clear hK; intros; first | omega | (simp_all; done) | (simp_all <;> omega)) ?_)
      refine hK _ ?_; clear hK K; refine Nav.imp ?_
      refine awp_loop (β := Nat × List Row × Option (Int × List Run)) (fun b => ⟨124, [(2, .ptr 0 0 0), (3, .d (.int .i64 0)), (7, .ptr 1 0 0), (35, .d (encCells s)), (36, .d (.int .i64 s.length)), (37, .d (.int .i64 b.1))], [(0, some ⟨24, 1, [[.nl]]⟩), (1, some ⟨24, 1, [[.hs 2 0 (b.2.1.length + (ofTl b.2.2).length)]]⟩), (2, some ⟨40, 2, dr (b.2.1.map Row.row) ++ ofTl b.2.2⟩), (3, some ⟨37, 2, dr ((ofRl b.2.2).map Run.row)⟩)], 4⟩)
        (fun b => b.1 ≤ s.length ∧ ofX b.2.1 b.2.2 = build (s.take b.1) ∧ (b.2.2 = none → b.2.1 = []) ∧ (∀ y L, b.2.2 = some (y, L) → L ≠ [])) (fun b => s.length - b.1) (0, [], none) ?_ ⟨Nat.zero_le _, by simp [ofX, build], fun _ => rfl, fun y L h => by cases h⟩ ?_
      · refine weak_of [(0, some 0), (1, some 7), (2, none), (3, none)] rfl (by simp [upT, up, upL, push_cast, ofTl, ofRl]) (by simp [upH, upR, upL, up, push_cast, ofTl, ofRl]) (by simp [namesOk, push_cast]) (by simp [olds])
      · rintro ⟨k, P, o⟩ ⟨hk, hX, hP0, hL0⟩
        simp only at hk hX hP0 hL0
        refine Nav.imp ?_
        refine awp_region cx [] fun K hK => ?_
        simp [push_cast, ofTl, ofRl]
        repeat (refine And.intro (by clear hK; intros; first | omega | (simp_all; done) | (simp_all <;> omega)) ?_)
        refine hK _ ?_; clear hK K; refine Nav.imp ?_
        refine awp_cond (b := decide ((k : Int) < s.length)) (by simp [push_cast]) (fun hb => ?_) (fun hb => ?_) <;> (refine Nav.imp ?_)
        · have hlt : k < s.length := by simpa using hb
          obtain ⟨c, hc⟩ := getq hlt
          have e0 := wrap_i64 (n := (k : Int) + 1) (by omega) (by omega)
          have hcg := onG_bd (hson c (List.mem_of_getElem? hc))
          have hnx : build (s.take (k + 1)) = addC (ofX P o) c := by rw [build_take hc, hX]
          have hsm := build_small (s.take k)
          rw [← hX] at hsm
          have hXl : (ofX P o).length ≤ 1000000 := by have := hsm.1; simp at this; omega
          have hXr : ∀ w ∈ ofX P o, w.runs.length ≤ 1000000 := fun w hw => by have := hsm.2 w hw; simp at this; omega
          clear hX hsm
          obtain ⟨x, y⟩ := c
          simp only at hcg
          have ex := wrap_i64 (n := x + 1) (by omega) (by omega)
          rcases o with _ | ⟨wy, L⟩
          · have hP := hP0 rfl
            subst hP
            simp only [ofX, addC_nil] at hnx
            refine awp_region cx [] fun K hK => ?_
            simp [push_cast, hc, ofTl, ofRl]
            repeat (refine And.intro (by clear hK; intros; first | omega | (simp_all; done) | (simp_all <;> omega)) ?_)
            refine hK _ ?_; clear hK K; refine Nav.imp ?_
            refine awp_region cx [] fun K hK => ?_
            simp [push_cast]
            repeat (refine And.intro (by clear hK; intros; first | omega | (simp_all; done) | (simp_all <;> omega)) ?_)
            refine hK _ ?_; clear hK K; refine Nav.imp ?_
            refine awp_region_draw cx mixed [] fun K hK => ?_
            simp [push_cast]
            repeat (refine And.intro (by clear hK; intros; first | omega | (simp_all; done) | (simp_all <;> omega)) ?_)
            refine hK _ _ (by kernel_rfl) ?_; clear hK K; refine Nav.imp ?_
            refine awp_cond (b := true) (by simp [push_cast]) (fun hb => ?_) (fun hb => ?_) <;> (refine Nav.imp ?_)
            · refine awp_region cx [] fun K hK => ?_
              simp [push_cast, ex]
              repeat (refine And.intro (by clear hK; intros; first | omega | (simp_all; done) | (simp_all <;> omega)) ?_)
              refine hK _ ?_; clear hK K; refine Nav.imp ?_
              refine awp_region cx [] fun K hK => ?_
              simp [push_cast, e0]
              repeat (refine And.intro (by clear hK; intros; first | omega | (simp_all; done) | (simp_all <;> omega)) ?_)
              refine hK _ ?_; clear hK K; refine Nav.imp ?_
              refine ⟨(k + 1, [], some (y, [⟨x, x + 1⟩])), ⟨hlt, hnx.symm, fun h => (by cases h), fun y L h => (by cases h; simp)⟩, by simp only; omega, ?_⟩
              refine weak_of [(0, some 0), (1, some 1), (2, some 40), (3, some 37)] rfl (by simp [upT, up, upL, push_cast, Row.row, Run.row, ofTl, ofRl]) (by simp [upH, upR, upL, up, push_cast, Row.row, Run.row, ofTl, ofRl]) (by simp [namesOk, push_cast]) (by simp [olds])
            · simp at hb
          · have hLne := hL0 wy L rfl
            simp only [ofX] at hnx hXl hXr
            rw [addC_end] at hnx
            have hLl := hXr ⟨wy, L⟩ (by simp)
            simp only at hnx hLl
            simp at hXl
            have hP32 : (P.length + 1 + 1) * 32 ≤ 140737488355328 := by omega
            have hL16 : (L.length + 1) * 16 ≤ 140737488355328 := by omega
            have hget : (dr (P.map Row.row) ++ [[AV.d (.int .i64 wy), AV.hs 3 0 L.length]])[P.length]? = some [AV.d (.int .i64 wy), AV.hs 3 0 L.length] := by
              rw [List.getElem?_append_right (by simp [dr])]; simp [dr]
            have hset : ∀ v, (dr (P.map Row.row) ++ [[AV.d (.int .i64 wy), AV.hs 3 0 L.length]]).set P.length v = dr (P.map Row.row) ++ [v] := fun v => by
              rw [List.set_append_right _ _ (by simp [dr])]; simp [dr]
            obtain ⟨A, hA⟩ : ∃ A, A = P ++ [(⟨wy, L⟩ : Row)] := ⟨_, rfl⟩
            have hfold : dr (P.map Row.row) ++ [[AV.d (.int .i64 wy), AV.d (.sl (L.map Run.row))]] = dr (A.map Row.row) := by rw [hA]; simp [dr, Row.row]
            have hAl : P.length + 1 = A.length := by rw [hA]; simp
            have e4 : ((P.length : Int) + 1 == 0) = false := by simp; omega
            have e6 := wrap_i64 (n := (P.length : Int)) (by omega) (by omega)
            refine awp_region cx [] fun K hK => ?_
            simp [push_cast, hc, ofTl, ofRl]
            repeat (refine And.intro (by clear hK; intros; first | omega | (simp_all; done) | (simp_all <;> omega)) ?_)
            refine hK _ ?_; clear hK K; refine Nav.imp ?_
            refine awp_region cx [] fun K hK => ?_
            simp [push_cast]
            repeat (refine And.intro (by clear hK; intros; first | omega | (simp_all; done) | (simp_all <;> omega)) ?_)
            refine hK _ ?_; clear hK K; refine Nav.imp ?_
            refine awp_region_draw cx mixed [] fun K hK => ?_
            simp [push_cast, hget, e4, e6]
            repeat (refine And.intro (by clear hK; intros; first | omega | (simp_all; done) | (simp_all <;> omega)) ?_)
            refine hK _ _ (by kernel_rfl) ?_; clear hK K; refine Nav.imp ?_
            refine awp_cond (b := wy != y) (by simp [push_cast, e4]) (fun hb => ?_) (fun hb => ?_) <;> (refine Nav.imp ?_)
            · have hb : ¬ wy = y := by simpa using hb
              rw [if_neg hb, ← hA] at hnx
              refine awp_freeze 3 (L.map Run.row) rfl (by simp [push_cast, hfold]) fun K hK => ?_
              simp [push_cast, St.fz, fzT, fzH, fzO, fz, fzL, fzR, fzR_dr, fzR_app, fzR_set, fzL_map, hfold]
              refine hK _ ?_; clear hK K; refine Nav.imp ?_
              rw [hAl] at hP32 ⊢
              clear hA hfold hget hset
              refine awp_region cx [] fun K hK => ?_
              simp [push_cast, ex, hP32]
              repeat (refine And.intro (by clear hK; intros; first | omega | (simp_all; done) | (simp_all <;> omega)) ?_)
              refine hK _ ?_; clear hK K; refine Nav.imp ?_
              refine awp_region cx [] fun K hK => ?_
              simp [push_cast, e0]
              repeat (refine And.intro (by clear hK; intros; first | omega | (simp_all; done) | (simp_all <;> omega)) ?_)
              refine hK _ ?_; clear hK K; refine Nav.imp ?_
              refine ⟨(k + 1, A, some (y, [⟨x, x + 1⟩])), ⟨hlt, hnx.symm, fun h => (by cases h), fun y L h => (by cases h; simp)⟩, by simp only; omega, ?_⟩
              refine weak_of [(0, some 0), (1, some 1), (2, some 40), (3, some 37)] rfl (by simp [upT, up, upL, push_cast, Row.row, Run.row, ofTl, ofRl]) (by simp [upH, upR, upL, up, push_cast, Row.row, Run.row, ofTl, ofRl]) (by simp [namesOk, push_cast]) (by simp [olds])
            · have hb : wy = y := by simpa using hb
              subst hb
              rw [if_pos rfl] at hnx
              obtain ⟨L', r, rfl⟩ : ∃ L' r, L = L' ++ [r] := by
                rcases List.eq_nil_or_concat L with e | ⟨L', r, e⟩
                · exact absurd e hLne
                · exact ⟨L', r, by rw [e, List.concat_eq_append]⟩
              have hadd := addRun_end L' r x
              obtain ⟨ra, rb⟩ := r
              simp only at hadd
              have hz : (L' ++ [(⟨ra, rb⟩ : Run)])[L'.length]? = some ⟨ra, rb⟩ := by simp
              have hlen : (L' ++ [(⟨ra, rb⟩ : Run)]).length = L'.length + 1 := by simp
              have hset2 : ∀ m : Int, (dr ((L' ++ [(⟨ra, rb⟩ : Run)]).map Run.row)).set L'.length [AV.d (.int .i64 ra), AV.d (.int .i64 m)] = dr ((L' ++ [(⟨ra, m⟩ : Run)]).map Run.row) := fun m => by
                simp [dr, Run.row]
              have hlen2 : ∀ m : Int, (L' ++ [(⟨ra, m⟩ : Run)]).length = (L' ++ [(⟨ra, rb⟩ : Run)]).length := fun m => by simp
              generalize hB : L' ++ [(⟨ra, rb⟩ : Run)] = B at *
              have e7 := wrap_i64 (n := (B.length : Int) - 1) (by omega) (by omega)
              have e8 : ((B.length : Int) - 1).toNat = L'.length := by omega
              have e9 : (0 : Int) ≤ (B.length : Int) - 1 := by omega
              refine awp_region cx [] fun K hK => ?_
              simp [push_cast, hget, e6]
              repeat (refine And.intro (by clear hK; intros; first | omega | (simp_all; done) | (simp_all <;> omega)) ?_)
              refine hK _ ?_; clear hK K; refine Nav.imp ?_
              refine awp_region_draw cx mixed [] fun K hK => ?_
              simp [push_cast, hget, hz, e7, e8, e9]
              repeat (refine And.intro (by clear hK; intros; first | omega | (simp_all; done) | (simp_all <;> omega)) ?_)
              refine hK _ _ (by kernel_rfl) ?_; clear hK K; refine Nav.imp ?_
              refine awp_region_draw cx mixed [] fun K hK => ?_
              simp [push_cast, hget, hz, Run.row]
              repeat (refine And.intro (by clear hK; intros; first | omega | (simp_all; done) | (simp_all <;> omega)) ?_)
              refine hK _ _ (by kernel_rfl) ?_; clear hK K; refine Nav.imp ?_
              refine awp_cond (b := decide (rb < x)) (by simp [push_cast]) (fun hb => ?_) (fun hb => ?_) <;> (refine Nav.imp ?_)
              · have hb : rb < x := by simpa using hb
                rw [if_pos hb] at hadd
                rw [hadd] at hnx
                refine awp_region_draw cx mixed [] fun K hK => ?_
                simp [push_cast, hget, ex, hL16, hset]
                repeat (refine And.intro (by clear hK; intros; first | omega | (simp_all; done) | (simp_all <;> omega)) ?_)
                refine hK _ _ (by kernel_rfl) ?_; clear hK K; refine Nav.imp ?_
                refine awp_region cx [] fun K hK => ?_
                simp [push_cast, e0]
                repeat (refine And.intro (by clear hK; intros; first | omega | (simp_all; done) | (simp_all <;> omega)) ?_)
                refine hK _ ?_; clear hK K; refine Nav.imp ?_
                refine ⟨(k + 1, P, some (wy, B ++ [(⟨x, x + 1⟩ : Run)])), ⟨hlt, hnx.symm, fun h => (by cases h), fun y L h => (by cases h; simp)⟩, by simp only; omega, ?_⟩
                refine weak_of [(0, some 0), (1, some 1), (2, some 2), (3, some 64)] rfl (by simp [upT, up, upL, push_cast, Row.row, Run.row, ofTl, ofRl]) (by simp [upH, upR, upL, up, push_cast, Row.row, Run.row, ofTl, ofRl]) (by simp [namesOk, push_cast]) (by simp [olds])
              · have hb : ¬ rb < x := by simpa using hb
                rw [if_neg hb] at hadd
                rw [hadd] at hnx
                have hne2 : L' ++ [(⟨ra, max rb (x + 1)⟩ : Run)] ≠ [] := by simp
                have hset2 := hset2 (max rb (x + 1))
                have hlen2 := hlen2 (max rb (x + 1))
                generalize L' ++ [(⟨ra, max rb (x + 1)⟩ : Run)] = C at *
                refine awp_region_draw cx mixed [] fun K hK => ?_
                simp [push_cast, hget, hz, ex, hset2, Run.row]
                repeat (refine And.intro (by clear hK; intros; first | omega | (simp_all; done) | (simp_all <;> omega)) ?_)
                refine hK _ _ (by kernel_rfl) ?_; clear hK K; refine Nav.imp ?_
                refine awp_region cx [] fun K hK => ?_
                simp [push_cast, e0]
                repeat (refine And.intro (by clear hK; intros; first | omega | (simp_all; done) | (simp_all <;> omega)) ?_)
                refine hK _ ?_; clear hK K; refine Nav.imp ?_
                rw [← hlen2]
                refine ⟨(k + 1, P, some (wy, C)), ⟨hlt, hnx.symm, fun h => (by cases h), fun y L h => (by cases h; exact hne2)⟩, by simp only; omega, ?_⟩
                refine weak_of [(0, some 0), (1, some 1), (2, some 2), (3, some 3)] rfl (by simp [upT, up, upL, push_cast, Row.row, Run.row, ofTl, ofRl]) (by simp [upH, upR, upL, up, push_cast, Row.row, Run.row, ofTl, ofRl]) (by simp [namesOk, push_cast]) (by simp [olds])
        · have hge : k = s.length := by simp at hb; omega
          subst hge
          rw [List.take_length] at hX
          rw [← hX]
          rcases o with _ | ⟨wy, L⟩
          · have hP := hP0 rfl
            subst hP
            simp only [ofX, ofTl, ofRl]
            refine awp_freeze 2 ([] : List (List D)) rfl (by simp [push_cast]) fun K hK => ?_
            simp [push_cast, St.fz, fzT, fzH, fzO, fz, fzL, fzR, fzR_dr, fzR_app, fzR_set, fzL_map]
            refine hK _ ?_; clear hK K; refine Nav.imp ?_
            refine awp_region cx [] fun K hK => ?_
            simp [push_cast]
            repeat (refine And.intro (by clear hK; intros; first | omega | (simp_all; done) | (simp_all <;> omega)) ?_)
            refine hK _ ?_; clear hK K; refine Nav.imp ?_
            simp [push_cast]
          · simp only [ofX, ofTl, ofRl]
            obtain ⟨A, hA⟩ : ∃ A, A = P ++ [(⟨wy, L⟩ : Row)] := ⟨_, rfl⟩
            have hfold : dr (P.map Row.row) ++ [[AV.d (.int .i64 wy), AV.d (.sl (L.map Run.row))]] = dr (A.map Row.row) := by rw [hA]; simp [dr, Row.row]
            have hAl : P.length + 1 = A.length := by rw [hA]; simp
            rw [← hA]
            refine awp_freeze 3 (L.map Run.row) rfl (by simp [push_cast, hfold]) fun K hK => ?_
            simp [push_cast, St.fz, fzT, fzH, fzO, fz, fzL, fzR, fzR_dr, fzR_app, fzR_set, fzL_map, hfold]
            refine hK _ ?_; clear hK K; refine Nav.imp ?_
            rw [hAl]
            clear hA hfold
            refine awp_freeze 2 (A.map Row.row) rfl (by simp [push_cast, Row.row]) fun K hK => ?_
            simp [push_cast, St.fz, fzT, fzH, fzO, fz, fzL, fzR, fzR_dr, fzR_app, fzR_set, fzL_map, Row.row]
            refine hK _ ?_; clear hK K; refine Nav.imp ?_
            refine awp_region cx [] fun K hK => ?_
            simp [push_cast]
            repeat (refine And.intro (by clear hK; intros; first | omega | (simp_all; done) | (simp_all <;> omega)) ?_)
            refine hK _ ?_; clear hK K; refine Nav.imp ?_
            simp [push_cast]
end Go.Proofs.YtgicofpllopjmaaDoor

namespace Go.Proofs.YtgicofpllopjmaaDoor
open Go.Abs Go.Shelf

abbrev linesD (s : List UInt8) : D := .tup [encS ((linesP s).getD []), .bool (linesP s).isSome]
set_option maxHeartbeats 4000000 in
theorem lines_ok (s : List UInt8) (hs : s.length ≤ 1000000) : PC Tryd.prog 27 [strD s] (.p (linesD s)) := by
  have o0 := fun (x y : Operand) (yt : TypeId) => opres_eq (P := Tryd.prog) (x := x) (y := y) (yt := yt) str_und s []
  by_cases h0 : s = []
  · subst h0
    have hl : linesP [] = some [] := rfl
    rw [linesD, hl]
    refine pc_of_awp cx (fn := Tryd.f27) (c := _) Tryd.func27 rfl rfl (Nat.le_of_ble_eq_true rfl) ?_
    rw [Tryd.ntmps27]; refine Nav.imp ?_
    refine awp_region cx [] fun K hK => ?_
    simp [push_cast]
    repeat (refine And.intro (by clear hK; intros; first | omega | (simp_all; done) | (simp_all <;> omega)) ?_)
    refine hK _ ?_; clear hK K; refine Nav.imp ?_
    refine awp_region cx [(1, .p (.bool true))] fun K hK => ?_
    simp [push_cast, o0]
    repeat (refine And.intro (by clear hK; intros; first | omega | (simp_all; done) | (simp_all <;> omega)) ?_)
    refine hK _ ?_; clear hK K; refine Nav.imp ?_
    refine awp_cond (b := true) (by simp [push_cast]) (fun hb => ?_) (fun hb => ?_) <;> (refine Nav.imp ?_)
    · refine awp_region cx [] fun K hK => ?_
      simp [push_cast]
      repeat (refine And.intro (by clear hK; intros; first | omega | (simp_all; done) | (simp_all <;> omega)) ?_)
      refine hK _ ?_; clear hK K; refine Nav.imp ?_
      simp [push_cast]
    · simp at hb
  have hne : (s == ([] : List UInt8)) = false := by simpa using h0
  rw [hne] at o0
  have c1 := cutSuffix_ok s hs
  cases hx : sfxB s with
  | false =>
    have hl : linesP s = none := by
      rw [sfx_last] at hx
      unfold linesP
      rw [if_neg h0, if_neg (by simpa using hx)]
    rw [hx] at c1
    simp only [Bool.false_eq_true, if_false] at c1
    rw [linesD, hl]
    refine pc_of_awp cx (fn := Tryd.f27) (c := _) Tryd.func27 rfl rfl (Nat.le_of_ble_eq_true rfl) ?_
    rw [Tryd.ntmps27]; refine Nav.imp ?_
    refine awp_region cx [] fun K hK => ?_
    simp [push_cast]
    repeat (refine And.intro (by clear hK; intros; first | omega | (simp_all; done) | (simp_all <;> omega)) ?_)
    refine hK _ ?_; clear hK K; refine Nav.imp ?_
    refine awp_region cx [(1, .p (.bool false))] fun K hK => ?_
    simp [push_cast, o0]
    repeat (refine And.intro (by clear hK; intros; first | omega | (simp_all; done) | (simp_all <;> omega)) ?_)
    refine hK _ ?_; clear hK K; refine Nav.imp ?_
    refine awp_cond (b := false) (by simp [push_cast]) (fun hb => ?_) (fun hb => ?_) <;> (refine Nav.imp ?_)
    · simp at hb
    · refine awp_region cx [(1, .p (.tup [strD s, .bool false]))] fun K hK => ?_
      simp [push_cast, c1]
      repeat (refine And.intro (by clear hK; intros; first | omega | (simp_all; done) | (simp_all <;> omega)) ?_)
      refine hK _ ?_; clear hK K; refine Nav.imp ?_
      refine awp_region cx [] fun K hK => ?_
      simp [push_cast]
      repeat (refine And.intro (by clear hK; intros; first | omega | (simp_all; done) | (simp_all <;> omega)) ?_)
      refine hK _ ?_; clear hK K; refine Nav.imp ?_
      refine awp_cond (b := true) (by simp [push_cast]) (fun hb => ?_) (fun hb => ?_) <;> (refine Nav.imp ?_)
      · refine awp_region cx [] fun K hK => ?_
        simp [push_cast]
        repeat (refine And.intro (by clear hK; intros; first | omega | (simp_all; done) | (simp_all <;> omega)) ?_)
        refine hK _ ?_; clear hK K; refine Nav.imp ?_
        simp [push_cast]
      · simp at hb
  | true =>
    have hl : linesP s = if sameL (spl s.dropLast) then some (spl s.dropLast) else none := by
      rw [sfx_last] at hx
      unfold linesP
      rw [if_neg h0, if_pos (by simpa using hx)]
    rw [hx] at c1
    simp only [if_true] at c1
    have c2 := split_ok s.dropLast (by simp; omega)
    have htx := txt_spl s.dropLast
    have hdl : s.dropLast.length ≤ 1000000 := by simp; omega
    have hTne := spl_ne s.dropLast
    have htl : ∀ x ∈ spl s.dropLast, x.length ≤ 1000000 := fun x hx' => by
      have h1 : x.length + 1 ≤ (txt (spl s.dropLast)).length := by
        obtain ⟨p, q, hpq⟩ := List.append_of_mem hx'
        rw [hpq, txt_app, txt_cons]
        simp
        omega
      rw [htx] at h1
      simp at h1
      omega
    have hcnt : (spl s.dropLast).length ≤ 1000001 := by
      have h1 : ∀ l : List (List UInt8), l.length ≤ (txt l).length := fun l => by
        induction l with
        | nil => simp
        | cons a l ih => rw [txt_cons]; simp; omega
      have := h1 (spl s.dropLast)
      rw [htx] at this
      simp at this
      omega
    rw [linesD, hl]
    clear hl htx
    generalize s.dropLast = d at *
    generalize spl d = Z at *
    obtain ⟨a, t, rfl⟩ : ∃ a t, Z = a :: t := by cases Z with | nil => exact absurd rfl hTne | cons a t => exact ⟨a, t, rfl⟩
    have hSL : sameL (a :: t) = (a :: t).all fun x => decide (x ≠ []) && decide (x.length = a.length) && x.all okCh := rfl
    have hT0 : (a :: t)[0]? = some a := rfl
    generalize hTT : a :: t = Z at *
    have al : a.length ≤ 1000000 := htl a (by rw [← hTT]; simp)
    clear hTT
    refine pc_of_awp cx (fn := Tryd.f27) (c := _) Tryd.func27 rfl rfl (Nat.le_of_ble_eq_true rfl) ?_
    rw [Tryd.ntmps27]; refine Nav.imp ?_
    refine awp_region cx [] fun K hK => ?_
    simp [push_cast]
    repeat (refine And.intro (by clear hK; intros; first | omega | (simp_all; done) | (simp_all <;> omega)) ?_)
    refine hK _ ?_; clear hK K; refine Nav.imp ?_
    refine awp_region cx [(1, .p (.bool false))] fun K hK => ?_
    simp [push_cast, o0]
    repeat (refine And.intro (by clear hK; intros; first | omega | (simp_all; done) | (simp_all <;> omega)) ?_)
    refine hK _ ?_; clear hK K; refine Nav.imp ?_
    refine awp_cond (b := false) (by simp [push_cast]) (fun hb => ?_) (fun hb => ?_) <;> (refine Nav.imp ?_)
    · simp at hb
    · refine awp_region cx [(1, .p (.tup [strD d, .bool true]))] fun K hK => ?_
      simp [push_cast, c1]
      repeat (refine And.intro (by clear hK; intros; first | omega | (simp_all; done) | (simp_all <;> omega)) ?_)
      refine hK _ ?_; clear hK K; refine Nav.imp ?_
      refine awp_region cx [] fun K hK => ?_
      simp [push_cast]
      repeat (refine And.intro (by clear hK; intros; first | omega | (simp_all; done) | (simp_all <;> omega)) ?_)
      refine hK _ ?_; clear hK K; refine Nav.imp ?_
      refine awp_cond (b := false) (by simp [push_cast]) (fun hb => ?_) (fun hb => ?_) <;> (refine Nav.imp ?_)
      · simp at hb
      · refine awp_region cx [(1, .p (encS Z))] fun K hK => ?_
        simp [push_cast, c2]
        repeat (refine And.intro (by clear hK; intros; first | omega | (simp_all; done) | (simp_all <;> omega)) ?_)
        refine hK _ ?_; clear hK K; refine Nav.imp ?_
        refine awp_region cx [] fun K hK => ?_
        simp [push_cast]
        repeat (refine And.intro (by clear hK; intros; first | omega | (simp_all; done) | (simp_all <;> omega)) ?_)
        refine hK _ ?_; clear hK K; refine Nav.imp ?_
        refine awp_loop (β := Nat) (fun j => ⟨44, [(6, .d (encS Z)), (20, .d (encS Z)), (21, .d (.int .i64 Z.length)), (22, .d (.int .i64 j))], [], 0⟩) (fun j => j ≤ Z.length ∧ ∀ (q : Nat) x, q < j → Z[q]? = some x → (decide (x ≠ []) && decide (x.length = a.length) && x.all okCh) = true) (fun j => Z.length - j) 0 ?_ ⟨Nat.zero_le _, by simp⟩ ?_
        · refine weak_of [] rfl (by simp [upT, up, upL, push_cast]) (by simp [upH, upR, upL, up, push_cast]) (by simp [namesOk, push_cast]) (by simp [olds])
        · rintro j ⟨hj, hall⟩
          refine Nav.imp ?_
          refine awp_region cx [] fun K hK => ?_
          simp [push_cast]
          repeat (refine And.intro (by clear hK; intros; first | omega | (simp_all; done) | (simp_all <;> omega)) ?_)
          refine hK _ ?_; clear hK K; refine Nav.imp ?_
          refine awp_cond (b := decide ((j : Int) < Z.length)) (by simp [push_cast]) (fun hb => ?_) (fun hb => ?_) <;> (refine Nav.imp ?_)
          · have hlt : j < Z.length := by simpa using hb
            obtain ⟨x, hx2⟩ := getq hlt
            have e0 := wrap_i64 (n := (j : Int) + 1) (by omega) (by omega)
            have xl := htl x (List.mem_of_getElem? hx2)
            have o1 := fun (u v : Operand) (yt : TypeId) => opres_eq (P := Tryd.prog) (x := u) (y := v) (yt := yt) str_und x []
            have c3 := plain_ok x
            have hbad : (decide (x ≠ []) && decide (x.length = a.length) && x.all okCh) = false → sameL Z = false := fun h => by
              rw [hSL, List.all_eq_false]
              exact ⟨x, List.mem_of_getElem? hx2, by rw [h]; simp⟩
            refine awp_region cx [] fun K hK => ?_
            simp [push_cast, hx2]
            repeat (refine And.intro (by clear hK; intros; first | omega | (simp_all; done) | (simp_all <;> omega)) ?_)
            refine hK _ ?_; clear hK K; refine Nav.imp ?_
            by_cases q1 : x = []
            · have hS := hbad (by simp [q1])
              rw [hS]
              have r1 : (x == ([] : List UInt8)) = true := by simpa using q1
              rw [r1] at o1
              refine awp_region cx [(1, .p (.bool true)), (13, .skip)] fun K hK => ?_
              simp [push_cast, o1, hT0]
              repeat (refine And.intro (by clear hK; intros; first | omega | (simp_all; done) | (simp_all <;> omega)) ?_)
              refine hK _ ?_; clear hK K; refine Nav.imp ?_
              refine awp_cond (b := true) (by simp [push_cast]) (fun hb => ?_) (fun hb => ?_) <;> (refine Nav.imp ?_)
              · refine awp_region cx [] fun K hK => ?_
                simp [push_cast]
                repeat (refine And.intro (by clear hK; intros; first | omega | (simp_all; done) | (simp_all <;> omega)) ?_)
                refine hK _ ?_; clear hK K; refine Nav.imp ?_
                simp [push_cast]
              · simp at hb
            · have r1 : (x == ([] : List UInt8)) = false := by simpa using q1
              rw [r1] at o1
              by_cases q2 : x.length = a.length
              · have r2 : ((x.length : Int) == (a.length : Int)) = true := by simp [q2]
                cases q3 : x.all okCh with
                | false =>
                  have hS := hbad (by simp [q3])
                  rw [hS]
                  have c4 := c3 (by omega)
                  rw [q3] at c4
                  refine awp_region cx [(1, .p (.bool false)), (13, .p (.bool false))] fun K hK => ?_
                  simp [push_cast, o1, hT0, q2, c4]
                  repeat (refine And.intro (by clear hK; intros; first | omega | (simp_all; done) | (simp_all <;> omega)) ?_)
                  refine hK _ ?_; clear hK K; refine Nav.imp ?_
                  refine awp_cond (b := true) (by simp [push_cast]) (fun hb => ?_) (fun hb => ?_) <;> (refine Nav.imp ?_)
                  · refine awp_region cx [] fun K hK => ?_
                    simp [push_cast]
                    repeat (refine And.intro (by clear hK; intros; first | omega | (simp_all; done) | (simp_all <;> omega)) ?_)
                    refine hK _ ?_; clear hK K; refine Nav.imp ?_
                    simp [push_cast]
                  · simp at hb
                | true =>
                  have c4 := c3 (by omega)
                  rw [q3] at c4
                  refine awp_region cx [(1, .p (.bool false)), (13, .p (.bool true))] fun K hK => ?_
                  simp [push_cast, o1, hT0, q2, c4]
                  repeat (refine And.intro (by clear hK; intros; first | omega | (simp_all; done) | (simp_all <;> omega)) ?_)
                  refine hK _ ?_; clear hK K; refine Nav.imp ?_
                  refine awp_cond (b := false) (by simp [push_cast]) (fun hb => ?_) (fun hb => ?_) <;> (refine Nav.imp ?_)
                  · simp at hb
                  · refine awp_region cx [] fun K hK => ?_
                    simp [push_cast, e0]
                    repeat (refine And.intro (by clear hK; intros; first | omega | (simp_all; done) | (simp_all <;> omega)) ?_)
                    refine hK _ ?_; clear hK K; refine Nav.imp ?_
                    refine ⟨j + 1, ⟨hlt, fun q y hq hy => ?_⟩, by omega, ?_⟩
                    · by_cases e : q < j
                      · exact hall q y e hy
                      · have : q = j := by omega
                        subst this
                        rw [hx2] at hy; cases hy
                        simp [q1, q2, q3]
                    · refine weak_of [] rfl (by simp [upT, up, upL, push_cast]) (by simp [upH, upR, upL, up, push_cast]) (by simp [namesOk, push_cast]) (by simp [olds])
              · have hS := hbad (by simp [q2])
                rw [hS]
                have r2 : ((x.length : Int) == (a.length : Int)) = false := by simp; omega
                refine awp_region cx [(1, .p (.bool false)), (13, .skip)] fun K hK => ?_
                simp [push_cast, o1, hT0, r2]
                repeat (refine And.intro (by clear hK; intros; first | omega | (simp_all; done) | (simp_all <;> omega)) ?_)
                refine hK _ ?_; clear hK K; refine Nav.imp ?_
                refine awp_cond (b := true) (by simp [push_cast]) (fun hb => ?_) (fun hb => ?_) <;> (refine Nav.imp ?_)
                · refine awp_region cx [] fun K hK => ?_
                  simp [push_cast]
                  repeat (refine And.intro (by clear hK; intros; first | omega | (simp_all; done) | (simp_all <;> omega)) ?_)
                  refine hK _ ?_; clear hK K; refine Nav.imp ?_
                  simp [push_cast]
                · simp at hb
          · have hje : j = Z.length := by simp at hb; omega
            have hS : sameL Z = true := by
              rw [hSL, List.all_eq_true]
              intro x hx2
              obtain ⟨q, hq⟩ := List.mem_iff_getElem?.1 hx2
              exact hall q x (by have := (List.getElem?_eq_some_iff.1 hq).1; omega) hq
            rw [hS]
            refine awp_region cx [] fun K hK => ?_
            simp [push_cast]
            repeat (refine And.intro (by clear hK; intros; first | omega | (simp_all; done) | (simp_all <;> omega)) ?_)
            refine hK _ ?_; clear hK K; refine Nav.imp ?_
            simp [push_cast]
theorem shifted_ok (n k : Int) (hk : 0 ≤ k ∧ k ≤ 1000000) : PC Tryd.prog 28 [.int .i64 n, .int .i64 k] (.p (.tup [.int .i64 (if n < -131072 ∨ 131072 < n then 0 else n + k), .bool (!(decide (n < -131072) || decide (131072 < n)) && okB (n + k))])) := by
  by_cases q : n < -131072 ∨ 131072 < n
  · rw [if_pos q]
    have hb1 : (decide (n < -131072) || decide (131072 < n)) = true := by simpa using q
    rw [hb1]
    refine pc_of_awp cx (fn := Tryd.f28) (c := _) Tryd.func28 rfl rfl (Nat.le_of_ble_eq_true rfl) ?_
    rw [Tryd.ntmps28]; refine Nav.imp ?_
    refine awp_region cx [] fun K hK => ?_
    simp [push_cast]
    repeat (refine And.intro (by clear hK; intros; first | omega | (simp_all; done) | (simp_all <;> omega)) ?_)
    refine hK _ ?_; clear hK K; refine Nav.imp ?_
    refine awp_region cx [] fun K hK => ?_
    simp [push_cast]
    repeat (refine And.intro (by clear hK; intros; first | omega | (simp_all; done) | (simp_all <;> omega)) ?_)
    refine hK _ ?_; clear hK K; refine Nav.imp ?_
    refine awp_cond (b := true) (by simp [push_cast, q]) (fun hb => ?_) (fun hb => ?_) <;> (refine Nav.imp ?_)
    · refine awp_region cx [] fun K hK => ?_
      simp [push_cast]
      repeat (refine And.intro (by clear hK; intros; first | omega | (simp_all; done) | (simp_all <;> omega)) ?_)
      refine hK _ ?_; clear hK K; refine Nav.imp ?_
      simp [push_cast]
    · simp at hb
  · rw [if_neg q]
    have hb1 : (decide (n < -131072) || decide (131072 < n)) = false := by simp; omega
    rw [hb1]
    have e1 := wrap_i64 (n := n + k) (by omega) (by omega)
    have c1 := ok_ok (n + k)
    generalize okB (n + k) = b at *
    refine pc_of_awp cx (fn := Tryd.f28) (c := _) Tryd.func28 rfl rfl (Nat.le_of_ble_eq_true rfl) ?_
    rw [Tryd.ntmps28]; refine Nav.imp ?_
    refine awp_region cx [] fun K hK => ?_
    simp [push_cast]
    repeat (refine And.intro (by clear hK; intros; first | omega | (simp_all; done) | (simp_all <;> omega)) ?_)
    refine hK _ ?_; clear hK K; refine Nav.imp ?_
    refine awp_region cx [] fun K hK => ?_
    simp [push_cast]
    repeat (refine And.intro (by clear hK; intros; first | omega | (simp_all; done) | (simp_all <;> omega)) ?_)
    refine hK _ ?_; clear hK K; refine Nav.imp ?_
    refine awp_cond (b := false) (by simp [push_cast, hb1]) (fun hb => ?_) (fun hb => ?_) <;> (refine Nav.imp ?_)
    · simp at hb
    · refine awp_region cx [(6, .p (.bool b))] fun K hK => ?_
      simp [push_cast, e1, c1]
      repeat (refine And.intro (by clear hK; intros; first | omega | (simp_all; done) | (simp_all <;> omega)) ?_)
      refine hK _ ?_; clear hK K; refine Nav.imp ?_
      simp [push_cast]
def lineC (x : List UInt8) (ax y : Int) (m : Nat) : List Cell := (List.range m).filterMap fun k : Nat => if x[k]? = some 35 then some ⟨ax + k, y⟩ else none
theorem lineC_next (x : List UInt8) (ax y : Int) (m : Nat) : lineC x ax y (m + 1) = lineC x ax y m ++ (if x[m]? = some 35 then [⟨ax + m, y⟩] else []) := by
  unfold lineC
  rw [List.range_succ, List.filterMap_append]
  split <;> rename_i h <;> simp [h]
theorem lineC_len (x : List UInt8) (ax y : Int) (m : Nat) : (lineC x ax y m).length ≤ m := by
  unfold lineC
  exact Nat.le_trans (List.length_filterMap_le _ _) (by simp)
def cellsT (l : List (List UInt8)) (o : Cell) (m : Nat) : List Cell := (List.range m).flatMap fun i => lineC (l.getD i []) o.x (o.y + (l.length - 1 - i : Nat)) (l.getD i []).length
theorem cellsT_next (l : List (List UInt8)) (o : Cell) (m : Nat) : cellsT l o (m + 1) = cellsT l o m ++ lineC (l.getD m []) o.x (o.y + (l.length - 1 - m : Nat)) (l.getD m []).length := by
  unfold cellsT
  rw [List.range_succ, List.flatMap_append]
  simp
theorem cellsT_len (l : List (List UInt8)) (o : Cell) : ∀ m, m ≤ l.length → (cellsT l o m).length ≤ (txt (l.take m)).length
  | 0, _ => by simp [cellsT]
  | m + 1, h => by
    have ih := cellsT_len l o m (by omega)
    obtain ⟨x, hx⟩ := getq (show m < l.length by omega)
    rw [cellsT_next, List.length_append, take_get hx, txt_app, List.length_append]
    have hg : l.getD m [] = x := by rw [List.getD_eq_getElem?_getD, hx]; rfl
    have := lineC_len x o.x (o.y + (l.length - 1 - m : Nat)) x.length
    rw [hg, show txt [x] = x ++ [10] by simp [txt]]
    simp
    omega
theorem txt_mono (l : List (List UInt8)) (m : Nat) : (txt (l.take m)).length ≤ (txt l).length := by
  have h : txt l = txt (l.take m) ++ txt (l.drop m) := by rw [← txt_app, List.take_append_drop]
  rw [h, List.length_append]
  omega
def readR (s : List UInt8) (o : Cell) : D := if 65536 < s.length then .tup [.agg (regRow []), .int .i64 2] else match linesP s with
  | none => .tup [.agg (regRow []), .int .i64 5]
  | some l => ofD (cellsT l o l.length)
theorem ofD_bad {l : List Cell} {c : Cell} (hc : c ∈ l) (h : onG c = false) : ofD l = .tup [.agg (regRow []), .int .i64 8] := by
  have : l.all onG = false := by rw [List.all_eq_false]; exact ⟨c, hc, by simp [h]⟩
  simp [ofR, ofE, this]
theorem linesP_len {s : List UInt8} {l : List (List UInt8)} (h : linesP s = some l) : (txt l).length ≤ s.length := by
  unfold linesP at h
  split at h
  · cases h; simp [txt]
  · split at h
    · rename_i hl
      split at h
      · cases h
        rw [txt_spl]
        obtain ⟨ys, rfl⟩ := List.getLast?_eq_some_iff.1 hl
        simp
      · cases h
    · cases h
set_option maxHeartbeats 4000000 in
theorem read_ok (s : List UInt8) (o : Cell) (hs : s.length ≤ 1000000) : PC Tryd.prog 11 [strD s, .agg o.row] (.p (readR s o)) := by
  have hR : readR s o = if 65536 < s.length then .tup [.agg (regRow []), .int .i64 2] else match linesP s with
    | none => .tup [.agg (regRow []), .int .i64 5]
    | some l => ofD (cellsT l o l.length) := rfl
  rw [hR]
  clear hR
  by_cases q0 : 65536 < s.length
  · rw [if_pos q0]
    have q1 : decide ((65536 : Int) < s.length) = true := by simp; omega
    refine pc_of_awp cx (fn := Tryd.f11) (c := _) Tryd.func11 rfl rfl (Nat.le_of_ble_eq_true rfl) ?_
    rw [Tryd.ntmps11]; refine Nav.imp ?_
    refine awp_region cx [] fun K hK => ?_
    simp [push_cast]
    repeat (refine And.intro (by clear hK; intros; first | omega | (simp_all; done) | (simp_all <;> omega)) ?_)
    refine hK _ ?_; clear hK K; refine Nav.imp ?_
    refine awp_region cx [] fun K hK => ?_
    simp [push_cast]
    repeat (refine And.intro (by clear hK; intros; first | omega | (simp_all; done) | (simp_all <;> omega)) ?_)
    refine hK _ ?_; clear hK K; refine Nav.imp ?_
    refine awp_cond (b := true) (by simp [push_cast, q1]) (fun hb => ?_) (fun hb => ?_) <;> (refine Nav.imp ?_)
    · refine awp_region cx [] fun K hK => ?_
      simp [push_cast]
      repeat (refine And.intro (by clear hK; intros; first | omega | (simp_all; done) | (simp_all <;> omega)) ?_)
      refine hK _ ?_; clear hK K; refine Nav.imp ?_
      simp [push_cast]
    · simp at hb
  rw [if_neg q0]
  have q1 : decide ((65536 : Int) < s.length) = false := by simp; omega
  have c1 := lines_ok s hs
  cases hl : linesP s with
  | none =>
    rw [linesD, hl] at c1
    simp only [Option.getD_none, Option.isSome_none, encS, List.map_nil] at c1
    refine pc_of_awp cx (fn := Tryd.f11) (c := _) Tryd.func11 rfl rfl (Nat.le_of_ble_eq_true rfl) ?_
    rw [Tryd.ntmps11]; refine Nav.imp ?_
    refine awp_region cx [] fun K hK => ?_
    simp [push_cast]
    repeat (refine And.intro (by clear hK; intros; first | omega | (simp_all; done) | (simp_all <;> omega)) ?_)
    refine hK _ ?_; clear hK K; refine Nav.imp ?_
    refine awp_region cx [] fun K hK => ?_
    simp [push_cast]
    repeat (refine And.intro (by clear hK; intros; first | omega | (simp_all; done) | (simp_all <;> omega)) ?_)
    refine hK _ ?_; clear hK K; refine Nav.imp ?_
    refine awp_cond (b := false) (by simp [push_cast, q1]) (fun hb => ?_) (fun hb => ?_) <;> (refine Nav.imp ?_)
    · simp at hb
    · refine awp_region cx [(1, .p (.tup [.sl [], .bool false]))] fun K hK => ?_
      simp [push_cast, c1]
      repeat (refine And.intro (by clear hK; intros; first | omega | (simp_all; done) | (simp_all <;> omega)) ?_)
      refine hK _ ?_; clear hK K; refine Nav.imp ?_
      refine awp_region cx [] fun K hK => ?_
      simp [push_cast]
      repeat (refine And.intro (by clear hK; intros; first | omega | (simp_all; done) | (simp_all <;> omega)) ?_)
      refine hK _ ?_; clear hK K; refine Nav.imp ?_
      refine awp_cond (b := true) (by simp [push_cast]) (fun hb => ?_) (fun hb => ?_) <;> (refine Nav.imp ?_)
      · refine awp_region cx [] fun K hK => ?_
        simp [push_cast]
        repeat (refine And.intro (by clear hK; intros; first | omega | (simp_all; done) | (simp_all <;> omega)) ?_)
        refine hK _ ?_; clear hK K; refine Nav.imp ?_
        simp [push_cast]
      · simp at hb
  | some l =>
    rw [linesD, hl] at c1
    simp only [Option.getD_some, Option.isSome_some] at c1
    have hll := linesP_len hl
    have hlc : l.length ≤ 65536 := by
      have h1 : ∀ l : List (List UInt8), l.length ≤ (txt l).length := fun l => by
        induction l with
        | nil => simp
        | cons a l ih => rw [txt_cons]; simp; omega
      have := h1 l
      omega
    have hcl := fun m (h : m ≤ l.length) => Nat.le_trans (cellsT_len l o m h) (Nat.le_trans (txt_mono l m) hll)
    simp only
    have hnext := cellsT_next l o
    have hbad : ∀ c m, m ≤ l.length → c ∈ cellsT l o m → c ∈ cellsT l o l.length := fun c m h hc => by
      unfold cellsT at hc ⊢
      rw [List.mem_flatMap] at hc ⊢
      obtain ⟨i, h1, h2⟩ := hc
      exact ⟨i, List.mem_range.2 (by have := List.mem_range.1 h1; omega), h2⟩
    have htl : (txt l).length ≤ 65536 := by omega
    clear hl hll
    refine pc_of_awp cx (fn := Tryd.f11) (c := _) Tryd.func11 rfl rfl (Nat.le_of_ble_eq_true rfl) ?_
    rw [Tryd.ntmps11]; refine Nav.imp ?_
    refine awp_region cx [] fun K hK => ?_
    simp [push_cast]
    repeat (refine And.intro (by clear hK; intros; first | omega | (simp_all; done) | (simp_all <;> omega)) ?_)
    refine hK _ ?_; clear hK K; refine Nav.imp ?_
    refine awp_region cx [] fun K hK => ?_
    simp [push_cast]
    repeat (refine And.intro (by clear hK; intros; first | omega | (simp_all; done) | (simp_all <;> omega)) ?_)
    refine hK _ ?_; clear hK K; refine Nav.imp ?_
    refine awp_cond (b := false) (by simp [push_cast, q1]) (fun hb => ?_) (fun hb => ?_) <;> (refine Nav.imp ?_)
    · simp at hb
    · refine awp_region cx [(1, .p (.tup [encS l, .bool true]))] fun K hK => ?_
      simp [push_cast, c1]
      repeat (refine And.intro (by clear hK; intros; first | omega | (simp_all; done) | (simp_all <;> omega)) ?_)
      refine hK _ ?_; clear hK K; refine Nav.imp ?_
      refine awp_region cx [] fun K hK => ?_
      simp [push_cast]
      repeat (refine And.intro (by clear hK; intros; first | omega | (simp_all; done) | (simp_all <;> omega)) ?_)
      refine hK _ ?_; clear hK K; refine Nav.imp ?_
      refine awp_cond (b := false) (by simp [push_cast]) (fun hb => ?_) (fun hb => ?_) <;> (refine Nav.imp ?_)
      · simp at hb
      · refine awp_region cx [] fun K hK => ?_
        simp [push_cast]
        repeat (refine And.intro (by clear hK; intros; first | omega | (simp_all; done) | (simp_all <;> omega)) ?_)
        refine hK _ ?_; clear hK K; refine Nav.imp ?_
        refine awp_region cx [] fun K hK => ?_
        simp [push_cast]
        repeat (refine And.intro (by clear hK; intros; first | omega | (simp_all; done) | (simp_all <;> omega)) ?_)
        refine hK _ ?_; clear hK K; refine Nav.imp ?_
        refine awp_loop (β := Nat) (fun j => ⟨81, [(3, .ptr 0 0 0), (4, .ptr 1 0 0), (5, .d (.int .i64 0)), (6, .d (encS l)), (8, if (cellsT l o j) = [] then .nl else .hs 2 0 (cellsT l o j).length), (28, .d (encS l)), (29, .d (.int .i64 l.length)), (30, .d (.int .i64 j))], if (cellsT l o j) = [] then [(0, some ⟨29, 2, [o.row.map .d]⟩), (1, some ⟨24, 1, [[.nl]]⟩)] else [(0, some ⟨29, 2, [o.row.map .d]⟩), (1, some ⟨24, 1, [[.nl]]⟩), (2, some ⟨29, 2, dr ((cellsT l o j).map Cell.row)⟩)], 3⟩) (fun j => j ≤ l.length ∧ ∀ c ∈ cellsT l o j, onG c = true) (fun j => l.length - j) 0 ?_ ⟨Nat.zero_le _, by simp [cellsT]⟩ ?_
        · simp only [show cellsT l o 0 = [] from rfl, if_true]
          refine weak_of [(0, some 0), (1, some 1)] rfl (by simp [upT, up, upL, push_cast]) (by simp [upH, upR, upL, up, push_cast]) (by simp [namesOk, push_cast]) (by simp [olds])
        · rintro j ⟨hj, hall⟩
          have hlen := hcl j hj
          generalize hA : cellsT l o j = A at *
          refine Nav.imp ?_
          by_cases hA0 : A = []
          · simp only [if_pos hA0]
            refine awp_region cx [] fun K hK => ?_
            simp [push_cast]
            repeat (refine And.intro (by clear hK; intros; first | omega | (simp_all; done) | (simp_all <;> omega)) ?_)
            refine hK _ ?_; clear hK K; refine Nav.imp ?_
            refine awp_cond (b := decide ((j : Int) < l.length)) (by simp [push_cast]) (fun hb => ?_) (fun hb => ?_) <;> (refine Nav.imp ?_)
            · have hlt : j < l.length := by simpa using hb
              obtain ⟨x, hx⟩ := getq hlt
              have hgd : l.getD j [] = x := by rw [List.getD_eq_getElem?_getD, hx]; rfl
              have hnx := hnext j
              rw [hgd, hA] at hnx
              have hxl : (cellsT l o (j + 1)).length ≤ 65536 := by have := hcl (j + 1) hlt; omega
              have hbad2 := fun c => hbad c (j + 1) hlt
              have e0 := wrap_i64 (n := (j : Int) + 1) (by omega) (by omega)
              have e1 := wrap_i64 (n := (l.length : Int) - 1) (by omega) (by omega)
              have e2 := wrap_i64 (n := (l.length : Int) - 1 - j) (by omega) (by omega)
              have e3 : (l.length : Int) - 1 - j = ((l.length - 1 - j : Nat) : Int) := by omega
              rw [e3] at e2
              have c2 := shifted_ok o.y ((l.length - 1 - j : Nat) : Int) (by omega)
              generalize hyb : (!(decide (o.y < -131072) || decide (131072 < o.y)) && okB (o.y + ((l.length - 1 - j : Nat) : Int))) = yb at *
              have hyb2 : yb = okB (o.y + ((l.length - 1 - j : Nat) : Int)) := by
                rw [← hyb, Bool.eq_iff_iff]
                simp [okB]
                omega
              generalize hyv : (if o.y < -131072 ∨ 131072 < o.y then 0 else o.y + ((l.length - 1 - j : Nat) : Int)) = yv at *
              have hyv2 : yb = true → yv = o.y + ((l.length - 1 - j : Nat) : Int) := fun h => by
                rw [← hyv, if_neg]
                rw [hyb2] at h
                simp [okB] at h
                omega
              generalize o.y + ((l.length - 1 - j : Nat) : Int) = Y at *
              refine awp_region cx [] fun K hK => ?_
              simp [push_cast, hx]
              repeat (refine And.intro (by clear hK; intros; first | omega | (simp_all; done) | (simp_all <;> omega)) ?_)
              refine hK _ ?_; clear hK K; refine Nav.imp ?_
              refine awp_region cx [(7, .p (.tup [.int .i64 yv, .bool yb]))] fun K hK => ?_
              simp [push_cast, c2, e1, e2, e3]
              repeat (refine And.intro (by clear hK; intros; first | omega | (simp_all; done) | (simp_all <;> omega)) ?_)
              refine hK _ ?_; clear hK K; refine Nav.imp ?_
              refine awp_region cx [] fun K hK => ?_
              simp [push_cast]
              repeat (refine And.intro (by clear hK; intros; first | omega | (simp_all; done) | (simp_all <;> omega)) ?_)
              refine hK _ ?_; clear hK K; refine Nav.imp ?_
              refine awp_loop (β := Nat × List Cell) (fun z => ⟨81, [(3, .ptr 0 0 0), (4, .ptr 1 0 0), (5, .d (.int .i64 0)), (6, .d (encS l)), (8, if z.2 = [] then .nl else .hs 2 0 z.2.length), (10, .d (strD x)), (11, .d (.int .i64 yv)), (12, .d (.bool yb)), (28, .d (encS l)), (29, .d (.int .i64 l.length)), (30, .d (.int .i64 j)), (47, .d (.int .i64 x.length)), (48, .d (.int .i64 z.1))], if z.2 = [] then [(0, some ⟨29, 2, [o.row.map .d]⟩), (1, some ⟨24, 1, [[.nl]]⟩)] else [(0, some ⟨29, 2, [o.row.map .d]⟩), (1, some ⟨24, 1, [[.nl]]⟩), (2, some ⟨29, 2, dr (z.2.map Cell.row)⟩)], 3⟩) (fun z => z.1 ≤ x.length ∧ z.2 = A ++ lineC x o.x Y z.1 ∧ ∀ c ∈ z.2, onG c = true) (fun z => x.length - z.1) (0, A) ?_ ⟨Nat.zero_le _, by simp [lineC], hall⟩ ?_
              · simp only [if_pos hA0]
                refine weak_of [(0, some 0), (1, some 1)] rfl (by simp [upT, up, upL, push_cast]) (by simp [upH, upR, upL, up, push_cast]) (by simp [namesOk, push_cast]) (by simp [olds])
              · rintro ⟨k, B⟩ ⟨hk, hB, hall2⟩
                simp only at hk hB hall2
                by_cases hB0 : B = []
                · simp only [if_pos hB0]
                  refine Nav.imp ?_
                  refine awp_region cx [] fun K hK => ?_
                  simp [push_cast]
                  repeat (refine And.intro (by clear hK; intros; first | omega | (simp_all; done) | (simp_all <;> omega)) ?_)
                  refine hK _ ?_; clear hK K; refine Nav.imp ?_
                  refine awp_cond (b := decide ((k : Int) < x.length)) (by simp [push_cast]) (fun hb => ?_) (fun hb => ?_) <;> (refine Nav.imp ?_)
                  · have hlk : k < x.length := by simpa using hb
                    obtain ⟨c, hc⟩ := getq hlk
                    have o1 := fun (u v : Operand) => opres_index (P := Tryd.prog) (x := u) (y := v) str_und x .i64 (k : Int) c (by omega) (by simpa using hc)
                    have hxl2 : x.length ≤ 65536 := by
                      have h1 := txt_mono l (j + 1)
                      have h2 : x.length ≤ (txt (l.take (j + 1))).length := by
                        rw [take_get hx, txt_app]
                        simp [txt]
                        omega
                      omega
                    have f0 := wrap_i64 (n := (k : Int) + 1) (by omega) (by omega)
                    have hBn : (B ++ [(⟨o.x + k, Y⟩ : Cell)]).length ≤ 200000 := by
                      have := lineC_len x o.x Y k
                      rw [hB]
                      simp
                      omega
                    have h16 : (B.length + 1) * 16 ≤ 140737488355328 := by simp at hBn; omega
                    have hnl := lineC_next x o.x Y k
                    rw [hc] at hnl
                    refine awp_region cx [] fun K hK => ?_
                    simp [push_cast]
                    repeat (refine And.intro (by clear hK; intros; first | omega | (simp_all; done) | (simp_all <;> omega)) ?_)
                    refine hK _ ?_; clear hK K; refine Nav.imp ?_
                    by_cases e : c = 35
                    · subst e
                      rw [if_pos rfl] at hnl
                      have c4 := shifted_ok o.x (k : Int) (by omega)
                      generalize hxb : (!(decide (o.x < -131072) || decide (131072 < o.x)) && okB (o.x + (k : Int))) = xb at *
                      have hxb2 : xb = okB (o.x + (k : Int)) := by
                        rw [← hxb, Bool.eq_iff_iff]
                        simp [okB]
                        omega
                      generalize hxv : (if o.x < -131072 ∨ 131072 < o.x then 0 else o.x + (k : Int)) = xv at *
                      have hxv2 : xb = true → xv = o.x + (k : Int) := fun h => by
                        rw [← hxv, if_neg]
                        rw [hxb2] at h
                        simp [okB] at h
                        omega
                      have hon : onG (⟨o.x + k, Y⟩ : Cell) = (xb && yb) := by
                        rw [hxb2, hyb2, Bool.eq_iff_iff]
                        simp [onG, okB]
                        omega
                      refine awp_region cx [(2, .p (.int .u8 35))] fun K hK => ?_
                      simp [push_cast, o1]
                      repeat (refine And.intro (by clear hK; intros; first | omega | (simp_all; done) | (simp_all <;> omega)) ?_)
                      refine hK _ ?_; clear hK K; refine Nav.imp ?_
                      refine awp_cond (b := false) (by simp [push_cast]) (fun hb => ?_) (fun hb => ?_) <;> (refine Nav.imp ?_)
                      · simp at hb
                      · refine awp_region cx [(3, .p (.tup [.int .i64 xv, .bool xb]))] fun K hK => ?_
                        simp [push_cast, c4]
                        repeat (refine And.intro (by clear hK; intros; first | omega | (simp_all; done) | (simp_all <;> omega)) ?_)
                        refine hK _ ?_; clear hK K; refine Nav.imp ?_
                        cases hbb : (xb && yb) with
                        | false =>
                          rw [hbb] at hon
                          have hmem : (⟨o.x + k, Y⟩ : Cell) ∈ cellsT l o l.length := by
                            refine hbad2 _ ?_
                            rw [hnx, List.mem_append]
                            right
                            unfold lineC
                            rw [List.mem_filterMap]
                            exact ⟨k, List.mem_range.2 hlk, by rw [hc]; simp⟩
                          rw [ofD_bad hmem hon]
                          have hb4 : (!xb || !yb) = true := by rw [← Bool.not_and, hbb]; rfl
                          refine awp_region cx [] fun K hK => ?_
                          simp [push_cast]
                          repeat (refine And.intro (by clear hK; intros; first | omega | (simp_all; done) | (simp_all <;> omega)) ?_)
                          refine hK _ ?_; clear hK K; refine Nav.imp ?_
                          refine awp_cond (b := true) (by simp [push_cast, hb4]) (fun hb => ?_) (fun hb => ?_) <;> (refine Nav.imp ?_)
                          · refine awp_region cx [] fun K hK => ?_
                            simp [push_cast]
                            repeat (refine And.intro (by clear hK; intros; first | omega | (simp_all; done) | (simp_all <;> omega)) ?_)
                            refine hK _ ?_; clear hK K; refine Nav.imp ?_
                            simp [push_cast]
                          · simp at hb
                        | true =>
                          rw [hbb] at hon
                          have hb5 : xb = true ∧ yb = true := by simpa using hbb
                          obtain ⟨rfl, rfl⟩ := hb5
                          have hxv3 := hxv2 rfl
                          have hyv3 := hyv2 rfl
                          subst hxv3 hyv3
                          refine awp_region cx [] fun K hK => ?_
                          simp [push_cast]
                          repeat (refine And.intro (by clear hK; intros; first | omega | (simp_all; done) | (simp_all <;> omega)) ?_)
                          refine hK _ ?_; clear hK K; refine Nav.imp ?_
                          refine awp_cond (b := false) (by simp [push_cast]) (fun hb => ?_) (fun hb => ?_) <;> (refine Nav.imp ?_)
                          · simp at hb
                          · refine awp_region cx [] fun K hK => ?_
                            simp [push_cast, h16]
                            repeat (refine And.intro (by clear hK; intros; first | omega | (simp_all; done) | (simp_all <;> omega)) ?_)
                            refine hK _ ?_; clear hK K; refine Nav.imp ?_
                            refine awp_region cx [] fun K hK => ?_
                            simp [push_cast, f0]
                            repeat (refine And.intro (by clear hK; intros; first | omega | (simp_all; done) | (simp_all <;> omega)) ?_)
                            refine hK _ ?_; clear hK K; refine Nav.imp ?_
                            refine ⟨(k + 1, B ++ [⟨o.x + k, yv⟩]), ⟨hlk, by rw [hnl, hB, List.append_assoc], fun c' hc' => ?_⟩, by simp only; omega, ?_⟩
                            · rcases List.mem_append.1 hc' with h | h
                              · exact hall2 c' h
                              · simp at h; rw [h]; exact hon
                            · simp only [show ¬ (B ++ [(⟨o.x + k, yv⟩ : Cell)] = []) by simp, if_false]
                              refine weak_of [(0, some 0), (1, some 1), (2, some 30)] rfl (by simp [upT, up, upL, push_cast, hB0]) (by simp [upH, upR, upL, up, push_cast, hB0]) (by simp [namesOk, push_cast]) (by simp [olds])
                    · have hne : ((c.toNat : Int) == 35) = false := by
                        simp
                        intro h
                        exact e (UInt8.toNat_inj.1 (by simpa using (by omega : c.toNat = 35)))
                      have hne2 : ¬ ((c.toNat : Int) = 35) := by simpa using hne
                      rw [if_neg (by simpa using e), List.append_nil] at hnl
                      refine awp_region cx [(2, .p (.int .u8 c.toNat))] fun K hK => ?_
                      simp [push_cast, o1]
                      repeat (refine And.intro (by clear hK; intros; first | omega | (simp_all; done) | (simp_all <;> omega)) ?_)
                      refine hK _ ?_; clear hK K; refine Nav.imp ?_
                      refine awp_cond (b := true) (by simp [push_cast, hne2]) (fun hb => ?_) (fun hb => ?_) <;> (refine Nav.imp ?_)
                      · refine awp_region cx [] fun K hK => ?_
                        simp [push_cast, f0]
                        repeat (refine And.intro (by clear hK; intros; first | omega | (simp_all; done) | (simp_all <;> omega)) ?_)
                        refine hK _ ?_; clear hK K; refine Nav.imp ?_
                        refine ⟨(k + 1, B), ⟨hlk, by rw [hnl]; exact hB, hall2⟩, by simp only; omega, ?_⟩
                        simp only [if_pos hB0]
                        refine weak_of [(0, some 0), (1, some 1)] rfl (by simp [upT, up, upL, push_cast]) (by simp [upH, upR, upL, up, push_cast]) (by simp [namesOk, push_cast]) (by simp [olds])
                      · simp at hb
                  · have hke : k = x.length := by simp at hb; omega
                    subst hke
                    rw [← hnx] at hB
                    refine awp_region cx [] fun K hK => ?_
                    simp [push_cast, e0]
                    repeat (refine And.intro (by clear hK; intros; first | omega | (simp_all; done) | (simp_all <;> omega)) ?_)
                    refine hK _ ?_; clear hK K; refine Nav.imp ?_
                    refine ⟨j + 1, ⟨hlt, by rw [← hB]; exact hall2⟩, by omega, ?_⟩
                    rw [← hB]
                    simp only [if_pos hB0]
                    refine weak_of [(0, some 0), (1, some 1)] rfl (by simp [upT, up, upL, push_cast]) (by simp [upH, upR, upL, up, push_cast]) (by simp [namesOk, push_cast]) (by simp [olds])
                · simp only [if_neg hB0]
                  refine Nav.imp ?_
                  refine awp_region cx [] fun K hK => ?_
                  simp [push_cast]
                  repeat (refine And.intro (by clear hK; intros; first | omega | (simp_all; done) | (simp_all <;> omega)) ?_)
                  refine hK _ ?_; clear hK K; refine Nav.imp ?_
                  refine awp_cond (b := decide ((k : Int) < x.length)) (by simp [push_cast]) (fun hb => ?_) (fun hb => ?_) <;> (refine Nav.imp ?_)
                  · have hlk : k < x.length := by simpa using hb
                    obtain ⟨c, hc⟩ := getq hlk
                    have o1 := fun (u v : Operand) => opres_index (P := Tryd.prog) (x := u) (y := v) str_und x .i64 (k : Int) c (by omega) (by simpa using hc)
                    have hxl2 : x.length ≤ 65536 := by
                      have h1 := txt_mono l (j + 1)
                      have h2 : x.length ≤ (txt (l.take (j + 1))).length := by
                        rw [take_get hx, txt_app]
                        simp [txt]
                        omega
                      omega
                    have f0 := wrap_i64 (n := (k : Int) + 1) (by omega) (by omega)
                    have hBn : (B ++ [(⟨o.x + k, Y⟩ : Cell)]).length ≤ 200000 := by
                      have := lineC_len x o.x Y k
                      rw [hB]
                      simp
                      omega
                    have h16 : (B.length + 1) * 16 ≤ 140737488355328 := by simp at hBn; omega
                    have hnl := lineC_next x o.x Y k
                    rw [hc] at hnl
                    refine awp_region cx [] fun K hK => ?_
                    simp [push_cast]
                    repeat (refine And.intro (by clear hK; intros; first | omega | (simp_all; done) | (simp_all <;> omega)) ?_)
                    refine hK _ ?_; clear hK K; refine Nav.imp ?_
                    by_cases e : c = 35
                    · subst e
                      rw [if_pos rfl] at hnl
                      have c4 := shifted_ok o.x (k : Int) (by omega)
                      generalize hxb : (!(decide (o.x < -131072) || decide (131072 < o.x)) && okB (o.x + (k : Int))) = xb at *
                      have hxb2 : xb = okB (o.x + (k : Int)) := by
                        rw [← hxb, Bool.eq_iff_iff]
                        simp [okB]
                        omega
                      generalize hxv : (if o.x < -131072 ∨ 131072 < o.x then 0 else o.x + (k : Int)) = xv at *
                      have hxv2 : xb = true → xv = o.x + (k : Int) := fun h => by
                        rw [← hxv, if_neg]
                        rw [hxb2] at h
                        simp [okB] at h
                        omega
                      have hon : onG (⟨o.x + k, Y⟩ : Cell) = (xb && yb) := by
                        rw [hxb2, hyb2, Bool.eq_iff_iff]
                        simp [onG, okB]
                        omega
                      refine awp_region cx [(2, .p (.int .u8 35))] fun K hK => ?_
                      simp [push_cast, o1]
                      repeat (refine And.intro (by clear hK; intros; first | omega | (simp_all; done) | (simp_all <;> omega)) ?_)
                      refine hK _ ?_; clear hK K; refine Nav.imp ?_
                      refine awp_cond (b := false) (by simp [push_cast]) (fun hb => ?_) (fun hb => ?_) <;> (refine Nav.imp ?_)
                      · simp at hb
                      · refine awp_region cx [(3, .p (.tup [.int .i64 xv, .bool xb]))] fun K hK => ?_
                        simp [push_cast, c4]
                        repeat (refine And.intro (by clear hK; intros; first | omega | (simp_all; done) | (simp_all <;> omega)) ?_)
                        refine hK _ ?_; clear hK K; refine Nav.imp ?_
                        cases hbb : (xb && yb) with
                        | false =>
                          rw [hbb] at hon
                          have hmem : (⟨o.x + k, Y⟩ : Cell) ∈ cellsT l o l.length := by
                            refine hbad2 _ ?_
                            rw [hnx, List.mem_append]
                            right
                            unfold lineC
                            rw [List.mem_filterMap]
                            exact ⟨k, List.mem_range.2 hlk, by rw [hc]; simp⟩
                          rw [ofD_bad hmem hon]
                          have hb4 : (!xb || !yb) = true := by rw [← Bool.not_and, hbb]; rfl
                          refine awp_region cx [] fun K hK => ?_
                          simp [push_cast]
                          repeat (refine And.intro (by clear hK; intros; first | omega | (simp_all; done) | (simp_all <;> omega)) ?_)
                          refine hK _ ?_; clear hK K; refine Nav.imp ?_
                          refine awp_cond (b := true) (by simp [push_cast, hb4]) (fun hb => ?_) (fun hb => ?_) <;> (refine Nav.imp ?_)
                          · refine awp_region cx [] fun K hK => ?_
                            simp [push_cast]
                            repeat (refine And.intro (by clear hK; intros; first | omega | (simp_all; done) | (simp_all <;> omega)) ?_)
                            refine hK _ ?_; clear hK K; refine Nav.imp ?_
                            simp [push_cast]
                          · simp at hb
                        | true =>
                          rw [hbb] at hon
                          have hb5 : xb = true ∧ yb = true := by simpa using hbb
                          obtain ⟨rfl, rfl⟩ := hb5
                          have hxv3 := hxv2 rfl
                          have hyv3 := hyv2 rfl
                          subst hxv3 hyv3
                          refine awp_region cx [] fun K hK => ?_
                          simp [push_cast]
                          repeat (refine And.intro (by clear hK; intros; first | omega | (simp_all; done) | (simp_all <;> omega)) ?_)
                          refine hK _ ?_; clear hK K; refine Nav.imp ?_
                          refine awp_cond (b := false) (by simp [push_cast]) (fun hb => ?_) (fun hb => ?_) <;> (refine Nav.imp ?_)
                          · simp at hb
                          · refine awp_region cx [] fun K hK => ?_
                            simp [push_cast, h16]
                            repeat (refine And.intro (by clear hK; intros; first | omega | (simp_all; done) | (simp_all <;> omega)) ?_)
                            refine hK _ ?_; clear hK K; refine Nav.imp ?_
                            refine awp_region cx [] fun K hK => ?_
                            simp [push_cast, f0]
                            repeat (refine And.intro (by clear hK; intros; first | omega | (simp_all; done) | (simp_all <;> omega)) ?_)
                            refine hK _ ?_; clear hK K; refine Nav.imp ?_
                            refine ⟨(k + 1, B ++ [⟨o.x + k, yv⟩]), ⟨hlk, by rw [hnl, hB, List.append_assoc], fun c' hc' => ?_⟩, by simp only; omega, ?_⟩
                            · rcases List.mem_append.1 hc' with h | h
                              · exact hall2 c' h
                              · simp at h; rw [h]; exact hon
                            · simp only [show ¬ (B ++ [(⟨o.x + k, yv⟩ : Cell)] = []) by simp, if_false]
                              refine weak_of [(0, some 0), (1, some 1), (2, some 30)] rfl (by simp [upT, up, upL, push_cast]) (by simp [upH, upR, upL, up, push_cast]) (by simp [namesOk, push_cast]) (by simp [olds])
                    · have hne : ((c.toNat : Int) == 35) = false := by
                        simp
                        intro h
                        exact e (UInt8.toNat_inj.1 (by simpa using (by omega : c.toNat = 35)))
                      have hne2 : ¬ ((c.toNat : Int) = 35) := by simpa using hne
                      rw [if_neg (by simpa using e), List.append_nil] at hnl
                      refine awp_region cx [(2, .p (.int .u8 c.toNat))] fun K hK => ?_
                      simp [push_cast, o1]
                      repeat (refine And.intro (by clear hK; intros; first | omega | (simp_all; done) | (simp_all <;> omega)) ?_)
                      refine hK _ ?_; clear hK K; refine Nav.imp ?_
                      refine awp_cond (b := true) (by simp [push_cast, hne2]) (fun hb => ?_) (fun hb => ?_) <;> (refine Nav.imp ?_)
                      · refine awp_region cx [] fun K hK => ?_
                        simp [push_cast, f0]
                        repeat (refine And.intro (by clear hK; intros; first | omega | (simp_all; done) | (simp_all <;> omega)) ?_)
                        refine hK _ ?_; clear hK K; refine Nav.imp ?_
                        refine ⟨(k + 1, B), ⟨hlk, by rw [hnl]; exact hB, hall2⟩, by simp only; omega, ?_⟩
                        simp only [if_neg hB0]
                        refine weak_of [(0, some 0), (1, some 1), (2, some 2)] rfl (by simp [upT, up, upL, push_cast]) (by simp [upH, upR, upL, up, push_cast]) (by simp [namesOk, push_cast]) (by simp [olds])
                      · simp at hb
                  · have hke : k = x.length := by simp at hb; omega
                    subst hke
                    rw [← hnx] at hB
                    refine awp_region cx [] fun K hK => ?_
                    simp [push_cast, e0]
                    repeat (refine And.intro (by clear hK; intros; first | omega | (simp_all; done) | (simp_all <;> omega)) ?_)
                    refine hK _ ?_; clear hK K; refine Nav.imp ?_
                    refine ⟨j + 1, ⟨hlt, by rw [← hB]; exact hall2⟩, by omega, ?_⟩
                    rw [← hB]
                    simp only [if_neg hB0]
                    refine weak_of [(0, some 0), (1, some 1), (2, some 2)] rfl (by simp [upT, up, upL, push_cast]) (by simp [upH, upR, upL, up, push_cast]) (by simp [namesOk, push_cast]) (by simp [olds])
            · have hje : j = l.length := by simp at hb; omega
              rw [hje] at hA
              rw [hA]
              have c3 := of_ok A (by omega)
              subst hA0
              simp only [encCells, List.map_nil] at c3
              obtain ⟨R0, hR0⟩ : ∃ R0, ofD [] = R0 := ⟨_, rfl⟩
              obtain ⟨rr, ee, hre⟩ : ∃ rr ee, ofD [] = .tup [.agg [rr], .int .i64 ee] := ⟨_, _, rfl⟩
              rw [hre] at c3 ⊢
              refine awp_region cx [(1, .p (.tup [.agg [rr], .int .i64 ee]))] fun K hK => ?_
              simp [push_cast, c3]
              repeat (refine And.intro (by clear hK; intros; first | omega | (simp_all; done) | (simp_all <;> omega)) ?_)
              refine hK _ ?_; clear hK K; refine Nav.imp ?_
              simp [push_cast]
          · simp only [if_neg hA0]
            refine awp_region cx [] fun K hK => ?_
            simp [push_cast]
            repeat (refine And.intro (by clear hK; intros; first | omega | (simp_all; done) | (simp_all <;> omega)) ?_)
            refine hK _ ?_; clear hK K; refine Nav.imp ?_
            refine awp_cond (b := decide ((j : Int) < l.length)) (by simp [push_cast]) (fun hb => ?_) (fun hb => ?_) <;> (refine Nav.imp ?_)
            · have hlt : j < l.length := by simpa using hb
              obtain ⟨x, hx⟩ := getq hlt
              have hgd : l.getD j [] = x := by rw [List.getD_eq_getElem?_getD, hx]; rfl
              have hnx := hnext j
              rw [hgd, hA] at hnx
              have hxl : (cellsT l o (j + 1)).length ≤ 65536 := by have := hcl (j + 1) hlt; omega
              have hbad2 := fun c => hbad c (j + 1) hlt
              have e0 := wrap_i64 (n := (j : Int) + 1) (by omega) (by omega)
              have e1 := wrap_i64 (n := (l.length : Int) - 1) (by omega) (by omega)
              have e2 := wrap_i64 (n := (l.length : Int) - 1 - j) (by omega) (by omega)
              have e3 : (l.length : Int) - 1 - j = ((l.length - 1 - j : Nat) : Int) := by omega
              rw [e3] at e2
              have c2 := shifted_ok o.y ((l.length - 1 - j : Nat) : Int) (by omega)
              generalize hyb : (!(decide (o.y < -131072) || decide (131072 < o.y)) && okB (o.y + ((l.length - 1 - j : Nat) : Int))) = yb at *
              have hyb2 : yb = okB (o.y + ((l.length - 1 - j : Nat) : Int)) := by
                rw [← hyb, Bool.eq_iff_iff]
                simp [okB]
                omega
              generalize hyv : (if o.y < -131072 ∨ 131072 < o.y then 0 else o.y + ((l.length - 1 - j : Nat) : Int)) = yv at *
              have hyv2 : yb = true → yv = o.y + ((l.length - 1 - j : Nat) : Int) := fun h => by
                rw [← hyv, if_neg]
                rw [hyb2] at h
                simp [okB] at h
                omega
              generalize o.y + ((l.length - 1 - j : Nat) : Int) = Y at *
              refine awp_region cx [] fun K hK => ?_
              simp [push_cast, hx]
              repeat (refine And.intro (by clear hK; intros; first | omega | (simp_all; done) | (simp_all <;> omega)) ?_)
              refine hK _ ?_; clear hK K; refine Nav.imp ?_
              refine awp_region cx [(7, .p (.tup [.int .i64 yv, .bool yb]))] fun K hK => ?_
              simp [push_cast, c2, e1, e2, e3]
              repeat (refine And.intro (by clear hK; intros; first | omega | (simp_all; done) | (simp_all <;> omega)) ?_)
              refine hK _ ?_; clear hK K; refine Nav.imp ?_
              refine awp_region cx [] fun K hK => ?_
              simp [push_cast]
              repeat (refine And.intro (by clear hK; intros; first | omega | (simp_all; done) | (simp_all <;> omega)) ?_)
              refine hK _ ?_; clear hK K; refine Nav.imp ?_
              refine awp_loop (β := Nat × List Cell) (fun z => ⟨81, [(3, .ptr 0 0 0), (4, .ptr 1 0 0), (5, .d (.int .i64 0)), (6, .d (encS l)), (8, if z.2 = [] then .nl else .hs 2 0 z.2.length), (10, .d (strD x)), (11, .d (.int .i64 yv)), (12, .d (.bool yb)), (28, .d (encS l)), (29, .d (.int .i64 l.length)), (30, .d (.int .i64 j)), (47, .d (.int .i64 x.length)), (48, .d (.int .i64 z.1))], if z.2 = [] then [(0, some ⟨29, 2, [o.row.map .d]⟩), (1, some ⟨24, 1, [[.nl]]⟩)] else [(0, some ⟨29, 2, [o.row.map .d]⟩), (1, some ⟨24, 1, [[.nl]]⟩), (2, some ⟨29, 2, dr (z.2.map Cell.row)⟩)], 3⟩) (fun z => z.1 ≤ x.length ∧ z.2 = A ++ lineC x o.x Y z.1 ∧ ∀ c ∈ z.2, onG c = true) (fun z => x.length - z.1) (0, A) ?_ ⟨Nat.zero_le _, by simp [lineC], hall⟩ ?_
              · simp only [if_neg hA0]
                refine weak_of [(0, some 0), (1, some 1), (2, some 2)] rfl (by simp [upT, up, upL, push_cast]) (by simp [upH, upR, upL, up, push_cast]) (by simp [namesOk, push_cast]) (by simp [olds])
              · rintro ⟨k, B⟩ ⟨hk, hB, hall2⟩
                simp only at hk hB hall2
                by_cases hB0 : B = []
                · simp only [if_pos hB0]
                  refine Nav.imp ?_
                  refine awp_region cx [] fun K hK => ?_
                  simp [push_cast]
                  repeat (refine And.intro (by clear hK; intros; first | omega | (simp_all; done) | (simp_all <;> omega)) ?_)
                  refine hK _ ?_; clear hK K; refine Nav.imp ?_
                  refine awp_cond (b := decide ((k : Int) < x.length)) (by simp [push_cast]) (fun hb => ?_) (fun hb => ?_) <;> (refine Nav.imp ?_)
                  · have hlk : k < x.length := by simpa using hb
                    obtain ⟨c, hc⟩ := getq hlk
                    have o1 := fun (u v : Operand) => opres_index (P := Tryd.prog) (x := u) (y := v) str_und x .i64 (k : Int) c (by omega) (by simpa using hc)
                    have hxl2 : x.length ≤ 65536 := by
                      have h1 := txt_mono l (j + 1)
                      have h2 : x.length ≤ (txt (l.take (j + 1))).length := by
                        rw [take_get hx, txt_app]
                        simp [txt]
                        omega
                      omega
                    have f0 := wrap_i64 (n := (k : Int) + 1) (by omega) (by omega)
                    have hBn : (B ++ [(⟨o.x + k, Y⟩ : Cell)]).length ≤ 200000 := by
                      have := lineC_len x o.x Y k
                      rw [hB]
                      simp
                      omega
                    have h16 : (B.length + 1) * 16 ≤ 140737488355328 := by simp at hBn; omega
                    have hnl := lineC_next x o.x Y k
                    rw [hc] at hnl
                    refine awp_region cx [] fun K hK => ?_
                    simp [push_cast]
                    repeat (refine And.intro (by clear hK; intros; first | omega | (simp_all; done) | (simp_all <;> omega)) ?_)
                    refine hK _ ?_; clear hK K; refine Nav.imp ?_
                    by_cases e : c = 35
                    · subst e
                      rw [if_pos rfl] at hnl
                      have c4 := shifted_ok o.x (k : Int) (by omega)
                      generalize hxb : (!(decide (o.x < -131072) || decide (131072 < o.x)) && okB (o.x + (k : Int))) = xb at *
                      have hxb2 : xb = okB (o.x + (k : Int)) := by
                        rw [← hxb, Bool.eq_iff_iff]
                        simp [okB]
                        omega
                      generalize hxv : (if o.x < -131072 ∨ 131072 < o.x then 0 else o.x + (k : Int)) = xv at *
                      have hxv2 : xb = true → xv = o.x + (k : Int) := fun h => by
                        rw [← hxv, if_neg]
                        rw [hxb2] at h
                        simp [okB] at h
                        omega
                      have hon : onG (⟨o.x + k, Y⟩ : Cell) = (xb && yb) := by
                        rw [hxb2, hyb2, Bool.eq_iff_iff]
                        simp [onG, okB]
                        omega
                      refine awp_region cx [(2, .p (.int .u8 35))] fun K hK => ?_
                      simp [push_cast, o1]
                      repeat (refine And.intro (by clear hK; intros; first | omega | (simp_all; done) | (simp_all <;> omega)) ?_)
                      refine hK _ ?_; clear hK K; refine Nav.imp ?_
                      refine awp_cond (b := false) (by simp [push_cast]) (fun hb => ?_) (fun hb => ?_) <;> (refine Nav.imp ?_)
                      · simp at hb
                      · refine awp_region cx [(3, .p (.tup [.int .i64 xv, .bool xb]))] fun K hK => ?_
                        simp [push_cast, c4]
                        repeat (refine And.intro (by clear hK; intros; first | omega | (simp_all; done) | (simp_all <;> omega)) ?_)
                        refine hK _ ?_; clear hK K; refine Nav.imp ?_
                        cases hbb : (xb && yb) with
                        | false =>
                          rw [hbb] at hon
                          have hmem : (⟨o.x + k, Y⟩ : Cell) ∈ cellsT l o l.length := by
                            refine hbad2 _ ?_
                            rw [hnx, List.mem_append]
                            right
                            unfold lineC
                            rw [List.mem_filterMap]
                            exact ⟨k, List.mem_range.2 hlk, by rw [hc]; simp⟩
                          rw [ofD_bad hmem hon]
                          have hb4 : (!xb || !yb) = true := by rw [← Bool.not_and, hbb]; rfl
                          refine awp_region cx [] fun K hK => ?_
                          simp [push_cast]
                          repeat (refine And.intro (by clear hK; intros; first | omega | (simp_all; done) | (simp_all <;> omega)) ?_)
                          refine hK _ ?_; clear hK K; refine Nav.imp ?_
                          refine awp_cond (b := true) (by simp [push_cast, hb4]) (fun hb => ?_) (fun hb => ?_) <;> (refine Nav.imp ?_)
                          · refine awp_region cx [] fun K hK => ?_
                            simp [push_cast]
                            repeat (refine And.intro (by clear hK; intros; first | omega | (simp_all; done) | (simp_all <;> omega)) ?_)
                            refine hK _ ?_; clear hK K; refine Nav.imp ?_
                            simp [push_cast]
                          · simp at hb
                        | true =>
                          rw [hbb] at hon
                          have hb5 : xb = true ∧ yb = true := by simpa using hbb
                          obtain ⟨rfl, rfl⟩ := hb5
                          have hxv3 := hxv2 rfl
                          have hyv3 := hyv2 rfl
                          subst hxv3 hyv3
                          refine awp_region cx [] fun K hK => ?_
                          simp [push_cast]
                          repeat (refine And.intro (by clear hK; intros; first | omega | (simp_all; done) | (simp_all <;> omega)) ?_)
                          refine hK _ ?_; clear hK K; refine Nav.imp ?_
                          refine awp_cond (b := false) (by simp [push_cast]) (fun hb => ?_) (fun hb => ?_) <;> (refine Nav.imp ?_)
                          · simp at hb
                          · refine awp_region cx [] fun K hK => ?_
                            simp [push_cast, h16]
                            repeat (refine And.intro (by clear hK; intros; first | omega | (simp_all; done) | (simp_all <;> omega)) ?_)
                            refine hK _ ?_; clear hK K; refine Nav.imp ?_
                            refine awp_region cx [] fun K hK => ?_
                            simp [push_cast, f0]
                            repeat (refine And.intro (by clear hK; intros; first | omega | (simp_all; done) | (simp_all <;> omega)) ?_)
                            refine hK _ ?_; clear hK K; refine Nav.imp ?_
                            refine ⟨(k + 1, B ++ [⟨o.x + k, yv⟩]), ⟨hlk, by rw [hnl, hB, List.append_assoc], fun c' hc' => ?_⟩, by simp only; omega, ?_⟩
                            · rcases List.mem_append.1 hc' with h | h
                              · exact hall2 c' h
                              · simp at h; rw [h]; exact hon
                            · simp only [show ¬ (B ++ [(⟨o.x + k, yv⟩ : Cell)] = []) by simp, if_false]
                              refine weak_of [(0, some 0), (1, some 1), (2, some 30)] rfl (by simp [upT, up, upL, push_cast, hB0]) (by simp [upH, upR, upL, up, push_cast, hB0]) (by simp [namesOk, push_cast]) (by simp [olds])
                    · have hne : ((c.toNat : Int) == 35) = false := by
                        simp
                        intro h
                        exact e (UInt8.toNat_inj.1 (by simpa using (by omega : c.toNat = 35)))
                      have hne2 : ¬ ((c.toNat : Int) = 35) := by simpa using hne
                      rw [if_neg (by simpa using e), List.append_nil] at hnl
                      refine awp_region cx [(2, .p (.int .u8 c.toNat))] fun K hK => ?_
                      simp [push_cast, o1]
                      repeat (refine And.intro (by clear hK; intros; first | omega | (simp_all; done) | (simp_all <;> omega)) ?_)
                      refine hK _ ?_; clear hK K; refine Nav.imp ?_
                      refine awp_cond (b := true) (by simp [push_cast, hne2]) (fun hb => ?_) (fun hb => ?_) <;> (refine Nav.imp ?_)
                      · refine awp_region cx [] fun K hK => ?_
                        simp [push_cast, f0]
                        repeat (refine And.intro (by clear hK; intros; first | omega | (simp_all; done) | (simp_all <;> omega)) ?_)
                        refine hK _ ?_; clear hK K; refine Nav.imp ?_
                        refine ⟨(k + 1, B), ⟨hlk, by rw [hnl]; exact hB, hall2⟩, by simp only; omega, ?_⟩
                        simp only [if_pos hB0]
                        refine weak_of [(0, some 0), (1, some 1)] rfl (by simp [upT, up, upL, push_cast]) (by simp [upH, upR, upL, up, push_cast]) (by simp [namesOk, push_cast]) (by simp [olds])
                      · simp at hb
                  · have hke : k = x.length := by simp at hb; omega
                    subst hke
                    rw [← hnx] at hB
                    refine awp_region cx [] fun K hK => ?_
                    simp [push_cast, e0]
                    repeat (refine And.intro (by clear hK; intros; first | omega | (simp_all; done) | (simp_all <;> omega)) ?_)
                    refine hK _ ?_; clear hK K; refine Nav.imp ?_
                    refine ⟨j + 1, ⟨hlt, by rw [← hB]; exact hall2⟩, by omega, ?_⟩
                    rw [← hB]
                    simp only [if_pos hB0]
                    refine weak_of [(0, some 0), (1, some 1)] rfl (by simp [upT, up, upL, push_cast]) (by simp [upH, upR, upL, up, push_cast]) (by simp [namesOk, push_cast]) (by simp [olds])
                · simp only [if_neg hB0]
                  refine Nav.imp ?_
                  refine awp_region cx [] fun K hK => ?_
                  simp [push_cast]
                  repeat (refine And.intro (by clear hK; intros; first | omega | (simp_all; done) | (simp_all <;> omega)) ?_)
                  refine hK _ ?_; clear hK K; refine Nav.imp ?_
                  refine awp_cond (b := decide ((k : Int) < x.length)) (by simp [push_cast]) (fun hb => ?_) (fun hb => ?_) <;> (refine Nav.imp ?_)
                  · have hlk : k < x.length := by simpa using hb
                    obtain ⟨c, hc⟩ := getq hlk
                    have o1 := fun (u v : Operand) => opres_index (P := Tryd.prog) (x := u) (y := v) str_und x .i64 (k : Int) c (by omega) (by simpa using hc)
                    have hxl2 : x.length ≤ 65536 := by
                      have h1 := txt_mono l (j + 1)
                      have h2 : x.length ≤ (txt (l.take (j + 1))).length := by
                        rw [take_get hx, txt_app]
                        simp [txt]
                        omega
                      omega
                    have f0 := wrap_i64 (n := (k : Int) + 1) (by omega) (by omega)
                    have hBn : (B ++ [(⟨o.x + k, Y⟩ : Cell)]).length ≤ 200000 := by
                      have := lineC_len x o.x Y k
                      rw [hB]
                      simp
                      omega
                    have h16 : (B.length + 1) * 16 ≤ 140737488355328 := by simp at hBn; omega
                    have hnl := lineC_next x o.x Y k
                    rw [hc] at hnl
                    refine awp_region cx [] fun K hK => ?_
                    simp [push_cast]
                    repeat (refine And.intro (by clear hK; intros; first | omega | (simp_all; done) | (simp_all <;> omega)) ?_)
                    refine hK _ ?_; clear hK K; refine Nav.imp ?_
                    by_cases e : c = 35
                    · subst e
                      rw [if_pos rfl] at hnl
                      have c4 := shifted_ok o.x (k : Int) (by omega)
                      generalize hxb : (!(decide (o.x < -131072) || decide (131072 < o.x)) && okB (o.x + (k : Int))) = xb at *
                      have hxb2 : xb = okB (o.x + (k : Int)) := by
                        rw [← hxb, Bool.eq_iff_iff]
                        simp [okB]
                        omega
                      generalize hxv : (if o.x < -131072 ∨ 131072 < o.x then 0 else o.x + (k : Int)) = xv at *
                      have hxv2 : xb = true → xv = o.x + (k : Int) := fun h => by
                        rw [← hxv, if_neg]
                        rw [hxb2] at h
                        simp [okB] at h
                        omega
                      have hon : onG (⟨o.x + k, Y⟩ : Cell) = (xb && yb) := by
                        rw [hxb2, hyb2, Bool.eq_iff_iff]
                        simp [onG, okB]
                        omega
                      refine awp_region cx [(2, .p (.int .u8 35))] fun K hK => ?_
                      simp [push_cast, o1]
                      repeat (refine And.intro (by clear hK; intros; first | omega | (simp_all; done) | (simp_all <;> omega)) ?_)
                      refine hK _ ?_; clear hK K; refine Nav.imp ?_
                      refine awp_cond (b := false) (by simp [push_cast]) (fun hb => ?_) (fun hb => ?_) <;> (refine Nav.imp ?_)
                      · simp at hb
                      · refine awp_region cx [(3, .p (.tup [.int .i64 xv, .bool xb]))] fun K hK => ?_
                        simp [push_cast, c4]
                        repeat (refine And.intro (by clear hK; intros; first | omega | (simp_all; done) | (simp_all <;> omega)) ?_)
                        refine hK _ ?_; clear hK K; refine Nav.imp ?_
                        cases hbb : (xb && yb) with
                        | false =>
                          rw [hbb] at hon
                          have hmem : (⟨o.x + k, Y⟩ : Cell) ∈ cellsT l o l.length := by
                            refine hbad2 _ ?_
                            rw [hnx, List.mem_append]
                            right
                            unfold lineC
                            rw [List.mem_filterMap]
                            exact ⟨k, List.mem_range.2 hlk, by rw [hc]; simp⟩
                          rw [ofD_bad hmem hon]
                          have hb4 : (!xb || !yb) = true := by rw [← Bool.not_and, hbb]; rfl
                          refine awp_region cx [] fun K hK => ?_
                          simp [push_cast]
                          repeat (refine And.intro (by clear hK; intros; first | omega | (simp_all; done) | (simp_all <;> omega)) ?_)
                          refine hK _ ?_; clear hK K; refine Nav.imp ?_
                          refine awp_cond (b := true) (by simp [push_cast, hb4]) (fun hb => ?_) (fun hb => ?_) <;> (refine Nav.imp ?_)
                          · refine awp_region cx [] fun K hK => ?_
                            simp [push_cast]
                            repeat (refine And.intro (by clear hK; intros; first | omega | (simp_all; done) | (simp_all <;> omega)) ?_)
                            refine hK _ ?_; clear hK K; refine Nav.imp ?_
                            simp [push_cast]
                          · simp at hb
                        | true =>
                          rw [hbb] at hon
                          have hb5 : xb = true ∧ yb = true := by simpa using hbb
                          obtain ⟨rfl, rfl⟩ := hb5
                          have hxv3 := hxv2 rfl
                          have hyv3 := hyv2 rfl
                          subst hxv3 hyv3
                          refine awp_region cx [] fun K hK => ?_
                          simp [push_cast]
                          repeat (refine And.intro (by clear hK; intros; first | omega | (simp_all; done) | (simp_all <;> omega)) ?_)
                          refine hK _ ?_; clear hK K; refine Nav.imp ?_
                          refine awp_cond (b := false) (by simp [push_cast]) (fun hb => ?_) (fun hb => ?_) <;> (refine Nav.imp ?_)
                          · simp at hb
                          · refine awp_region cx [] fun K hK => ?_
                            simp [push_cast, h16]
                            repeat (refine And.intro (by clear hK; intros; first | omega | (simp_all; done) | (simp_all <;> omega)) ?_)
                            refine hK _ ?_; clear hK K; refine Nav.imp ?_
                            refine awp_region cx [] fun K hK => ?_
                            simp [push_cast, f0]
                            repeat (refine And.intro (by clear hK; intros; first | omega | (simp_all; done) | (simp_all <;> omega)) ?_)
                            refine hK _ ?_; clear hK K; refine Nav.imp ?_
                            refine ⟨(k + 1, B ++ [⟨o.x + k, yv⟩]), ⟨hlk, by rw [hnl, hB, List.append_assoc], fun c' hc' => ?_⟩, by simp only; omega, ?_⟩
                            · rcases List.mem_append.1 hc' with h | h
                              · exact hall2 c' h
                              · simp at h; rw [h]; exact hon
                            · simp only [show ¬ (B ++ [(⟨o.x + k, yv⟩ : Cell)] = []) by simp, if_false]
                              refine weak_of [(0, some 0), (1, some 1), (2, some 30)] rfl (by simp [upT, up, upL, push_cast]) (by simp [upH, upR, upL, up, push_cast]) (by simp [namesOk, push_cast]) (by simp [olds])
                    · have hne : ((c.toNat : Int) == 35) = false := by
                        simp
                        intro h
                        exact e (UInt8.toNat_inj.1 (by simpa using (by omega : c.toNat = 35)))
                      have hne2 : ¬ ((c.toNat : Int) = 35) := by simpa using hne
                      rw [if_neg (by simpa using e), List.append_nil] at hnl
                      refine awp_region cx [(2, .p (.int .u8 c.toNat))] fun K hK => ?_
                      simp [push_cast, o1]
                      repeat (refine And.intro (by clear hK; intros; first | omega | (simp_all; done) | (simp_all <;> omega)) ?_)
                      refine hK _ ?_; clear hK K; refine Nav.imp ?_
                      refine awp_cond (b := true) (by simp [push_cast, hne2]) (fun hb => ?_) (fun hb => ?_) <;> (refine Nav.imp ?_)
                      · refine awp_region cx [] fun K hK => ?_
                        simp [push_cast, f0]
                        repeat (refine And.intro (by clear hK; intros; first | omega | (simp_all; done) | (simp_all <;> omega)) ?_)
                        refine hK _ ?_; clear hK K; refine Nav.imp ?_
                        refine ⟨(k + 1, B), ⟨hlk, by rw [hnl]; exact hB, hall2⟩, by simp only; omega, ?_⟩
                        simp only [if_neg hB0]
                        refine weak_of [(0, some 0), (1, some 1), (2, some 2)] rfl (by simp [upT, up, upL, push_cast]) (by simp [upH, upR, upL, up, push_cast]) (by simp [namesOk, push_cast]) (by simp [olds])
                      · simp at hb
                  · have hke : k = x.length := by simp at hb; omega
                    subst hke
                    rw [← hnx] at hB
                    refine awp_region cx [] fun K hK => ?_
                    simp [push_cast, e0]
                    repeat (refine And.intro (by clear hK; intros; first | omega | (simp_all; done) | (simp_all <;> omega)) ?_)
                    refine hK _ ?_; clear hK K; refine Nav.imp ?_
                    refine ⟨j + 1, ⟨hlt, by rw [← hB]; exact hall2⟩, by omega, ?_⟩
                    rw [← hB]
                    simp only [if_neg hB0]
                    refine weak_of [(0, some 0), (1, some 1), (2, some 2)] rfl (by simp [upT, up, upL, push_cast]) (by simp [upH, upR, upL, up, push_cast]) (by simp [namesOk, push_cast]) (by simp [olds])
            · have hje : j = l.length := by simp at hb; omega
              rw [hje] at hA
              rw [hA]
              have c3 := of_ok A (by omega)
              obtain ⟨rr, ee, hre⟩ : ∃ rr ee, ofD A = .tup [.agg [rr], .int .i64 ee] := ⟨_, _, rfl⟩
              rw [hre] at c3 ⊢
              refine awp_freeze 2 (A.map Cell.row) rfl (by simp [push_cast]) fun K hK => ?_
              simp [push_cast, St.fz, fzT, fzH, fzO, fz, fzL, fzR, fzR_dr, fzR_app, fzR_set, fzL_map]
              refine hK _ ?_; clear hK K; refine Nav.imp ?_
              refine awp_region cx [(1, .p (.tup [.agg [rr], .int .i64 ee]))] fun K hK => ?_
              simp [push_cast, c3]
              repeat (refine And.intro (by clear hK; intros; first | omega | (simp_all; done) | (simp_all <;> omega)) ?_)
              refine hK _ ?_; clear hK K; refine Nav.imp ?_
              simp [push_cast]
end Go.Proofs.YtgicofpllopjmaaDoor

namespace Go.Proofs.YtgicofpllopjmaaDoor
open Go.Abs

theorem ltY_uniq : ∀ {l l' : List Cell}, l.Pairwise ltY → l'.Pairwise ltY → (∀ c, c ∈ l ↔ c ∈ l') → l = l' := by
  intro l l' h1 h2 h
  refine sortedY_uniq ?_ (h1.imp fun h => leY_of_lt h) (h2.imp fun h => leY_of_lt h)
  exact (List.perm_ext_iff_of_nodup (nodup_of_ltY h1) (nodup_of_ltY h2)).2 h
theorem region_uniq {R S : List Row} (hR : validR R = true) (hS : validR S = true) (h : ∀ c, c ∈ regCells R ↔ c ∈ regCells S) : R = S := by
  rw [← build_cells hR, ← build_cells hS, ltY_uniq (cells_pw hR) (cells_pw hS) h]

def inR (l : List Run) (x : Int) : Bool := l.any fun r => decide (r.a ≤ x) && decide (x < r.b)
theorem inR_iff {l : List Run} {x : Int} : inR l x = true ↔ ∃ r ∈ l, r.a ≤ x ∧ x < r.b := by simp [inR]
def Apart (l : List Run) : Prop := (∀ r ∈ l, r.a < r.b) ∧ l.Pairwise fun p r => p.b < r.a
theorem rv_gap {l : List Run} (h : rvalid l = true) {k : Nat} {r p : Run} (hr : l[k + 1]? = some r) (hp : l[k]? = some p) : p.b < r.a := by
  have hk := (List.getElem?_eq_some_iff.1 hr).1
  have := all_range_at h hk
  rw [rvAt_some hr (by simpa using hp)] at this
  simp at this
  omega
theorem rv_lt {l : List Run} (h : rvalid l = true) : ∀ (j i : Nat) (r p : Run), i < j → l[j]? = some r → l[i]? = some p → p.b < r.a
  | 0, i, r, p, hij, _, _ => by omega
  | j + 1, i, r, p, hij, hr, hp => by
    by_cases e : i = j
    · subst e; exact rv_gap h hr hp
    · have hj := (List.getElem?_eq_some_iff.1 hr).1
      obtain ⟨q, hq⟩ : ∃ q, l[j]? = some q := getq (by omega)
      have h1 := rv_lt h j i q p (by omega) hq hp
      have h2 := rv_gap h hr hq
      have h3 := rvalid_at h hq
      omega
theorem rvalid_iff {l : List Run} : rvalid l = true ↔ Apart l ∧ ∀ r ∈ l, fitsB r = true := by
  constructor
  · intro h
    refine ⟨⟨fun r hr => ?_, ?_⟩, fun r hr => ?_⟩
    · obtain ⟨i, hi⟩ := List.mem_iff_getElem?.1 hr; exact (rvalid_at h hi).1
    · rw [List.pairwise_iff_getElem]
      intro i j hi hj hij
      exact rv_lt h j i l[j] l[i] hij (List.getElem?_eq_getElem hj) (List.getElem?_eq_getElem hi)
    · obtain ⟨i, hi⟩ := List.mem_iff_getElem?.1 hr; exact (rvalid_at h hi).2
  · rintro ⟨⟨h1, h2⟩, h3⟩
    apply List.all_eq_true.2
    intro i hi
    have hi : i < l.length := by simpa using hi
    obtain ⟨r, hr⟩ := getq hi
    obtain ⟨p, hp⟩ : ∃ q, l[i - 1]? = some q := getq (by omega)
    rw [rvAt_some hr hp]
    have hm := List.mem_of_getElem? hr
    simp only [Bool.and_eq_true, decide_eq_true_eq, Bool.or_eq_true, beq_iff_eq]
    refine ⟨⟨h1 r hm, h3 r hm⟩, ?_⟩
    by_cases e : i = 0
    · exact .inl e
    · right
      obtain ⟨hi', rfl⟩ := List.getElem?_eq_some_iff.1 hr
      obtain ⟨hp', rfl⟩ := List.getElem?_eq_some_iff.1 hp
      exact List.pairwise_iff_getElem.1 h2 (i - 1) i hp' hi' (by omega)
theorem fine_apart {l : List Run} : fine l = true ↔ l ≠ [] ∧ Apart l ∧ ∀ r ∈ l, -4096 ≤ r.a ∧ r.b ≤ 4096 := by
  constructor
  · intro h
    have hne : l ≠ [] := by rintro rfl; simp [fine] at h
    refine ⟨hne, (rvalid_iff.1 (fine_rv h)).1, fun r hr => ?_⟩
    obtain ⟨i, hi⟩ := List.mem_iff_getElem?.1 hr
    have := fine_at h hi
    omega
  · rintro ⟨hne, h1, h2⟩
    have hrv : rvalid l = true := rvalid_iff.2 ⟨h1, fun r hr => by
      have := h2 r hr; have := h1.1 r hr; simp [fitsB]; omega⟩
    have hlp := List.length_pos_iff.2 hne
    obtain ⟨f, hf⟩ : ∃ f, l[0]? = some f := getq hlp
    obtain ⟨z, hz⟩ : ∃ f, l[l.length - 1]? = some f := getq (by omega)
    rw [fine_iff hf hz, hrv]
    have a1 := h2 f (List.mem_of_getElem? hf)
    have a2 := h1.1 f (List.mem_of_getElem? hf)
    have a3 := h2 z (List.mem_of_getElem? hz)
    have a4 := h1.1 z (List.mem_of_getElem? hz)
    simp [okB]; omega

def bnd (l : List Run) (i : Nat) : Int := match l[i / 2]? with
  | some r => if i % 2 = 1 then r.b else r.a
  | none => 1048577
theorem bnd_even {l : List Run} {k : Nat} {r : Run} (h : l[k]? = some r) : bnd l (2 * k) = r.a := by
  have e : 2 * k / 2 = k := by omega
  have e2 : ¬ 2 * k % 2 = 1 := by omega
  simp only [bnd, e, h, if_neg e2]
theorem bnd_odd {l : List Run} {k : Nat} {r : Run} (h : l[k]? = some r) : bnd l (2 * k + 1) = r.b := by
  have e : (2 * k + 1) / 2 = k := by omega
  have e2 : (2 * k + 1) % 2 = 1 := by omega
  simp only [bnd, e, h, if_pos e2]
theorem bnd_over (l : List Run) : bnd l (2 * l.length) = 1048577 := by
  have e : 2 * l.length / 2 = l.length := by omega
  simp [bnd, e]
theorem bnd_cases {l : List Run} {i : Nat} (h : i < 2 * l.length) : ∃ k r, l[k]? = some r ∧ (i = 2 * k ∧ bnd l i = r.a ∨ i = 2 * k + 1 ∧ bnd l i = r.b) := by
  obtain ⟨r, hr⟩ : ∃ r, l[i / 2]? = some r := getq (by omega)
  refine ⟨i / 2, r, hr, ?_⟩
  by_cases e : i % 2 = 1
  · right
    have e1 : i = 2 * (i / 2) + 1 := by omega
    exact ⟨e1, (congrArg (bnd l) e1).trans (bnd_odd hr)⟩
  · left
    have e1 : i = 2 * (i / 2) := by omega
    exact ⟨e1, (congrArg (bnd l) e1).trans (bnd_even hr)⟩
theorem bnd_step {l : List Run} (h : rvalid l = true) {i : Nat} (hi : i < 2 * l.length) : bnd l i < bnd l (i + 1) := by
  obtain ⟨k, r, hr, ⟨e1, e2⟩ | ⟨e1, e2⟩⟩ := bnd_cases hi
  · rw [e2, e1, bnd_odd hr]; exact (rvalid_at h hr).1
  · by_cases hk : k + 1 < l.length
    · obtain ⟨s, hs⟩ := getq hk
      rw [e2, e1, show 2 * k + 1 + 1 = 2 * (k + 1) from by omega, bnd_even hs]
      exact rv_gap h hs hr
    · have := (List.getElem?_eq_some_iff.1 hr).1
      rw [e2, e1, show 2 * k + 1 + 1 = 2 * l.length from by omega, bnd_over]
      have := fitsB_bd (rvalid_at h hr).2
      omega
theorem bnd_asc {l : List Run} (h : rvalid l = true) : ∀ (n i : Nat), i + n ≤ 2 * l.length → bnd l i ≤ bnd l (i + n)
  | 0, i, _ => Int.le_refl _
  | n + 1, i, hi => by
    have h1 := bnd_asc h n i (by omega)
    have h2 := bnd_step h (i := i + n) (by omega)
    rw [show i + (n + 1) = i + n + 1 from by omega]
    omega
theorem bnd_fits {l : List Run} (h : rvalid l = true) {i : Nat} (hi : i < 2 * l.length) : -1048576 ≤ bnd l i ∧ bnd l i ≤ 1048576 := by
  obtain ⟨k, r, hr, ⟨e1, e2⟩ | ⟨e1, e2⟩⟩ := bnd_cases hi <;>
  · have := fitsB_bd (rvalid_at h hr).2
    omega
theorem inR_bnd {l : List Run} (h : rvalid l = true) {p : Nat} {y : Int} (hp : p ≤ 2 * l.length) (h1 : ∀ i, i < p → bnd l i ≤ y) (h2 : p < 2 * l.length → y < bnd l p) : inR l y = (p % 2 == 1) := by
  apply Bool.eq_iff_iff.2
  rw [inR_iff]
  simp only [beq_iff_eq]
  constructor
  · rintro ⟨r, hr, h3, h4⟩
    obtain ⟨k, hk⟩ := List.mem_iff_getElem?.1 hr
    have hkl := (List.getElem?_eq_some_iff.1 hk).1
    apply Classical.byContradiction
    intro he
    have e : p = 2 * (p / 2) := by omega
    by_cases hlt : k < p / 2
    · have := h1 (2 * k + 1) (by omega)
      rw [bnd_odd hk] at this
      omega
    · have h5 := h2 (by omega)
      have h6 := bnd_asc h (2 * k - p) p (by omega)
      rw [show p + (2 * k - p) = 2 * k from by omega, bnd_even hk] at h6
      omega
  · intro he
    have e : p = 2 * (p / 2) + 1 := by omega
    obtain ⟨r, hr⟩ : ∃ r, l[p / 2]? = some r := getq (by omega)
    refine ⟨r, List.mem_of_getElem? hr, ?_, ?_⟩
    · have := h1 (2 * (p / 2)) (by omega)
      rwa [bnd_even hr] at this
    · have := h2 (by omega)
      rw [e, bnd_odd hr] at this
      exact this

def swX (a b : List Run) (p q : Nat) : Int := min (bnd a p) (bnd b q)
def swP (a : List Run) (x : Int) (p : Nat) : Nat := if bnd a p = x then p + 1 else p
def swOut (now o : Bool) (out : List Run) (x : Int) : List Run :=
  if now && !o then out ++ [⟨x, 0⟩] else if !now && o then out.dropLast ++ [⟨(out.getLast?.getD ⟨0, 0⟩).a, x⟩] else out
def swF (f : Bool → Bool → Bool) (a b : List Run) : Nat → Nat → Nat → List Run → Bool → List Run
  | 0, _, _, out, _ => out
  | n + 1, p, q, out, o =>
    if p = 2 * a.length ∧ q = 2 * b.length then out else
      swF f a b n (swP a (swX a b p q) p) (swP b (swX a b p q) q)
        (swOut (f (swP a (swX a b p q) p % 2 == 1) (swP b (swX a b p q) q % 2 == 1)) o out (swX a b p q)) (f (swP a (swX a b p q) p % 2 == 1) (swP b (swX a b p q) q % 2 == 1))
def sweep (f : Bool → Bool → Bool) (a b : List Run) : List Run := if rvalid a && rvalid b then swF f a b (2 * a.length + 2 * b.length) 0 0 [] false else []

structure SwAt (f : Bool → Bool → Bool) (a b : List Run) (p q : Nat) (out : List Run) (o : Bool) (X : Int) (C : List Run) (s : Int) : Prop where
  hp : p ≤ 2 * a.length
  hq : q ≤ 2 * b.length
  p1 : ∀ i, i < p → bnd a i ≤ X
  p2 : p < 2 * a.length → X < bnd a p
  q1 : ∀ i, i < q → bnd b i ≤ X
  q2 : q < 2 * b.length → X < bnd b q
  eout : out = if o then C ++ [⟨s, 0⟩] else C
  ap : Apart C
  le : ∀ r ∈ C, r.b ≤ X
  so : o = true → s ≤ X ∧ ∀ r ∈ C, r.b < s
  eo : o = f (p % 2 == 1) (q % 2 == 1)
  mem : ∀ y, y ≤ X → (f (inR a y) (inR b y) = true ↔ (inR C y = true ∨ (o = true ∧ s ≤ y)))

theorem swP_facts {a : List Run} (ha : rvalid a = true) {p : Nat} {X x : Int} (hp : p ≤ 2 * a.length) (p1 : ∀ i, i < p → bnd a i ≤ X) (hX : X < x) (hx : x ≤ bnd a p) (hb : x ≤ 1048576) :
    swP a x p ≤ 2 * a.length ∧ (∀ i, i < swP a x p → bnd a i ≤ x) ∧ (swP a x p < 2 * a.length → x < bnd a (swP a x p)) := by
  unfold swP
  split
  · rename_i e
    have hlt : p < 2 * a.length := by
      apply Classical.byContradiction
      intro h
      have h3 : bnd a p = 1048577 := by rw [show p = 2 * a.length from by omega]; exact bnd_over a
      omega
    refine ⟨hlt, fun i hi => ?_, fun h => ?_⟩
    · by_cases e2 : i = p
      · subst e2; omega
      · have := p1 i (by omega); omega
    · have := bnd_step ha hlt; omega
  · rename_i e
    refine ⟨hp, fun i hi => by have := p1 i hi; omega, fun h => by omega⟩

theorem inR_app (C : List Run) (r : Run) (y : Int) : inR (C ++ [r]) y = (inR C y || (decide (r.a ≤ y) && decide (y < r.b))) := by simp [inR]
theorem sw_step {f : Bool → Bool → Bool} {a b : List Run} (ha : rvalid a = true) (hb : rvalid b = true) {p q : Nat} {out : List Run} {o : Bool} {X : Int} {C : List Run} {s : Int} (h : SwAt f a b p q out o X C s) (hn : ¬ (p = 2 * a.length ∧ q = 2 * b.length)) :
    X < swX a b p q ∧ ∃ C' s', SwAt f a b (swP a (swX a b p q) p) (swP b (swX a b p q) q) (swOut (f (swP a (swX a b p q) p % 2 == 1) (swP b (swX a b p q) q % 2 == 1)) o out (swX a b p q)) (f (swP a (swX a b p q) p % 2 == 1) (swP b (swX a b p q) q % 2 == 1)) (swX a b p q) C' s' := by
  obtain ⟨hp, hq, p1, p2, q1, q2, hout, hap, hle, hso, ho, hmem⟩ := h
  have x1 : swX a b p q ≤ bnd a p := Int.min_le_left _ _
  have x2 : swX a b p q ≤ bnd b q := Int.min_le_right _ _
  have x3 : swX a b p q = bnd a p ∨ swX a b p q = bnd b q := by unfold swX; omega
  have hXb : swX a b p q ≤ 1048576 := by
    by_cases e : p < 2 * a.length
    · have := bnd_fits ha e; omega
    · have := bnd_fits hb (i := q) (by omega); omega
  have hX : X < swX a b p q := by
    rcases x3 with e | e
    · rw [e]
      refine p2 ?_
      apply Classical.byContradiction
      intro h
      have h3 : bnd a p = 1048577 := by rw [show p = 2 * a.length from by omega]; exact bnd_over a
      omega
    · rw [e]
      refine q2 ?_
      apply Classical.byContradiction
      intro h
      have h3 : bnd b q = 1048577 := by rw [show q = 2 * b.length from by omega]; exact bnd_over b
      omega
  obtain ⟨P1, P2, P3⟩ := swP_facts ha hp p1 hX x1 hXb
  obtain ⟨Q1, Q2, Q3⟩ := swP_facts hb hq q1 hX x2 hXb
  generalize swX a b p q = x at *
  generalize swP a x p = p' at *
  generalize swP b x q = q' at *
  have hbet : ∀ y, X ≤ y → y < x → f (inR a y) (inR b y) = o := fun y h1 h2 => by
    rw [inR_bnd ha hp (fun i hi => Int.le_trans (p1 i hi) h1) (fun _ => by omega), inR_bnd hb hq (fun i hi => Int.le_trans (q1 i hi) h1) (fun _ => by omega)]
    exact ho.symm
  have hat : f (inR a x) (inR b x) = f (p' % 2 == 1) (q' % 2 == 1) := by rw [inR_bnd ha P1 P2 P3, inR_bnd hb Q1 Q2 Q3]
  generalize hnow : f (p' % 2 == 1) (q' % 2 == 1) = now at *
  have hnoC : ∀ y, X ≤ y → inR C y = false := fun y h1 => by
    rw [Bool.eq_false_iff]
    intro hc
    obtain ⟨r, hr, h2, h3⟩ := inR_iff.1 hc
    have := hle r hr
    omega
  refine ⟨hX, ?_⟩
  have dich : ∀ y, y ≤ x → y ≤ X ∨ (X < y ∧ y < x) ∨ y = x := fun y hy => by omega
  cases hnw : now <;> cases hoo : o
  · -- neither
    refine ⟨C, s, P1, Q1, P2, P3, Q2, Q3, ?_, hap, fun r hr => by have := hle r hr; omega, fun h => (by cases h), by rw [hnow, hnw], fun y hy => ?_⟩
    · simp [swOut, hout, hoo]
    · rcases dich y hy with h | ⟨h1, h2⟩ | h
      · rw [hmem y h, hoo]
      · rw [hbet y (by omega) h2, hoo, hnoC y (by omega)]; simp
      · rw [h, hat, hnw, hnoC x (by omega)]; simp
  · -- the run ends
    have ⟨hs1, hs2⟩ := hso hoo
    refine ⟨C ++ [⟨s, x⟩], 0, P1, Q1, P2, P3, Q2, Q3, ?_, ⟨?_, ?_⟩, ?_, fun h => (by cases h), by rw [hnow, hnw], fun y hy => ?_⟩
    · simp [swOut, hout, hoo]
    · intro r hr
      rcases List.mem_append.1 hr with hr | hr
      · exact hap.1 r hr
      · simp at hr; subst hr; simp only; omega
    · rw [List.pairwise_append]
      refine ⟨hap.2, by simp, fun r hr t ht => ?_⟩
      simp at ht; subst ht; exact hs2 r hr
    · intro r hr
      rcases List.mem_append.1 hr with hr | hr
      · have := hle r hr; omega
      · simp at hr; subst hr; simp
    · rw [inR_app]
      rcases dich y hy with h | ⟨h1, h2⟩ | h
      · have : y < x := by omega
        rw [hmem y h, hoo]; simp [this]
      · rw [hbet y (by omega) h2, hoo, hnoC y (by omega)]; simp; omega
      · rw [h, hat, hnw, hnoC x (by omega)]; simp
  · -- a run begins
    refine ⟨C, x, P1, Q1, P2, P3, Q2, Q3, ?_, hap, fun r hr => by have := hle r hr; omega, fun _ => ⟨Int.le_refl _, fun r hr => by have := hle r hr; omega⟩, by rw [hnow, hnw], fun y hy => ?_⟩
    · simp [swOut, hout, hoo]
    · rcases dich y hy with h | ⟨h1, h2⟩ | h
      · rw [hmem y h, hoo]; simp; omega
      · rw [hbet y (by omega) h2, hoo, hnoC y (by omega)]; simp; omega
      · rw [h, hat, hnw]; simp
  · -- the run goes on
    have ⟨hs1, hs2⟩ := hso hoo
    refine ⟨C, s, P1, Q1, P2, P3, Q2, Q3, ?_, hap, fun r hr => by have := hle r hr; omega, fun _ => ⟨by omega, hs2⟩, by rw [hnow, hnw], fun y hy => ?_⟩
    · simp [swOut, hout, hoo]
    · rcases dich y hy with h | ⟨h1, h2⟩ | h
      · rw [hmem y h, hoo]
      · rw [hbet y (by omega) h2, hoo]; simp; omega
      · rw [h, hat, hnw]; simp; omega
theorem sw_all {f : Bool → Bool → Bool} (hf : f false false = false) {a b : List Run} (ha : rvalid a = true) (hb : rvalid b = true) : ∀ (n p q : Nat) (out : List Run) (o : Bool) (X : Int) (C : List Run) (s : Int), SwAt f a b p q out o X C s → 2 * a.length + 2 * b.length ≤ n + (p + q) →
    Apart (swF f a b n p q out o) ∧ ∀ y, inR (swF f a b n p q out o) y = f (inR a y) (inR b y) := by
  have fin : ∀ (p q : Nat) (out : List Run) (o : Bool) (X : Int) (C : List Run) (s : Int), SwAt f a b p q out o X C s → p = 2 * a.length ∧ q = 2 * b.length → Apart out ∧ ∀ y, inR out y = f (inR a y) (inR b y) := by
    rintro p q out o X C s ⟨hp, hq, p1, p2, q1, q2, hout, hap, hle, hso, ho, hmem⟩ ⟨e1, e2⟩
    have ho0 : o = false := by
      rw [ho, e1, e2]
      have h1 : (2 * a.length % 2 == 1) = false := by simp
      have h2 : (2 * b.length % 2 == 1) = false := by simp
      rw [h1, h2, hf]
    subst ho0
    simp only [Bool.false_eq_true, if_false] at hout
    subst hout
    refine ⟨hap, fun y => ?_⟩
    by_cases hy : y ≤ X
    · have := hmem y hy
      simp only [Bool.false_eq_true, false_and, or_false] at this
      exact (Bool.eq_iff_iff.2 this).symm
    · have h1 := inR_bnd ha hp (fun i hi => Int.le_trans (p1 i hi) (by omega : X ≤ y)) (fun h => by omega)
      have h2 := inR_bnd hb hq (fun i hi => Int.le_trans (q1 i hi) (by omega : X ≤ y)) (fun h => by omega)
      rw [h1, h2, ← ho, Bool.eq_false_iff]
      intro hc
      obtain ⟨r, hr, h3, h4⟩ := inR_iff.1 hc
      have := hle r hr
      omega
  intro n
  induction n with
  | zero =>
    intro p q out o X C s h hn
    exact fin p q out o X C s h ⟨by have := h.hp; have := h.hq; omega, by have := h.hp; have := h.hq; omega⟩
  | succ n ih =>
    intro p q out o X C s h hn
    unfold swF
    split
    · rename_i e; exact fin p q out o X C s h e
    · rename_i e
      obtain ⟨hX, C', s', h'⟩ := sw_step ha hb h e
      refine ih _ _ _ _ _ C' s' h' ?_
      have : p + q + 1 ≤ swP a (swX a b p q) p + swP b (swX a b p q) q := by
        unfold swP swX
        split <;> split <;> omega
      omega
theorem sweep_facts {f : Bool → Bool → Bool} (hf : f false false = false) {a b : List Run} (ha : rvalid a = true) (hb : rvalid b = true) : Apart (sweep f a b) ∧ ∀ y, inR (sweep f a b) y = f (inR a y) (inR b y) := by
  have e : sweep f a b = swF f a b (2 * a.length + 2 * b.length) 0 0 [] false := by simp [sweep, ha, hb]
  rw [e]
  refine sw_all hf ha hb _ 0 0 [] false (-1048577) [] 0 ⟨Nat.zero_le _, Nat.zero_le _, fun i hi => by omega, fun h => ?_, fun i hi => by omega, fun h => ?_, rfl, ⟨by simp, List.Pairwise.nil⟩, by simp, fun h => (by cases h), by simp [hf], fun y hy => ?_⟩ (by omega)
  · have := bnd_fits ha h; omega
  · have := bnd_fits hb h; omega
  · have h1 := inR_bnd ha (p := 0) (y := y) (Nat.zero_le _) (fun i hi => by omega) (fun h => by have := bnd_fits ha h; omega)
    have h2 := inR_bnd hb (p := 0) (y := y) (Nat.zero_le _) (fun i hi => by omega) (fun h => by have := bnd_fits hb h; omega)
    rw [h1, h2]
    simp [hf, inR]
theorem apart_bounds {l : List Run} (h : Apart l) {lo hi : Int} (hm : ∀ y, inR l y = true → lo ≤ y ∧ y < hi) : ∀ r ∈ l, lo ≤ r.a ∧ r.b ≤ hi := fun r hr => by
  have h1 := h.1 r hr
  have h2 := hm r.a (inR_iff.2 ⟨r, hr, Int.le_refl _, h1⟩)
  have h3 := hm (r.b - 1) (inR_iff.2 ⟨r, hr, by omega, by omega⟩)
  omega
end Go.Proofs.YtgicofpllopjmaaDoor
