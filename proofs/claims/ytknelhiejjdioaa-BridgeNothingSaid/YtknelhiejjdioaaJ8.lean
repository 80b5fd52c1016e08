/-
  Texts of this seat put together: X9, X3, AbsZ, X4, X5, M7, L0, F1.
-/
import Derived.Test.YtknelhiejjdioaaJ6
import Derived.Test.YtknelhiejjdioaaJ5
import Derived.Test.YtknelhiejjdioaaJ3
import Derived.Test.YtknelhiejjdioaaJ4
import Derived.Test.YtknelhiejjdioaaJ7
import Derived.Shelf.Sort.Plain
import Derived.Shelf.Slices.In.SortNone
import Derived.Shelf.Slices.CompactI
import Derived.Lib.RowBridge
import Derived.Test.YtknelhiejjdioaaChecked
set_option linter.unusedVariables false
set_option linter.unusedSimpArgs false
namespace Go.Proofs.Ytknelhiejjdioaa
open Go.Abs

/-! The set operations, cell by cell. -/
section
variable {a b : List Row} (ha : validR a = true) (hb : validR b = true) (c : Cell)
include ha hb
theorem opU_iff : c ∈ regCells (opR fU a b) ↔ c ∈ regCells a ∨ c ∈ regCells b := by
  have h := (opR_facts (f := fU) rfl ha hb).2 c
  have e : ∀ x y, fU x y = (x || y) := fun _ _ => rfl
  rw [e] at h
  rw [← decide_eq_true_iff (p := c ∈ regCells (opR fU a b)), h]
  simp
theorem opI_iff : c ∈ regCells (opR fI a b) ↔ c ∈ regCells a ∧ c ∈ regCells b := by
  have h := (opR_facts (f := fI) rfl ha hb).2 c
  have e : ∀ x y, fI x y = (x && y) := fun _ _ => rfl
  rw [e] at h
  rw [← decide_eq_true_iff (p := c ∈ regCells (opR fI a b)), h]
  simp
theorem opD_iff : c ∈ regCells (opR fD a b) ↔ c ∈ regCells a ∧ c ∉ regCells b := by
  have h := (opR_facts (f := fD) rfl ha hb).2 c
  have e : ∀ x y, fD x y = (x && !y) := fun _ _ => rfl
  rw [e] at h
  rw [← decide_eq_true_iff (p := c ∈ regCells (opR fD a b)), h]
  simp
end
theorem valid_empty {R : List Row} (hv : validR R = true) (h : ∀ c, c ∉ regCells R) : R = [] := region_uniq hv rfl fun c => ⟨fun hc => absurd hc (h c), fun hc => by simp [regCells] at hc⟩
end Go.Proofs.Ytknelhiejjdioaa

set_option linter.unusedVariables false
set_option linter.unusedSimpArgs false
namespace Go.Proofs.Ytknelhiejjdioaa
open Go.Abs

/-! The search for a row. -/
def LbAt (R : List Row) (y : Int) (i : Nat) : Prop := i ≤ R.length ∧ (∀ j w, R[j]? = some w → (j < i ↔ w.y < y))
theorem lb_exists : ∀ {R : List Row}, (R.Pairwise fun a b => a.y < b.y) → ∀ y, ∃ i, LbAt R y i
  | [], _, y => ⟨0, by simp, fun j w h => by simp at h⟩
  | w :: R, h, y => by
    have h1 := List.pairwise_cons.1 h
    by_cases e : w.y < y
    · obtain ⟨i, hi, hp⟩ := lb_exists h1.2 y
      refine ⟨i + 1, by simp; exact hi, fun j v hv => ?_⟩
      cases j with
      | zero => simp at hv; subst hv; simp [e]
      | succ j => simp at hv; have := hp j v hv; omega
    · refine ⟨0, by simp, fun j v hv => ?_⟩
      cases j with
      | zero => simp at hv; subst hv; simp; omega
      | succ j => simp at hv; have := h1.1 v (List.mem_of_getElem? hv); omega

theorem rowcmp_ok (w : Row) (y : Int) : PC Try.prog 76 [.agg w.row, .int .i64 y] (.p (.int .i64 (cmpI w.y y))) := by
  have c1 := compare_ok w.y y
  obtain ⟨wy, wr⟩ := w
  simp only at c1
  generalize cmpI wy y = z at *
  refine pc_of_awp cx (fn := Try.f76) (c := _) Try.func76 rfl rfl (Nat.le_of_ble_eq_true rfl) ?_
  rw [Try.ntmps76]; refine Nav.imp ?_
  refine awp_region cx [] fun K hK => ?_
  simp [push_cast, Row.row]
  repeat (refine And.intro (by clear hK; intros; first | omega | (simp_all; done) | (simp_all <;> omega)) ?_)
  refine hK _ ?_; clear hK K; refine Nav.imp ?_
  refine awp_region cx [(3, .p (.int .i64 z))] fun K hK => ?_
  simp [push_cast, c1, Row.row]
  repeat (refine And.intro (by clear hK; intros; first | omega | (simp_all; done) | (simp_all <;> omega)) ?_)
  refine hK _ ?_; clear hK K; refine Nav.imp ?_
  simp [push_cast]

theorem cmpI_lt {a b : Int} : (cmpI a b < 0) ↔ a < b := by unfold cmpI; split <;> (try split) <;> omega
theorem cmpI_eq {a b : Int} : (cmpI a b = 0) ↔ a = b := by unfold cmpI; split <;> (try split) <;> omega

set_option maxHeartbeats 1000000 in
theorem bsearch_ok (R : List Row) (y : Int) (i : Nat) (hl : R.length ≤ 1000000) (hi : LbAt R y i) : PC Try.prog 75 [encRows R, .int .i64 y, .fn (.func 76) []] (.p (.tup [.int .i64 i, .bool (match R[i]? with | some w => decide (w.y = y) | none => false)])) := by
  obtain ⟨hil, hip⟩ := hi
  refine pc_of_awp cx (fn := Try.f75) (c := _) Try.func75 rfl rfl (Nat.le_of_ble_eq_true rfl) ?_
  rw [Try.ntmps75]; refine Nav.imp ?_
  refine awp_region cx [] fun K hK => ?_
  simp [push_cast]
  repeat (refine And.intro (by clear hK; intros; first | omega | (simp_all; done) | (simp_all <;> omega)) ?_)
  refine hK _ ?_; clear hK K; refine Nav.imp ?_
  refine awp_region cx [] fun K hK => ?_
  simp [push_cast]
  repeat (refine And.intro (by clear hK; intros; first | omega | (simp_all; done) | (simp_all <;> omega)) ?_)
  refine hK _ ?_; clear hK K; refine Nav.imp ?_
  refine awp_region cx [] fun K hK => ?_
  simp [push_cast]
  repeat (refine And.intro (by clear hK; intros; first | omega | (simp_all; done) | (simp_all <;> omega)) ?_)
  refine hK _ ?_; clear hK K; refine Nav.imp ?_
  refine awp_loop (β := Nat × Nat) (fun b => ⟨49, [(0, .d (encRows R)), (1, .d (.int .i64 y)), (2, .d (.fn (.func 76) [])), (8, .d (.int .i64 R.length)), (9, .d (.int .i64 b.1)), (10, .d (.int .i64 b.2))], [], 0⟩) (fun b => b.1 ≤ i ∧ i ≤ b.2 ∧ b.2 ≤ R.length) (fun b => b.2 - b.1) (0, R.length) ?_ ⟨Nat.zero_le _, hil, Nat.le_refl _⟩ ?_
  · refine weak_of [] rfl (by simp [upT, up, upL, push_cast]) (by simp [upH, upR, upL, up, push_cast]) (by simp [namesOk, push_cast]) (by simp [olds])
  · rintro ⟨lo, hi⟩ ⟨h1, h2, h3⟩
    simp only at h1 h2 h3
    refine Nav.imp ?_
    refine awp_region cx [] fun K hK => ?_
    simp [push_cast]
    repeat (refine And.intro (by clear hK; intros; first | omega | (simp_all; done) | (simp_all <;> omega)) ?_)
    refine hK _ ?_; clear hK K; refine Nav.imp ?_
    refine awp_cond (b := decide (lo < hi)) (by simp [push_cast]) (fun hb => ?_) (fun hb => ?_) <;> (refine Nav.imp ?_)
    · have hlh : lo < hi := by simpa using hb
      have e1 := wrap_i64 (n := (lo : Int) + hi) (by omega) (by omega)
      have e2 : IntKind.u64.wrap ((lo : Int) + hi) = (lo : Int) + hi := by rw [IntKind.wrap_u64]; omega
      obtain ⟨h, hh⟩ : ∃ h : Nat, h = (lo + hi) / 2 := ⟨_, rfl⟩
      have e3 : ((lo : Int) + hi).fdiv (2 ^ min 1 IntKind.u64.bits) = h := by
        have : (2 : Int) ^ min 1 IntKind.u64.bits = 2 := by decide
        rw [this, Int.fdiv_eq_ediv_of_nonneg _ (by omega)]; omega
      have e4 := wrap_i64 (n := (h : Int)) (by omega) (by omega)
      have hhl : h < R.length := by omega
      obtain ⟨w, hw⟩ := getq hhl
      have hip' := hip h w hw
      have c1 := rowcmp_ok w y
      have hz : (decide (cmpI w.y y < 0)) = decide (w.y < y) := by rw [Bool.eq_iff_iff]; simp [cmpI_lt]
      have e5 := wrap_i64 (n := (h : Int) + 1) (by omega) (by omega)
      generalize cmpI w.y y = z at *
      refine awp_region cx [] fun K hK => ?_
      simp [push_cast, e1, e2, e3, e4]
      repeat (refine And.intro (by clear hK; intros; first | omega | (simp_all; done) | (simp_all <;> omega)) ?_)
      refine hK _ ?_; clear hK K; refine Nav.imp ?_
      refine awp_region cx [(6, .p (.int .i64 z))] fun K hK => ?_
      simp [push_cast, hw, c1, hz]
      repeat (refine And.intro (by clear hK; intros; first | omega | (simp_all; done) | (simp_all <;> omega)) ?_)
      refine hK _ ?_; clear hK K; refine Nav.imp ?_
      refine awp_cond (b := decide (w.y < y)) (by simp [push_cast]) (fun hb => ?_) (fun hb => ?_) <;> (refine Nav.imp ?_)
      · have hb : w.y < y := by simpa using hb
        refine awp_region cx [] fun K hK => ?_
        simp [push_cast, e5]
        repeat (refine And.intro (by clear hK; intros; first | omega | (simp_all; done) | (simp_all <;> omega)) ?_)
        refine hK _ ?_; clear hK K; refine Nav.imp ?_
        refine ⟨(h + 1, hi), ⟨by simp only; omega, h2, h3⟩, by simp only; omega, ?_⟩
        refine weak_of [] rfl (by simp [upT, up, upL, push_cast]) (by simp [upH, upR, upL, up, push_cast]) (by simp [namesOk, push_cast]) (by simp [olds])
      · have hb : ¬ w.y < y := by simpa using hb
        refine awp_region cx [] fun K hK => ?_
        simp [push_cast]
        repeat (refine And.intro (by clear hK; intros; first | omega | (simp_all; done) | (simp_all <;> omega)) ?_)
        refine hK _ ?_; clear hK K; refine Nav.imp ?_
        refine ⟨(lo, h), ⟨h1, by simp only; omega, by simp only; omega⟩, by simp only; omega, ?_⟩
        refine weak_of [] rfl (by simp [upT, up, upL, push_cast]) (by simp [upH, upR, upL, up, push_cast]) (by simp [namesOk, push_cast]) (by simp [olds])
    · have hlh : ¬ lo < hi := by simpa using hb
      have : lo = i := by omega
      subst this
      cases hw : R[lo]? with
      | none =>
        have hge : ¬ lo < R.length := fun h => by rw [List.getElem?_eq_getElem h] at hw; cases hw
        have hge' : ¬ (lo : Int) < R.length := by omega
        refine awp_region cx [(11, .skip)] fun K hK => ?_
        simp [push_cast, hw, hge, hge']
        repeat (refine And.intro (by clear hK; intros; first | omega | (simp_all; done) | (simp_all <;> omega)) ?_)
        refine hK _ ?_; clear hK K; refine Nav.imp ?_
        simp [push_cast, hw]
      | some w =>
        have hlt := (List.getElem?_eq_some_iff.1 hw).1
        have hlt' : (lo : Int) < R.length := by omega
        have c1 := rowcmp_ok w y
        have hz : (cmpI w.y y == 0) = decide (w.y = y) := by rw [Bool.eq_iff_iff]; simp [cmpI_eq]
        generalize cmpI w.y y = z at *
        refine awp_region cx [(11, .p (.int .i64 z))] fun K hK => ?_
        simp [push_cast, hw, c1, hlt', Row.row, hz]
        repeat (refine And.intro (by clear hK; intros; first | omega | (simp_all; done) | (simp_all <;> omega)) ?_)
        refine hK _ ?_; clear hK K; refine Nav.imp ?_
        simp [push_cast, hlt, hz]

theorem row_ok (R : List Row) (y : Int) (hR : smallR R) (hv : validR R = true) : PC Try.prog 43 [.agg (regRow R), .int .i64 y] (.p (encRuns (rowOf R y))) := by
  obtain ⟨i, hi⟩ := lb_exists (rows_pw hv) y
  have c1 := bsearch_ok R y i hR.1 hi
  have hl := hR.1
  cases hw : R[i]? with
  | none =>
    rw [hw] at c1
    simp only at c1
    have hn : rowOf R y = [] := by
      refine rowOf_none fun w hwm hy => ?_
      obtain ⟨j, hj⟩ := List.mem_iff_getElem?.1 hwm
      have h1 := (List.getElem?_eq_some_iff.1 hj).1
      have h2 : ¬ i < R.length := fun h => by rw [List.getElem?_eq_getElem h] at hw; cases hw
      have := (hi.2 j w hj).1 (by omega)
      omega
    rw [hn]
    refine pc_of_awp cx (fn := Try.f43) (c := _) Try.func43 rfl rfl (Nat.le_of_ble_eq_true rfl) ?_
    rw [Try.ntmps43]; refine Nav.imp ?_
    refine awp_region cx [] fun K hK => ?_
    simp [push_cast]
    repeat (refine And.intro (by clear hK; intros; first | omega | (simp_all; done) | (simp_all <;> omega)) ?_)
    refine hK _ ?_; clear hK K; refine Nav.imp ?_
    refine awp_region cx [(3, .p (.tup [.int .i64 i, .bool false]))] fun K hK => ?_
    simp [push_cast, c1]
    repeat (refine And.intro (by clear hK; intros; first | omega | (simp_all; done) | (simp_all <;> omega)) ?_)
    refine hK _ ?_; clear hK K; refine Nav.imp ?_
    refine awp_region cx [] fun K hK => ?_
    simp [push_cast]
    repeat (refine And.intro (by clear hK; intros; first | omega | (simp_all; done) | (simp_all <;> omega)) ?_)
    refine hK _ ?_; clear hK K; refine Nav.imp ?_
    refine awp_cond (b := true) (by simp [push_cast]) (fun hb => ?_) (fun hb => ?_) <;> (refine Nav.imp ?_)
    · refine awp_region cx [] fun K hK => ?_
      simp [push_cast]
      repeat (refine And.intro (by clear hK; intros; first | omega | (simp_all; done) | (simp_all <;> omega)) ?_)
      refine hK _ ?_; clear hK K; refine Nav.imp ?_
      simp [push_cast]
    · simp at hb
  | some w =>
    rw [hw] at c1
    simp only at c1
    have hwm := List.mem_of_getElem? hw
    by_cases e : w.y = y
    · rw [decide_eq_true e] at c1
      have hn : rowOf R y = w.runs := by rw [← e]; exact rowOf_mem hv hwm
      rw [hn]
      obtain ⟨wy, wr⟩ := w
      refine pc_of_awp cx (fn := Try.f43) (c := _) Try.func43 rfl rfl (Nat.le_of_ble_eq_true rfl) ?_
      rw [Try.ntmps43]; refine Nav.imp ?_
      refine awp_region cx [] fun K hK => ?_
      simp [push_cast]
      repeat (refine And.intro (by clear hK; intros; first | omega | (simp_all; done) | (simp_all <;> omega)) ?_)
      refine hK _ ?_; clear hK K; refine Nav.imp ?_
      refine awp_region cx [(3, .p (.tup [.int .i64 i, .bool true]))] fun K hK => ?_
      simp [push_cast, c1]
      repeat (refine And.intro (by clear hK; intros; first | omega | (simp_all; done) | (simp_all <;> omega)) ?_)
      refine hK _ ?_; clear hK K; refine Nav.imp ?_
      refine awp_region cx [] fun K hK => ?_
      simp [push_cast]
      repeat (refine And.intro (by clear hK; intros; first | omega | (simp_all; done) | (simp_all <;> omega)) ?_)
      refine hK _ ?_; clear hK K; refine Nav.imp ?_
      refine awp_cond (b := false) (by simp [push_cast]) (fun hb => ?_) (fun hb => ?_) <;> (refine Nav.imp ?_)
      · simp at hb
      · refine awp_region cx [] fun K hK => ?_
        simp [push_cast, hw, Row.row]
        repeat (refine And.intro (by clear hK; intros; first | omega | (simp_all; done) | (simp_all <;> omega)) ?_)
        refine hK _ ?_; clear hK K; refine Nav.imp ?_
        simp [push_cast]
    · rw [decide_eq_false e] at c1
      have hn : rowOf R y = [] := by
        refine rowOf_none fun v hvm hy => ?_
        obtain ⟨j, hj⟩ := List.mem_iff_getElem?.1 hvm
        have h1 := hi.2 j v hj
        have h2 := hi.2 i w hw
        rcases Nat.lt_trichotomy j i with h | h | h
        · have := h1.1 h; omega
        · subst h; rw [hw] at hj; cases hj; exact e hy
        · have := rows_lt hv j i v w h hj hw; omega
      rw [hn]
      refine pc_of_awp cx (fn := Try.f43) (c := _) Try.func43 rfl rfl (Nat.le_of_ble_eq_true rfl) ?_
      rw [Try.ntmps43]; refine Nav.imp ?_
      refine awp_region cx [] fun K hK => ?_
      simp [push_cast]
      repeat (refine And.intro (by clear hK; intros; first | omega | (simp_all; done) | (simp_all <;> omega)) ?_)
      refine hK _ ?_; clear hK K; refine Nav.imp ?_
      refine awp_region cx [(3, .p (.tup [.int .i64 i, .bool false]))] fun K hK => ?_
      simp [push_cast, c1]
      repeat (refine And.intro (by clear hK; intros; first | omega | (simp_all; done) | (simp_all <;> omega)) ?_)
      refine hK _ ?_; clear hK K; refine Nav.imp ?_
      refine awp_region cx [] fun K hK => ?_
      simp [push_cast]
      repeat (refine And.intro (by clear hK; intros; first | omega | (simp_all; done) | (simp_all <;> omega)) ?_)
      refine hK _ ?_; clear hK K; refine Nav.imp ?_
      refine awp_cond (b := true) (by simp [push_cast]) (fun hb => ?_) (fun hb => ?_) <;> (refine Nav.imp ?_)
      · refine awp_region cx [] fun K hK => ?_
        simp [push_cast]
        repeat (refine And.intro (by clear hK; intros; first | omega | (simp_all; done) | (simp_all <;> omega)) ?_)
        refine hK _ ?_; clear hK K; refine Nav.imp ?_
        simp [push_cast]
      · simp at hb
end Go.Proofs.Ytknelhiejjdioaa

set_option linter.unusedVariables false
set_option linter.unusedSimpArgs false
namespace Go.Abs
open Go.Shelf Go.RowKit Go.Lib Go.Sort Go.Proofs

abbrev iRow (x : Int) : List D := [.int .i64 x]
abbrev encI (x : Int) : Value := .int .i64 x

theorem heap_rowI (w : World) (blk n : Nat) (d : Array Int) (os : Array Obj) {b : Nat} (hb : b < w.heap.size) (hne : b ≠ blk) : (grow (putRow encI (Go.Sort.ahead w n) blk 0 d) os).heap[b]? = w.heap[b]? := by
  rw [heap_grow_old _ _ (by simpa [putRow, mapBlock, heap_ahead] using hb)]
  simp only [putRow, mapBlock, heap_ahead]
  rw [Array.getElem?_modify, if_neg (fun h => hne h.symm)]
theorem heap_rowI_blk (w : World) (blk n : Nat) (d : Array Int) (os : Array Obj) {cur : Array Value} {e : TypeId} {fr : Nat × Nat} (h : w.heap[blk]? = some (.cells cur e fr)) : (grow (putRow encI (Go.Sort.ahead w n) blk 0 d) os).heap[blk]? = some (.cells (Go.Sort.putCells encI 0 d cur) e fr) := by
  have hb : blk < w.heap.size := (Array.getElem?_eq_some_iff.1 h).1
  rw [heap_grow_old _ _ (by simpa [putRow, mapBlock, heap_ahead] using hb)]
  simp only [putRow, mapBlock, heap_ahead]
  rw [Array.getElem?_modify, if_pos rfl, h]
  rfl
theorem size_rowI (w : World) (blk n : Nat) (d : Array Int) (os : Array Obj) : w.heap.size ≤ (grow (putRow encI (Go.Sort.ahead w n) blk 0 d) os).heap.size := by
  rw [size_grow]; simp [putRow, mapBlock, heap_ahead]
theorem drawn_rowI (w : World) (blk n : Nat) (d : Array Int) (os : Array Obj) : w.drawn ≤ (grow (putRow encI (Go.Sort.ahead w n) blk 0 d) os).drawn := by
  simp [grow, putRow, mapBlock, ahead]

/-- A function that writes numbers into the row that it is handed. -/
theorem int_px {P : Program} {f : FuncId} (hent : Enters P f) (e : TypeId) {zs ys : List Int} (hn : 0 < zs.length) (hlen : ys.length = zs.length) (rv : Nat → Nat → Value) (rA : AV)
    (hrep : ∀ (g : G) (w : World) (L : Loc), g.used 0 → g.loc 0 = some L → (L.virt = false ∧ L.map = false) → zs.length ≤ L.cap → RepA g w rA (rv L.blk L.cap))
    (hc : ∀ (blk cap : Nat) (w : World), Holds encI w blk 0 zs.toArray → blk < w.heap.size → zs.length ≤ cap → Calls P f #[.slice (some ⟨blk, 0, none⟩) zs.length cap] w fun e w' => e = .returned (rv blk cap) ∧ ∃ n os, w' = grow (putRow encI (Go.Sort.ahead w n) blk 0 ys.toArray) os) :
    PX P f [.hs 0 0 zs.length] [(0, ⟨e, 1, dr (zs.map iRow)⟩)] [(0, 0)] [(0, ⟨e, 1, dr (ys.map iRow)⟩)] rA := by
  refine ⟨hent, fun g w vs h hu hvs => ?_⟩
  simp only [RepAs] at hvs
  obtain ⟨v0, _, rfl, h0, rfl⟩ := hvs
  obtain ⟨L0, hL, hok⟩ := h.own 0 ⟨e, 1, dr (zs.map iRow)⟩ (by simp [objL, find])
  have hkm : L0.m = 1 := hok.m
  have hlenr : (dr (zs.map iRow)).length = zs.length := by simp [dr]
  have hvirt : L0.virt = false := by
    cases hv : L0.virt with
    | false => rfl
    | true =>
      have h2 : (dr (zs.map iRow)).length = 0 := by rw [show dr (zs.map iRow) = [] from hok.virt hv]; rfl
      omega
  simp only [RepA] at h0
  have hflat : L0.virt = false ∧ L0.map = false := by
    rcases h0.2 L0 hL with ⟨hv, _⟩ | ⟨hv, _⟩
    · rw [hvirt] at hv; cases hv
    · exact hv
  have hvm := hflat.2
  obtain ⟨cur, hblk, hcs, hcap, hrows⟩ := hok.cells hflat
  have e0 : v0 = .slice (some ⟨L0.blk, 0, none⟩) zs.length L0.cap := by
    rcases h0.2 L0 hL with ⟨hv, _⟩ | ⟨_, _, hv⟩
    · rw [hvirt] at hv; cases hv
    · rw [hv]; simp
  have hcapl : zs.length ≤ L0.cap := by have := hok.len hvm; rw [hlenr] at this; exact this
  have hblt : L0.blk < w.heap.size := (Array.getElem?_eq_some_iff.1 hblk).1
  have hcsz : cur.size = L0.cap := by rw [hcs, hkm]; simp
  have hget : ∀ i (hi : i < zs.length), cur[i]? = some (encI zs[i]) := fun i hi => by
    have hrow := hrows i ((iRow zs[i]).map AV.d) (by simp [dr, hi])
    obtain ⟨u, hu1, hu2, hu3⟩ := hrow.2 0 (.d (.int .i64 zs[i])) (by simp)
    rw [hkm] at hu1
    simp only [RepA, RepD] at hu3
    rw [hu3] at hu1
    simpa using hu1
  have hH : Holds encI w L0.blk 0 zs.toArray := by
    intro j hj
    have hj' : j < zs.length := by simpa using hj
    have h1 := hget j hj'
    refine ⟨?_, ?_⟩
    · simp only [World.cell?, hblk, Nat.zero_add, Option.isSome_none, Bool.false_eq_true, if_false]
      rw [h1, getElem!_pos zs.toArray j hj]
      simp
    · simp only [World.frozen?, hblk]
      simp
  rw [e0]
  refine (hc L0.blk L0.cap w hH hblt hcapl).mono ?_
  rintro ex w' ⟨rfl, n, os, rfl⟩
  have hbs := heap_rowI_blk w L0.blk n ys.toArray os hblk
  obtain ⟨g', h1, h2, h3, h4, h5, h6⟩ := HRel.write h hL hflat (id' := 0) (.inl rfl) ⟨e, 1, dr (ys.map iRow)⟩ (Go.Sort.putCells encI 0 ys.toArray cur) (w' := grow (putRow encI (Go.Sort.ahead w n) L0.blk 0 ys.toArray) os) (cap := L0.cap) (B := L0.blk) rfl ⟨rfl, drawn_rowI _ _ _ _ _⟩ rfl (size_rowI _ _ _ _ _)
    (fun b hb hne => heap_rowI _ _ _ _ _ hb hne) (.inl rfl) hbs hkm.symm hok.pos (by simp only [Go.Sort.putCells, Array.size_mapIdx]; rw [hcs]) (by simp [dr]; omega) hcap (fun _ => ⟨rfl, rfl⟩) (by
      intro i row hi
      have hil : i < ys.length := by have := (List.getElem?_eq_some_iff.1 hi).1; simpa [dr] using this
      have hrow : row = (iRow ys[i]).map AV.d := by
        have : (dr (ys.map iRow))[i]? = some ((iRow ys[i]).map AV.d) := by simp [dr, hil]
        rw [this] at hi; exact (Option.some.inj hi).symm
      subst hrow
      refine ⟨by simp [hkm], fun j av hj => ?_⟩
      have hj0 : j = 0 := by have := (List.getElem?_eq_some_iff.1 hj).1; simp at this; omega
      subst hj0
      have hav : av = .d (.int .i64 ys[i]) := by simpa using hj.symm
      subst hav
      refine ⟨encI ys[i], ?_, rfl, by simp only [RepA, RepD]⟩
      rw [hkm]
      have hic : i < cur.size := by omega
      simp only [Go.Sort.putCells, Nat.mul_one, Nat.add_zero, Array.getElem?_mapIdx, Array.getElem?_eq_getElem hic, Option.map_some]
      rw [if_pos ⟨Nat.zero_le _, by simp; omega⟩]
      have : ys.toArray[i - 0]! = ys[i] := by rw [Nat.sub_zero, getElem!_pos ys.toArray i (by simpa using hil)]; simp
      rw [this])
  refine ⟨_, g', rfl, ?_, ?_, h5, ?_⟩
  · have : (upd1 (upd1 (objL [(0, ⟨e, 1, dr (zs.map iRow)⟩)]) 0 none) 0 (some ⟨e, 1, dr (ys.map iRow)⟩)) = objL [(0, ⟨e, 1, dr (ys.map iRow)⟩)] := by
      funext x
      simp only [upd1, objL, find]
      by_cases hx : x = 0
      · subst hx; simp
      · have hx' : ¬ (0 = x) := fun h => hx h.symm
        simp [hx, hx']
    rw [← this]; exact h4
  · exact hrep g' _ ⟨L0.blk, L0.m, L0.cap, false, false⟩ (by rw [h2]; exact .inr rfl) h1 ⟨rfl, rfl⟩ hcapl
  · intro i j hij
    simp only [List.mem_cons, List.not_mem_nil, or_false, Prod.mk.injEq] at hij
    obtain ⟨rfl, rfl⟩ := hij
    rw [h1, hL]
    cases L0; simp_all

/-- .. one that leaves an empty row as it is. -/
theorem int_px0 {P : Program} {f : FuncId} (hent : Enters P f) (e : TypeId) (rv : Option Addr → Nat → Value) (rA : AV)
    (hrep : ∀ (g : G) (w : World) p c, RepA g w (.hs 0 0 0) (.slice p 0 c) → RepA g w rA (rv p c))
    (hc : ∀ p c (w : World), Calls P f #[.slice p 0 c] w fun e w' => e = .returned (rv p c) ∧ w' = w) :
    PX P f [.hs 0 0 0] [(0, ⟨e, 1, []⟩)] [(0, 0)] [(0, ⟨e, 1, []⟩)] rA := by
  refine ⟨hent, fun g w vs h hu hvs => ?_⟩
  simp only [RepAs] at hvs
  obtain ⟨v0, _, rfl, h0, rfl⟩ := hvs
  have h00 := h0
  obtain ⟨L0, hL, hok⟩ := h.own 0 ⟨e, 1, []⟩ (by simp [objL, find])
  simp only [RepA] at h0
  have e0 : ∃ p c, v0 = .slice p 0 c := by
    rcases h0.2 L0 hL with ⟨_, _, _, hv⟩ | ⟨_, _, hv⟩
    · exact ⟨_, _, hv⟩
    · exact ⟨_, _, hv⟩
  obtain ⟨p, c, rfl⟩ := e0
  refine (hc p c w).mono ?_
  rintro ex w' ⟨rfl, rfl⟩
  refine ⟨_, g, rfl, h, hrep _ _ _ _ h00, Step.refl g _, ?_⟩
  intro i j hij
  simp only [List.mem_cons, List.not_mem_nil, or_false, Prod.mk.injEq] at hij
  obtain ⟨rfl, rfl⟩ := hij
  rfl

/-- slices.Sort at numbers. -/
theorem sortI_px {P : Program} {ρ : Ren} (L : Lays.n189 P ρ) (hent : Enters P (ρ.f 189)) (e : TypeId) (zs : List Int) (hsz : zs.length < 4611686018427387904) :
    PX P (ρ.f 189) [.hs 0 0 zs.length] [(0, ⟨e, 1, dr (zs.map iRow)⟩)] [(0, 0)] [(0, ⟨e, 1, dr ((zs.mergeSort fun x y => decide (x ≤ y)).map iRow)⟩)] (.tup []) := by
  by_cases hn : 0 < zs.length
  · exact int_px hent e hn (List.length_mergeSort zs) (fun _ _ => .tuple #[]) (.tup []) (fun g w L _ _ _ _ => by simp only [RepA, RepAs]; exact ⟨[], rfl, rfl⟩)
      fun blk cap w hH hb _ => Any.slices_Sort_int L blk 0 cap zs w hH hb hsz
  · have : zs = [] := List.eq_nil_of_length_eq_zero (by omega)
    subst this
    have := int_px0 hent e (fun _ _ => .tuple #[]) (.tup []) (fun g w p c _ => by simp only [RepA, RepAs]; exact ⟨[], rfl, rfl⟩) fun p c w => Any.slices_Sort_int_none L p c w
    simpa [dr] using this

/-- slices.Compact at numbers. -/
theorem compactI_px {P : Program} {ρ : Ren} (L : Lays2.n20 P ρ) (hent : Enters P (ρ.f 20)) (e : TypeId) (zs : List Int) (hsz : zs.length ≤ 9223372036854775807) :
    PX P (ρ.f 20) [.hs 0 0 zs.length] [(0, ⟨e, 1, dr (zs.map iRow)⟩)] [(0, 0)] [(0, ⟨e, 1, dr ((Lib.compact zs ++ List.replicate (zs.length - (Lib.compact zs).length) 0).map iRow)⟩)] (.hs 0 0 (Lib.compact zs).length) := by
  have hle := Lib.compact_length_le zs
  by_cases hn : 0 < zs.length
  · refine int_px hent e hn (by simp; omega) (fun blk cap => .slice (some ⟨blk, 0, none⟩) (Lib.compact zs).length cap) (.hs 0 0 (Lib.compact zs).length) (fun g w L hu hL hv hcap => ?_) fun blk cap w hH hb hcap => ?_
    · have := rep_hs (L := L) (w := w) hu hL hv (len := (Lib.compact zs).length) (by omega)
      exact this
    · refine (Any.slices_Compact_int L blk 0 cap zs w hH hsz hcap).mono ?_
      rintro ex w' ⟨h1, q, h2⟩
      exact ⟨h1, q, #[], by rw [grow_empty]; exact h2⟩
  · have : zs = [] := List.eq_nil_of_length_eq_zero (by omega)
    subst this
    have := int_px0 hent e (fun p c => .slice p 0 c) (.hs 0 0 0) (fun g w p c h => h) fun p c w => Any.slices_Compact_int_empty L p c w
    have hc : Lib.compact ([] : List Int) = [] := rfl
    simpa [dr, hc] using this

/-- Of numbers in their order each once. -/
theorem compact_sorted {zs : List Int} (h : zs.Pairwise (· ≤ ·)) : (Lib.compact zs).Pairwise (· < ·) ∧ ∀ y, y ∈ Lib.compact zs ↔ y ∈ zs := by
  have key : ∀ m, m ≤ zs.length → (Lib.compactUpTo zs.toArray m).Pairwise (· < ·) ∧ (∀ y, y ∈ Lib.compactUpTo zs.toArray m ↔ y ∈ zs.take m) := by
    intro m
    induction m with
    | zero => intro _; simp [Lib.compactUpTo]
    | succ m ih =>
      intro hm
      obtain ⟨ih1, ih2⟩ := ih (by omega)
      have hlt : m < zs.length := by omega
      have hg : zs.toArray[m]! = zs[m] := by rw [getElem!_pos zs.toArray m (by simpa using hlt)]; simp
      have htk : zs.take (m + 1) = zs.take m ++ [zs[m]] := by rw [List.take_add_one, List.getElem?_eq_getElem hlt]; rfl
      rw [Lib.compactUpTo_succ, htk, hg]
      by_cases hk : Lib.keeps zs.toArray m = true
      · rw [if_pos hk]
        refine ⟨?_, fun y => by rw [List.mem_append, List.mem_append, ih2]⟩
        rw [List.pairwise_append]
        refine ⟨ih1, by simp, fun a ha b hb => ?_⟩
        simp at hb; subst hb
        rw [ih2] at ha
        obtain ⟨j, hj, rfl⟩ := List.mem_iff_getElem.1 ha
        have hjm : j < m := by simp at hj; omega
        rw [List.getElem_take]
        have hm0 : 0 < m := by omega
        have hg1 : zs.toArray[m - 1]! = zs[m - 1] := by rw [getElem!_pos zs.toArray (m - 1) (by simp; omega)]; simp
        simp only [Lib.keeps, hg, hg1, decide_eq_true_eq] at hk
        have h1 := List.pairwise_iff_getElem.1 h (m - 1) m (by omega) hlt (by omega)
        have h2 : zs[j] ≤ zs[m - 1] := by
          by_cases e : j = m - 1
          · subst e; exact Int.le_refl _
          · exact List.pairwise_iff_getElem.1 h j (m - 1) (by omega) (by omega) (by omega)
        have h3 : zs[m] ≠ zs[m - 1] := by rcases hk with hk | hk; omega; exact hk
        omega
      · rw [if_neg hk, List.append_nil]
        refine ⟨ih1, fun y => ?_⟩
        rw [ih2]
        simp only [Lib.keeps, decide_eq_true_eq] at hk
        have hm0 : m ≠ 0 := fun e => hk (.inl e)
        have hg1 : zs.toArray[m - 1]! = zs[m - 1] := by rw [getElem!_pos zs.toArray (m - 1) (by simp; omega)]; simp
        have he : zs[m] = zs[m - 1] := by
          apply Classical.byContradiction
          intro hne
          exact hk (.inr (by rw [hg, hg1]; exact hne))
        simp only [List.mem_append, List.mem_singleton]
        constructor
        · exact .inl
        · rintro (h1 | h1)
          · exact h1
          · rw [h1, he]
            exact List.mem_iff_getElem.2 ⟨m - 1, by simp; omega, by rw [List.getElem_take]⟩
  have := key zs.length (Nat.le_refl _)
  rw [List.take_length] at this
  exact this
end Go.Abs

set_option linter.unusedVariables false
set_option linter.unusedSimpArgs false
set_option maxRecDepth 100000
namespace Go.Proofs.Ytknelhiejjdioaa
open Go.Abs Go.Shelf

def sortInt_ren : Go.Shelf.Ren := ⟨fun | 189 => 65 | 125 => 90 | 257 => 92 | 128 => 110 | 129 => 111 | 294 => 120 | 295 => 121 | 296 => 122 | 297 => 123 | 298 => 124 | 299 => 125 | 216 => 126 | 300 => 127 | 301 => 128 | 328 => 138 | 329 => 131 | 330 => 132 | 331 => 139 | 332 => 140 | 215 => 99 | 343 => 143 | n => n, fun | 28 => 83 | 3 => 3 | 46 => 111 | 0 => 0 | 51 => 131 | 53 => 133 | 4 => 4 | 183 => 125 | 182 => 124 | 131 => 93 | 5 => 5 | 9 => 9 | 218 => 145 | 222 => 149 | 228 => 155 | 229 => 156 | n => n, fun n => n⟩
theorem sortInt_lays : Lays.n189 Try.prog sortInt_ren where
  mixed := by kernel_rfl
  f125 := Try.func90.trans (congrArg some (by kernel_rfl))
  f128 := Try.func110.trans (congrArg some (by kernel_rfl))
  f129 := Try.func111.trans (congrArg some (by kernel_rfl))
  f189 := Try.func65.trans (congrArg some (by kernel_rfl))
  f215 := Try.func99.trans (congrArg some (by kernel_rfl))
  f216 := Try.func126.trans (congrArg some (by kernel_rfl))
  f257 := Try.func92.trans (congrArg some (by kernel_rfl))
  f294 := Try.func120.trans (congrArg some (by kernel_rfl))
  f295 := Try.func121.trans (congrArg some (by kernel_rfl))
  f296 := Try.func122.trans (congrArg some (by kernel_rfl))
  f297 := Try.func123.trans (congrArg some (by kernel_rfl))
  f298 := Try.func124.trans (congrArg some (by kernel_rfl))
  f299 := Try.func125.trans (congrArg some (by kernel_rfl))
  f300 := Try.func127.trans (congrArg some (by kernel_rfl))
  f301 := Try.func128.trans (congrArg some (by kernel_rfl))
  f328 := Try.func138.trans (congrArg some (by kernel_rfl))
  f329 := Try.func131.trans (congrArg some (by kernel_rfl))
  f330 := Try.func132.trans (congrArg some (by kernel_rfl))
  f331 := Try.func139.trans (congrArg some (by kernel_rfl))
  f332 := Try.func140.trans (congrArg some (by kernel_rfl))
  f343 := Try.func143.trans (congrArg some (by kernel_rfl))
  t0 := Try.underlying0
  a0 := Try.isAgg0
  z0 := Try.sizeOf0
  v0 := Try.zeroValue0
  t3 := Try.underlying3
  a3 := Try.isAgg3
  z3 := Try.sizeOf3
  v3 := Try.zeroValue3
  t4 := Try.underlying4
  a4 := Try.isAgg4
  z4 := Try.sizeOf4
  v4 := Try.zeroValue4
  t5 := Try.underlying5
  a5 := Try.isAgg5
  z5 := Try.sizeOf5
  v5 := Try.zeroValue5
  t9 := Try.underlying9
  a9 := Try.isAgg9
  z9 := Try.sizeOf9
  v9 := Try.zeroValue9
  t28 := Try.underlying83
  a28 := Try.isAgg83
  z28 := Try.sizeOf83
  v28 := Try.zeroValue83
  t46 := Try.underlying111
  a46 := Try.isAgg111
  z46 := Try.sizeOf111
  v46 := Try.zeroValue111
  t51 := Try.underlying131
  a51 := Try.isAgg131
  z51 := Try.sizeOf131
  v51 := Try.zeroValue131
  t53 := Try.underlying133
  a53 := Try.isAgg133
  z53 := Try.sizeOf133
  v53 := Try.zeroValue133
  t131 := Try.underlying93
  a131 := Try.isAgg93
  z131 := Try.sizeOf93
  v131 := Try.zeroValue93
  t182 := Try.underlying124
  a182 := Try.isAgg124
  z182 := Try.sizeOf124
  v182 := Try.zeroValue124
  t183 := Try.underlying125
  a183 := Try.isAgg125
  z183 := Try.sizeOf125
  v183 := Try.zeroValue125
  t218 := Try.underlying145
  a218 := Try.isAgg145
  z218 := Try.sizeOf145
  v218 := Try.zeroValue145
  t222 := Try.underlying149
  a222 := Try.isAgg149
  z222 := Try.sizeOf149
  v222 := Try.zeroValue149
  t228 := Try.underlying155
  a228 := Try.isAgg155
  z228 := Try.sizeOf155
  v228 := Try.zeroValue155
  t229 := Try.underlying156
  a229 := Try.isAgg156
  z229 := Try.sizeOf156
  v229 := Try.zeroValue156
def compactInt_ren : Go.Shelf.Ren := ⟨fun | 20 => 66 | n => n, fun | 22 => 83 | 3 => 3 | 4 => 4 | 0 => 0 | n => n, fun n => n⟩
theorem compactInt_lays : Lays2.n20 Try.prog compactInt_ren where
  mixed := by kernel_rfl
  f20 := Try.func66.trans (congrArg some (by kernel_rfl))
  t0 := Try.underlying0
  a0 := Try.isAgg0
  z0 := Try.sizeOf0
  v0 := Try.zeroValue0
  t3 := Try.underlying3
  a3 := Try.isAgg3
  z3 := Try.sizeOf3
  v3 := Try.zeroValue3
  t4 := Try.underlying4
  a4 := Try.isAgg4
  z4 := Try.sizeOf4
  v4 := Try.zeroValue4
  t22 := Try.underlying83
  a22 := Try.isAgg83
  z22 := Try.sizeOf83
  v22 := Try.zeroValue83
  i3 := by kernel_rfl

theorem sortInts_px (l : List Int) (hl : l.length ≤ 1000000000) : PX Try.prog 65 [.hs 0 0 l.length] [(0, ⟨3, 1, dr (l.map iRow)⟩)] [(0, 0)] [(0, ⟨3, 1, dr ((l.mergeSort fun x y => decide (x ≤ y)).map iRow)⟩)] (.tup []) :=
  sortI_px sortInt_lays ⟨_, Try.func65, by kernel_rfl, by kernel_rfl⟩ 3 l (by omega)
theorem compactInts_px (l : List Int) (hl : l.length ≤ 1000000000) : PX Try.prog 66 [.hs 0 0 l.length] [(0, ⟨3, 1, dr (l.map iRow)⟩)] [(0, 0)] [(0, ⟨3, 1, dr ((Go.Lib.compact l ++ List.replicate (l.length - (Go.Lib.compact l).length) 0).map iRow)⟩)] (.hs 0 0 (Go.Lib.compact l).length) :=
  compactI_px compactInt_lays ⟨_, Try.func66, by kernel_rfl, by kernel_rfl⟩ 3 l (by omega)

theorem free_runs : ∀ l : List Run, D.freess (l.map Run.row) = true
  | [] => rfl
  | c :: l => by simp [D.freess, D.frees, D.free, free_runs l]
theorem cloneR_ok (l : List Run) (hl : l.length ≤ 100000000) : PC Try.prog 67 [encRuns l] (.f (encRuns l)) := by
  have h16 : l.length * 16 ≤ 140737488355328 := by omega
  refine pc_of_awp cx (fn := Try.f67) (c := _) Try.func67 rfl rfl (Nat.le_of_ble_eq_true rfl) ?_
  rw [Try.ntmps67]; refine Nav.imp ?_
  refine awp_region cx [] fun K hK => ?_
  simp [push_cast]
  repeat (refine And.intro (by clear hK; intros; first | omega | (simp_all; done) | (simp_all <;> omega)) ?_)
  refine hK _ ?_; clear hK K; refine Nav.imp ?_
  refine awp_region cx [] fun K hK => ?_
  simp [push_cast]
  repeat (refine And.intro (by clear hK; intros; first | omega | (simp_all; done) | (simp_all <;> omega)) ?_)
  refine hK _ ?_; clear hK K; refine Nav.imp ?_
  refine awp_ub 4 (by simp [push_cast]; exact ⟨rfl, rfl⟩) fun bu hu1 hu2 => ?_
  refine awp_cond (b := bu) (by simp [push_cast]) (fun hb => ?_) (fun hb => ?_) <;> (refine Nav.imp ?_)
  · have hl0 : l = [] := by simpa using hu1 hb
    subst hl0
    refine awp_region cx [] fun K hK => ?_
    simp [push_cast]
    repeat (refine And.intro (by clear hK; intros; first | omega | (simp_all; done) | (simp_all <;> omega)) ?_)
    refine hK _ ?_; clear hK K; refine Nav.imp ?_
    simp [push_cast]
  · refine awp_region cx [] fun K hK => ?_
    simp [push_cast, h16]
    repeat (refine And.intro (by clear hK; intros; first | omega | (simp_all; done) | (simp_all <;> omega)) ?_)
    refine hK _ ?_; clear hK K; refine Nav.imp ?_
    have ht : List.take l.length (l.map Run.row) = l.map Run.row := List.take_of_length_le (by simp)
    simp [push_cast, ht, free_runs]
end Go.Proofs.Ytknelhiejjdioaa

set_option linter.unusedVariables false
set_option linter.unusedSimpArgs false
set_option maxRecDepth 100000
namespace Go.Proofs.Ytknelhiejjdioaa
open Go.Abs

theorem take_flat_one' {α β : Type} {f : α → List β} (h : ∀ x, (f x).length ≤ 1) (l : List α) (k : Nat) : ((l.take k).flatMap f).length ≤ l.length := by
  have key : ∀ m : List α, (m.flatMap f).length ≤ m.length := by
    intro m
    induction m with
    | nil => simp
    | cons x m ih => have := h x; rw [List.flatMap_cons, List.length_append, List.length_cons]; omega
  have := key (l.take k)
  simp at this ⊢; omega
theorem swOut_len (now o : Bool) (out : List Run) (x : Int) : (swOut now o out x).length ≤ out.length + 1 := by
  unfold swOut
  split
  · simp
  · split
    · simp
      try omega
    · omega
theorem swF_len (f : Bool → Bool → Bool) (a b : List Run) : ∀ (n p q : Nat) (out : List Run) (o : Bool), (swF f a b n p q out o).length ≤ out.length + n
  | 0, _, _, out, _ => by simp [swF]
  | n + 1, p, q, out, o => by
    unfold swF
    split
    · omega
    · refine Nat.le_trans (swF_len f a b n _ _ _ _) ?_
      have := swOut_len (f (swP a (swX a b p q) p % 2 == 1) (swP b (swX a b p q) q % 2 == 1)) o out (swX a b p q)
      omega
theorem sweep_len (f : Bool → Bool → Bool) (a b : List Run) : (sweep f a b).length ≤ 2 * a.length + 2 * b.length := by
  unfold sweep
  split
  · simpa using swF_len f a b (2 * a.length + 2 * b.length) 0 0 [] false
  · simp
theorem rowOf_len {R : List Row} (hR : smallR R) (y : Int) : (rowOf R y).length ≤ 1000000 := by
  unfold rowOf
  split
  · rename_i w h; exact hR.2 w (List.mem_of_find?_eq_some h)
  · simp
theorem opRow_len (f : Bool → Bool → Bool) (a b : List Row) (y : Int) : (opRow f a b y).length ≤ 1 := by unfold opRow; split <;> simp
/-- The rows' numbers that the first k regions give. -/
def ysK (a b : List Row) (k : Nat) : List Int := if k = 0 then [] else if k = 1 then a.map Row.y else a.map Row.y ++ b.map Row.y

set_option maxHeartbeats 4000000 in
theorem combine_big (f : Bool → Bool → Bool) (hf : f false false = false) (g : FuncId) (hg : ∀ x y : List Run, x.length ≤ 1000000 → y.length ≤ 1000000 → rvalid x = true → rvalid y = true → PC Try.prog g [encRuns x, encRuns y] (.p (encRuns (sweep f x y)))) (a b : List Row) (hA : bigR a) (hB : bigR b) :
    PC Try.prog 38 [.agg (regRow a), .agg (regRow b), .fn (.func g) []] (.p (.agg (regRow (opR f a b)))) := by
  have c1 := valid_big a hA
  have c2 := valid_big b hB
  have hop : opR f a b = if validR a && validR b then opOn f a b (dedup (allY a b)) else [] := rfl
  cases ha : validR a with
  | false =>
    rw [ha] at c1
    have h0 : opR f a b = [] := by rw [hop, ha]; simp
    rw [h0]
    refine pc_of_awp cx (fn := Try.f38) (c := _) Try.func38 rfl rfl (Nat.le_of_ble_eq_true rfl) ?_
    rw [Try.ntmps38]; refine Nav.imp ?_
    refine awp_region cx [] fun K hK => ?_
    simp [push_cast]
    repeat (refine And.intro (by clear hK; intros; first | omega | (simp_all; done) | (simp_all <;> omega)) ?_)
    refine hK _ ?_; clear hK K; refine Nav.imp ?_
    refine awp_region cx [(1, .p (.bool false)), (5, .skip)] fun K hK => ?_
    simp [push_cast, c1]
    repeat (refine And.intro (by clear hK; intros; first | omega | (simp_all; done) | (simp_all <;> omega)) ?_)
    refine hK _ ?_; clear hK K; refine Nav.imp ?_
    refine awp_cond (b := true) (by simp [push_cast]) (fun hb => ?_) (fun hb => ?_) <;> (refine Nav.imp ?_)
    · refine awp_region cx [] fun K hK => ?_
      simp [push_cast]
      repeat (refine And.intro (by clear hK; intros; first | omega | (simp_all; done) | (simp_all <;> omega)) ?_)
      refine hK _ ?_; clear hK K; refine Nav.imp ?_
      simp [push_cast]
    · simp at hb
  | true =>
    rw [ha] at c1
    cases hb0 : validR b with
    | false =>
      rw [hb0] at c2
      have h0 : opR f a b = [] := by rw [hop, ha, hb0]; simp
      rw [h0]
      refine pc_of_awp cx (fn := Try.f38) (c := _) Try.func38 rfl rfl (Nat.le_of_ble_eq_true rfl) ?_
      rw [Try.ntmps38]; refine Nav.imp ?_
      refine awp_region cx [] fun K hK => ?_
      simp [push_cast]
      repeat (refine And.intro (by clear hK; intros; first | omega | (simp_all; done) | (simp_all <;> omega)) ?_)
      refine hK _ ?_; clear hK K; refine Nav.imp ?_
      refine awp_region cx [(1, .p (.bool true)), (5, .p (.bool false))] fun K hK => ?_
      simp [push_cast, c1, c2]
      repeat (refine And.intro (by clear hK; intros; first | omega | (simp_all; done) | (simp_all <;> omega)) ?_)
      refine hK _ ?_; clear hK K; refine Nav.imp ?_
      refine awp_cond (b := true) (by simp [push_cast]) (fun hb => ?_) (fun hb => ?_) <;> (refine Nav.imp ?_)
      · refine awp_region cx [] fun K hK => ?_
        simp [push_cast]
        repeat (refine And.intro (by clear hK; intros; first | omega | (simp_all; done) | (simp_all <;> omega)) ?_)
        refine hK _ ?_; clear hK K; refine Nav.imp ?_
        simp [push_cast]
      · simp at hb
    | true =>
      rw [hb0] at c2
      replace hA := small_valid ha
      replace hB := small_valid hb0
      have hal := hA.1
      have hbl := hB.1
      have hon := fun ys hp hys => @opR_on f hf a b ha hb0 ys hp hys
      clear hop
      generalize opR f a b = res at *
      refine pc_of_awp cx (fn := Try.f38) (c := _) Try.func38 rfl rfl (Nat.le_of_ble_eq_true rfl) ?_
      rw [Try.ntmps38]; refine Nav.imp ?_
      refine awp_region cx [] fun K hK => ?_
      simp [push_cast]
      repeat (refine And.intro (by clear hK; intros; first | omega | (simp_all; done) | (simp_all <;> omega)) ?_)
      refine hK _ ?_; clear hK K; refine Nav.imp ?_
      refine awp_region cx [(1, .p (.bool true)), (5, .p (.bool true))] fun K hK => ?_
      simp [push_cast, c1, c2]
      repeat (refine And.intro (by clear hK; intros; first | omega | (simp_all; done) | (simp_all <;> omega)) ?_)
      refine hK _ ?_; clear hK K; refine Nav.imp ?_
      refine awp_cond (b := false) (by simp [push_cast]) (fun hb => ?_) (fun hb => ?_) <;> (refine Nav.imp ?_)
      · simp at hb
      · refine awp_region cx [] fun K hK => ?_
        simp [push_cast]
        repeat (refine And.intro (by clear hK; intros; first | omega | (simp_all; done) | (simp_all <;> omega)) ?_)
        refine hK _ ?_; clear hK K; refine Nav.imp ?_
        refine awp_region cx [] fun K hK => ?_
        simp [push_cast]
        repeat (refine And.intro (by clear hK; intros; first | omega | (simp_all; done) | (simp_all <;> omega)) ?_)
        refine hK _ ?_; clear hK K; refine Nav.imp ?_
        refine awp_loop (β := Nat × List Int) (fun s => ⟨76, [(2, .d (.fn (.func g) [])), (3, .ptr 0 0 0), (4, .ptr 1 0 0), (6, .ptr 2 0 0), (7, .hs 3 0 s.2.length), (27, .d (.agg [encRows a, encRows b])), (28, .d (.int .i64 s.1))], [(0, some ⟨24, 1, [(regRow a).map .d]⟩), (1, some ⟨24, 1, [(regRow b).map .d]⟩), (2, some ⟨24, 1, [[.nl]]⟩), (3, some ⟨3, 1, dr (s.2.map iRow)⟩)], 4⟩) (fun s => s.1 ≤ 2 ∧ s.2 = ysK a b s.1) (fun s => 2 - s.1) (0, []) ?_ ⟨by simp only; omega, by simp [ysK]⟩ ?_
        · refine weak_of [(0, some 0), (1, some 1), (2, some 2), (3, none)] rfl (by simp [upT, up, upL, push_cast]) (by simp [upH, upR, upL, up, push_cast]) (by simp [namesOk, push_cast]) (by simp [olds])
        · rintro ⟨k, Y⟩ ⟨hk, hY⟩
          simp only at hk hY
          refine Nav.imp ?_
          have hYl : Y.length ≤ 2000000 := by
            rw [hY]; unfold ysK; split <;> (try split) <;> simp <;> omega
          by_cases hk2 : k < 2
          · obtain ⟨R, hR⟩ : ∃ R, R = if k = 0 then a else b := ⟨_, rfl⟩
            have hRl : R.length ≤ 1000000 := by rw [hR]; split <;> omega
            have hnx : ysK a b (k + 1) = Y ++ R.map Row.y := by
              rw [hY, hR]
              rcases (by omega : k = 0 ∨ k = 1) with rfl | rfl <;> simp [ysK]
            have hYK : Y.length + R.length ≤ 2000000 := by
              have : (Y ++ R.map Row.y).length ≤ a.length + b.length := by
                rw [← hnx]; unfold ysK; split <;> (try split) <;> simp <;> omega
              simp at this; omega
            have e0 := wrap_i64 (n := (k : Int) + 1) (by omega) (by omega)
            have hk2' : (k : Int) < 2 := by omega
            clear hY
            apply cut_
            · intro key
              rcases (by omega : k = 0 ∨ k = 1) with hk0 | hk0
              · have hR : R = a := by rw [hR, hk0]; rfl
                refine awp_region cx [] fun K hK => ?_
                simp [push_cast, hk0]
                repeat (refine And.intro (by clear hK; intros; first | omega | (simp_all; done) | (simp_all <;> omega)) ?_)
                refine hK _ ?_; clear hK K; refine Nav.imp ?_
                refine awp_cond (b := true) (by simp [push_cast, hk0]) (fun hb => ?_) (fun hb => ?_) <;> (refine Nav.imp ?_)
                · refine awp_region cx [] fun K hK => ?_
                  simp [push_cast, hk0]
                  repeat (refine And.intro (by clear hK; intros; first | omega | (simp_all; done) | (simp_all <;> omega)) ?_)
                  refine hK _ ?_; clear hK K; refine Nav.imp ?_
                  refine awp_weak (s' := ⟨76, [(2, .d (.fn (.func g) [])), (3, .ptr 0 0 0), (4, .ptr 1 0 0), (6, .ptr 2 0 0), (7, .hs 3 0 Y.length), (9, .ptr 4 0 0), (27, .d (.agg [encRows a, encRows b])), (28, .d (.int .i64 k))], [(0, some ⟨24, 1, [(regRow a).map .d]⟩), (1, some ⟨24, 1, [(regRow b).map .d]⟩), (2, some ⟨24, 1, [[.nl]]⟩), (3, some ⟨3, 1, dr (Y.map iRow)⟩), (4, some ⟨24, 1, [(regRow R).map .d]⟩)], 5⟩) ?_ key.h
                  refine weak_of [(0, some 0), (1, some 1), (2, some 2), (3, some 3), (4, some 6)] rfl (by simp [upT, up, upL, push_cast, hk0, hR]) (by simp [upH, upR, upL, up, push_cast, hk0, hR]) (by simp [namesOk, push_cast]) (by simp [olds])
                · simp at hb
              · have hR : R = b := by rw [hR, hk0]; rfl
                refine awp_region cx [] fun K hK => ?_
                simp [push_cast, hk0]
                repeat (refine And.intro (by clear hK; intros; first | omega | (simp_all; done) | (simp_all <;> omega)) ?_)
                refine hK _ ?_; clear hK K; refine Nav.imp ?_
                refine awp_cond (b := true) (by simp [push_cast, hk0]) (fun hb => ?_) (fun hb => ?_) <;> (refine Nav.imp ?_)
                · refine awp_region cx [] fun K hK => ?_
                  simp [push_cast, hk0]
                  repeat (refine And.intro (by clear hK; intros; first | omega | (simp_all; done) | (simp_all <;> omega)) ?_)
                  refine hK _ ?_; clear hK K; refine Nav.imp ?_
                  refine awp_weak (s' := ⟨76, [(2, .d (.fn (.func g) [])), (3, .ptr 0 0 0), (4, .ptr 1 0 0), (6, .ptr 2 0 0), (7, .hs 3 0 Y.length), (9, .ptr 4 0 0), (27, .d (.agg [encRows a, encRows b])), (28, .d (.int .i64 k))], [(0, some ⟨24, 1, [(regRow a).map .d]⟩), (1, some ⟨24, 1, [(regRow b).map .d]⟩), (2, some ⟨24, 1, [[.nl]]⟩), (3, some ⟨3, 1, dr (Y.map iRow)⟩), (4, some ⟨24, 1, [(regRow R).map .d]⟩)], 5⟩) ?_ key.h
                  refine weak_of [(0, some 0), (1, some 1), (2, some 2), (3, some 3), (4, some 6)] rfl (by simp [upT, up, upL, push_cast, hk0, hR]) (by simp [upH, upR, upL, up, push_cast, hk0, hR]) (by simp [namesOk, push_cast]) (by simp [olds])
                · simp at hb
            · refine Nav.imp ?_
              refine awp_region cx [] fun K hK => ?_
              simp [push_cast]
              repeat (refine And.intro (by clear hK; intros; first | omega | (simp_all; done) | (simp_all <;> omega)) ?_)
              refine hK _ ?_; clear hK K; refine Nav.imp ?_
              refine awp_loop (β := Nat × List Int) (fun s => ⟨76, [(2, .d (.fn (.func g) [])), (3, .ptr 0 0 0), (4, .ptr 1 0 0), (6, .ptr 2 0 0), (7, .hs 3 0 s.2.length), (27, .d (.agg [encRows a, encRows b])), (28, .d (.int .i64 k)), (32, .d (encRows R)), (33, .d (.int .i64 R.length)), (34, .d (.int .i64 s.1))], [(0, some ⟨24, 1, [(regRow a).map .d]⟩), (1, some ⟨24, 1, [(regRow b).map .d]⟩), (2, some ⟨24, 1, [[.nl]]⟩), (3, some ⟨3, 1, dr (s.2.map iRow)⟩)], 4⟩) (fun s => s.1 ≤ R.length ∧ s.2 = Y ++ (R.take s.1).map Row.y) (fun s => R.length - s.1) (0, Y) ?_ ⟨Nat.zero_le _, by simp⟩ ?_
              · refine weak_of [(0, some 0), (1, some 1), (2, some 2), (3, some 3)] rfl (by simp [upT, up, upL, push_cast]) (by simp [upH, upR, upL, up, push_cast]) (by simp [namesOk, push_cast]) (by simp [olds])
              · rintro ⟨j, Z⟩ ⟨hj, hZ⟩
                simp only at hj hZ
                refine Nav.imp ?_
                refine awp_region cx [] fun K hK => ?_
                simp [push_cast]
                repeat (refine And.intro (by clear hK; intros; first | omega | (simp_all; done) | (simp_all <;> omega)) ?_)
                refine hK _ ?_; clear hK K; refine Nav.imp ?_
                refine awp_cond (b := decide ((j : Int) < R.length)) (by simp [push_cast]) (fun hb => ?_) (fun hb => ?_) <;> (refine Nav.imp ?_)
                · have hjl : j < R.length := by simpa using hb
                  obtain ⟨w, hw⟩ := getq hjl
                  have e1 := wrap_i64 (n := (j : Int) + 1) (by omega) (by omega)
                  have hZl : Z.length ≤ 2000000 := by rw [hZ]; simp; omega
                  have hZ8 : (Z.length + 1) * 8 ≤ 140737488355328 := by omega
                  have hnz : Y ++ (R.take (j + 1)).map Row.y = Z ++ [w.y] := by rw [take_get hw, List.map_append, hZ]; simp
                  obtain ⟨wy, wr⟩ := w
                  simp only at hnz
                  refine awp_region cx [] fun K hK => ?_
                  simp [push_cast, hw, Row.row]
                  repeat (refine And.intro (by clear hK; intros; first | omega | (simp_all; done) | (simp_all <;> omega)) ?_)
                  refine hK _ ?_; clear hK K; refine Nav.imp ?_
                  refine awp_region cx [] fun K hK => ?_
                  simp [push_cast, hZ8, Row.row]
                  repeat (refine And.intro (by clear hK; intros; first | omega | (simp_all; done) | (simp_all <;> omega)) ?_)
                  refine hK _ ?_; clear hK K; refine Nav.imp ?_
                  refine awp_region cx [] fun K hK => ?_
                  simp [push_cast, e1]
                  repeat (refine And.intro (by clear hK; intros; first | omega | (simp_all; done) | (simp_all <;> omega)) ?_)
                  refine hK _ ?_; clear hK K; refine Nav.imp ?_
                  refine ⟨(j + 1, Z ++ [wy]), ⟨hjl, hnz.symm⟩, by simp only; omega, ?_⟩
                  refine weak_of [(0, some 0), (1, some 1), (2, some 2), (3, some 13)] rfl (by simp [upT, up, upL, push_cast]) (by simp [upH, upR, upL, up, push_cast]) (by simp [namesOk, push_cast]) (by simp [olds])
                · have hjn : j = R.length := by simp at hb; omega
                  subst hjn
                  rw [List.take_length, ← hnx] at hZ
                  refine awp_region cx [] fun K hK => ?_
                  simp [push_cast, e0]
                  repeat (refine And.intro (by clear hK; intros; first | omega | (simp_all; done) | (simp_all <;> omega)) ?_)
                  refine hK _ ?_; clear hK K; refine Nav.imp ?_
                  refine ⟨(k + 1, Z), ⟨by simp only; omega, hZ⟩, by simp only; omega, ?_⟩
                  refine weak_of [(0, some 0), (1, some 1), (2, some 2), (3, some 3)] rfl (by simp [upT, up, upL, push_cast]) (by simp [upH, upR, upL, up, push_cast]) (by simp [namesOk, push_cast]) (by simp [olds])
          · have hk2 : k = 2 := by omega
            subst hk2
            have hY : Y = a.map Row.y ++ b.map Row.y := by rw [hY]; simp [ysK]
            have d1 := sortInts_px Y (by omega)
            have hsrt : (Y.mergeSort fun x y => decide (x ≤ y)) = allY a b := by rw [hY]; rfl
            rw [hsrt] at d1
            have hsl : (allY a b).length = Y.length := by rw [← hsrt]; exact List.length_mergeSort Y
            have d2 := compactInts_px (allY a b) (by omega)
            obtain ⟨q1, q2⟩ := compact_sorted (allY_le a b)
            have hcl := Go.Lib.compact_length_le (allY a b)
            have hres := hon (Go.Lib.compact (allY a b)) q1 (fun w hw => by
              rw [q2, (allY_perm a b).mem_iff, List.mem_append]
              rcases hw with h | h
              · exact .inl (List.mem_map_of_mem h)
              · exact .inr (List.mem_map_of_mem h))
            clear hon q1 q2 hsrt hY
            generalize allY a b = S at *
            generalize hC : Go.Lib.compact S = C at *
            generalize hZs : List.replicate (S.length - C.length) (0 : Int) = Zs at *
            have htk : List.take C.length ((C ++ Zs).map iRow) = C.map iRow := by rw [List.map_append, List.take_left' (by simp)]
            have hCl : C.length ≤ 2000000 := by omega
            have hCle : C.length ≤ (C ++ Zs).length := by simp
            generalize hE : C ++ Zs = E at *
            refine awp_region cx [] fun K hK => ?_
            simp [push_cast]
            repeat (refine And.intro (by clear hK; intros; first | omega | (simp_all; done) | (simp_all <;> omega)) ?_)
            refine hK _ ?_; clear hK K; refine Nav.imp ?_
            refine awp_cond (b := false) (by simp [push_cast]) (fun hb => ?_) (fun hb => ?_) <;> (refine Nav.imp ?_)
            · simp at hb
            · refine awp_region cx [(1, .x ⟨[(0, 3)], [.hs 0 0 Y.length], [(0, ⟨3, 1, dr (Y.map iRow)⟩)], [(0, 0)], none, [(0, ⟨3, 1, dr (S.map iRow)⟩)], .tup []⟩)] fun K hK => ?_
              simp [push_cast, d1]
              repeat (refine And.intro (by clear hK; intros; first | omega | (simp_all; done) | (simp_all <;> omega)) ?_)
              refine hK _ ?_; clear hK K; refine Nav.imp ?_
              rw [← hsl]
              refine awp_region cx [] fun K hK => ?_
              simp [push_cast]
              repeat (refine And.intro (by clear hK; intros; first | omega | (simp_all; done) | (simp_all <;> omega)) ?_)
              refine hK _ ?_; clear hK K; refine Nav.imp ?_
              refine awp_region cx [(1, .x ⟨[(0, 3)], [.hs 0 0 S.length], [(0, ⟨3, 1, dr (S.map iRow)⟩)], [(0, 0)], none, [(0, ⟨3, 1, dr (E.map iRow)⟩)], .hs 0 0 C.length⟩)] fun K hK => ?_
              simp [push_cast, d2]
              repeat (refine And.intro (by clear hK; intros; first | omega | (simp_all; done) | (simp_all <;> omega)) ?_)
              refine hK _ ?_; clear hK K; refine Nav.imp ?_
              refine awp_freeze 3 (E.map iRow) rfl (by simp [push_cast, htk]) fun K hK => ?_
              simp [push_cast, St.fz, fzT, fzH, fzO, fz, fzL, fzR, fzR_dr, fzR_app, fzR_set, fzL_map, htk]
              refine hK _ ?_; clear hK K; refine Nav.imp ?_
              refine awp_loop (β := Nat × List Row) (fun s => ⟨76, [(2, .d (.fn (.func g) [])), (3, .ptr 0 0 0), (4, .ptr 1 0 0), (6, .ptr 2 0 0), (12, .ptr 3 0 0), (48, .d (.sl (C.map iRow))), (49, .d (.int .i64 C.length)), (50, .d (.int .i64 s.1))], [(0, some ⟨24, 1, [(regRow a).map .d]⟩), (1, some ⟨24, 1, [(regRow b).map .d]⟩), (2, some ⟨24, 1, [[.nl]]⟩), (3, some ⟨24, 1, [[.hs 4 0 s.2.length]]⟩), (4, some ⟨48, 2, dr (s.2.map Row.row)⟩)], 5⟩) (fun s => s.1 ≤ C.length ∧ s.2 = opOn f a b (C.take s.1)) (fun s => C.length - s.1) (0, []) ?_ ⟨Nat.zero_le _, by simp [opOn]⟩ ?_
              · refine weak_of [(0, some 0), (1, some 1), (2, some 2), (3, some 7), (4, none)] rfl (by simp [upT, up, upL, push_cast, hCle]) (by simp [upH, upR, upL, up, push_cast, hCle]) (by simp [namesOk, push_cast]) (by simp [olds])
              · rintro ⟨k, Z⟩ ⟨hk, hZ⟩
                simp only at hk hZ
                refine Nav.imp ?_
                refine awp_region cx [] fun K hK => ?_
                simp [push_cast]
                repeat (refine And.intro (by clear hK; intros; first | omega | (simp_all; done) | (simp_all <;> omega)) ?_)
                refine hK _ ?_; clear hK K; refine Nav.imp ?_
                refine awp_cond (b := decide ((k : Int) < C.length)) (by simp [push_cast]) (fun hb => ?_) (fun hb => ?_) <;> (refine Nav.imp ?_)
                · have hlt : k < C.length := by simpa using hb
                  obtain ⟨y, hy⟩ := getq hlt
                  have e0 := wrap_i64 (n := (k : Int) + 1) (by omega) (by omega)
                  have hnx : opOn f a b (C.take (k + 1)) = Z ++ opRow f a b y := by rw [hZ]; unfold opOn; rw [flat_take _ hy]
                  have hZl : Z.length ≤ 2000000 := by
                    have : Z.length ≤ C.length := by rw [hZ]; exact take_flat_one' (opRow_len f a b) C k
                    omega
                  have hZ32 : (Z.length + 1) * 32 ≤ 140737488355328 := by omega
                  have g1 := row_ok a y hA ha
                  have g2 := row_ok b y hB hb0
                  have g3 := hg (rowOf a y) (rowOf b y) (rowOf_len hA y) (rowOf_len hB y) (rowOf_rv ha y) (rowOf_rv hb0 y)
                  have hl1 := rowOf_len hA y
                  have hl2 := rowOf_len hB y
                  have hsl2 := sweep_len f (rowOf a y) (rowOf b y)
                  have g4 := cloneR_ok (sweep f (rowOf a y) (rowOf b y)) (by omega)
                  have hor : opRow f a b y = if sweep f (rowOf a y) (rowOf b y) = [] then [] else [⟨y, sweep f (rowOf a y) (rowOf b y)⟩] := rfl
                  rw [hor] at hnx
                  clear hor hl1 hl2 hsl2
                  generalize sweep f (rowOf a y) (rowOf b y) = r at *
                  generalize rowOf a y = ra at *
                  generalize rowOf b y = rb at *
                  refine awp_region cx [] fun K hK => ?_
                  simp [push_cast, hy]
                  repeat (refine And.intro (by clear hK; intros; first | omega | (simp_all; done) | (simp_all <;> omega)) ?_)
                  refine hK _ ?_; clear hK K; refine Nav.imp ?_
                  refine awp_region_draw cx mixed [(3, .p (encRuns ra)), (6, .p (encRuns rb)), (7, .p (encRuns r))] fun K hK => ?_
                  simp [push_cast, g1, g2, g3]
                  repeat (refine And.intro (by clear hK; intros; first | omega | (simp_all; done) | (simp_all <;> omega)) ?_)
                  refine hK _ _ (by kernel_rfl) ?_; clear hK K; refine Nav.imp ?_
                  refine awp_region cx [] fun K hK => ?_
                  simp [push_cast]
                  repeat (refine And.intro (by clear hK; intros; first | omega | (simp_all; done) | (simp_all <;> omega)) ?_)
                  refine hK _ ?_; clear hK K; refine Nav.imp ?_
                  refine awp_cond (b := decide (0 < (r.length : Int))) (by simp [push_cast]) (fun hb => ?_) (fun hb => ?_) <;> (refine Nav.imp ?_)
                  · have hb : 0 < r.length := by simp at hb; omega
                    have hne : r ≠ [] := List.length_pos_iff.1 hb
                    rw [if_neg hne] at hnx
                    refine awp_region_draw cx mixed [(4, .f (encRuns r))] fun K hK => ?_
                    simp [push_cast, g4, hZ32]
                    repeat (refine And.intro (by clear hK; intros; first | omega | (simp_all; done) | (simp_all <;> omega)) ?_)
                    refine hK _ _ (by kernel_rfl) ?_; clear hK K; refine Nav.imp ?_
                    refine awp_region cx [] fun K hK => ?_
                    simp [push_cast, e0]
                    repeat (refine And.intro (by clear hK; intros; first | omega | (simp_all; done) | (simp_all <;> omega)) ?_)
                    refine hK _ ?_; clear hK K; refine Nav.imp ?_
                    refine ⟨(k + 1, Z ++ [⟨y, r⟩]), ⟨hlt, hnx.symm⟩, by simp only; omega, ?_⟩
                    refine weak_of [(0, some 0), (1, some 1), (2, some 2), (3, some 3), (4, some 28)] rfl (by simp [upT, up, upL, push_cast, Row.row]) (by simp [upH, upR, upL, up, push_cast, Row.row]) (by simp [namesOk, push_cast]) (by simp [olds])
                  · have hb : r = [] := by simpa using hb
                    rw [if_pos hb, List.append_nil] at hnx
                    refine awp_region cx [] fun K hK => ?_
                    simp [push_cast, e0]
                    repeat (refine And.intro (by clear hK; intros; first | omega | (simp_all; done) | (simp_all <;> omega)) ?_)
                    refine hK _ ?_; clear hK K; refine Nav.imp ?_
                    refine ⟨(k + 1, Z), ⟨hlt, hnx.symm⟩, by simp only; omega, ?_⟩
                    refine weak_of [(0, some 0), (1, some 1), (2, some 2), (3, some 3), (4, some 4)] rfl (by simp [upT, up, upL, push_cast, Row.row]) (by simp [upH, upR, upL, up, push_cast, Row.row]) (by simp [namesOk, push_cast]) (by simp [olds])
                · have hge : k = C.length := by simp at hb; omega
                  subst hge
                  rw [List.take_length, hres] at hZ
                  subst hZ
                  refine awp_freeze 4 (Z.map Row.row) rfl (by simp [push_cast, Row.row]) fun K hK => ?_
                  simp [push_cast, St.fz, fzT, fzH, fzO, fz, fzL, fzR, fzR_dr, fzR_app, fzR_set, fzL_map, Row.row]
                  refine hK _ ?_; clear hK K; refine Nav.imp ?_
                  refine awp_region cx [] fun K hK => ?_
                  simp [push_cast]
                  repeat (refine And.intro (by clear hK; intros; first | omega | (simp_all; done) | (simp_all <;> omega)) ?_)
                  refine hK _ ?_; clear hK K; refine Nav.imp ?_
                  simp [push_cast]

theorem unionR_big (a b : List Row) (hA : bigR a) (hB : bigR b) : PC Try.prog 16 [.agg (regRow a), .agg (regRow b)] (.p (.agg (regRow (opR fU a b)))) := by
  have c1 := combine_big fU rfl 39 (fun x y h1 h2 h3 h4 => union_ok x y h1 h2 h3 h4) a b hA hB
  generalize opR fU a b = r at *
  refine pc_of_awp cx (fn := Try.f16) (c := _) Try.func16 rfl rfl (Nat.le_of_ble_eq_true rfl) ?_
  rw [Try.ntmps16]; refine Nav.imp ?_
  refine awp_region cx [] fun K hK => ?_
  simp [push_cast]
  repeat (refine And.intro (by clear hK; intros; first | omega | (simp_all; done) | (simp_all <;> omega)) ?_)
  refine hK _ ?_; clear hK K; refine Nav.imp ?_
  refine awp_region cx [(2, .p (.agg (regRow r)))] fun K hK => ?_
  simp [push_cast, c1]
  repeat (refine And.intro (by clear hK; intros; first | omega | (simp_all; done) | (simp_all <;> omega)) ?_)
  refine hK _ ?_; clear hK K; refine Nav.imp ?_
  simp [push_cast]
theorem intersectR_big (a b : List Row) (hA : bigR a) (hB : bigR b) : PC Try.prog 17 [.agg (regRow a), .agg (regRow b)] (.p (.agg (regRow (opR fI a b)))) := by
  have c1 := combine_big fI rfl 40 (fun x y h1 h2 h3 h4 => intersect_ok x y h1 h2 h3 h4) a b hA hB
  generalize opR fI a b = r at *
  refine pc_of_awp cx (fn := Try.f17) (c := _) Try.func17 rfl rfl (Nat.le_of_ble_eq_true rfl) ?_
  rw [Try.ntmps17]; refine Nav.imp ?_
  refine awp_region cx [] fun K hK => ?_
  simp [push_cast]
  repeat (refine And.intro (by clear hK; intros; first | omega | (simp_all; done) | (simp_all <;> omega)) ?_)
  refine hK _ ?_; clear hK K; refine Nav.imp ?_
  refine awp_region cx [(2, .p (.agg (regRow r)))] fun K hK => ?_
  simp [push_cast, c1]
  repeat (refine And.intro (by clear hK; intros; first | omega | (simp_all; done) | (simp_all <;> omega)) ?_)
  refine hK _ ?_; clear hK K; refine Nav.imp ?_
  simp [push_cast]
theorem subtractR_big (a b : List Row) (hA : bigR a) (hB : bigR b) : PC Try.prog 36 [.agg (regRow a), .agg (regRow b)] (.p (.agg (regRow (opR fD a b)))) := by
  have c1 := combine_big fD rfl 58 (fun x y h1 h2 h3 h4 => subtract_ok x y h1 h2 h3 h4) a b hA hB
  generalize opR fD a b = r at *
  refine pc_of_awp cx (fn := Try.f36) (c := _) Try.func36 rfl rfl (Nat.le_of_ble_eq_true rfl) ?_
  rw [Try.ntmps36]; refine Nav.imp ?_
  refine awp_region cx [] fun K hK => ?_
  simp [push_cast]
  repeat (refine And.intro (by clear hK; intros; first | omega | (simp_all; done) | (simp_all <;> omega)) ?_)
  refine hK _ ?_; clear hK K; refine Nav.imp ?_
  refine awp_region cx [(2, .p (.agg (regRow r)))] fun K hK => ?_
  simp [push_cast, c1]
  repeat (refine And.intro (by clear hK; intros; first | omega | (simp_all; done) | (simp_all <;> omega)) ?_)
  refine hK _ ?_; clear hK K; refine Nav.imp ?_
  simp [push_cast]
theorem unionR_ok (a b : List Row) (hA : smallR a) (hB : smallR b) : PC Try.prog 16 [.agg (regRow a), .agg (regRow b)] (.p (.agg (regRow (opR fU a b)))) := unionR_big a b (big_of hA) (big_of hB)
theorem intersectR_ok (a b : List Row) (hA : smallR a) (hB : smallR b) : PC Try.prog 17 [.agg (regRow a), .agg (regRow b)] (.p (.agg (regRow (opR fI a b)))) := intersectR_big a b (big_of hA) (big_of hB)
theorem subtractR_ok (a b : List Row) (hA : smallR a) (hB : smallR b) : PC Try.prog 36 [.agg (regRow a), .agg (regRow b)] (.p (.agg (regRow (opR fD a b)))) := subtractR_big a b (big_of hA) (big_of hB)
end Go.Proofs.Ytknelhiejjdioaa

set_option linter.unusedVariables false
set_option linter.unusedSimpArgs false
set_option maxRecDepth 100000
namespace Go.Proofs.Ytknelhiejjdioaa
open Go.Abs

/-! Opening by one cell, and the wide part of a region. -/
def openR (R : List Row) : List Row := dilR (eroR R 1) 1
theorem nearP_ofCells {R : List Row} (hv : validR R = true) {K : Nat} {y x : Int} : nearP R K y x ↔ ∃ c ∈ regCells R, c.y - K ≤ y ∧ y ≤ c.y + K ∧ c.x - K ≤ x ∧ x ≤ c.x + K := by
  constructor
  · rintro ⟨w, hw, h1, h2, r, hr, h3, h4⟩
    have hrb := (fine_apart.1 (row_fine hv hw).2).2.1.1 r hr
    by_cases q : x < r.a
    · exact ⟨⟨r.a, w.y⟩, mem_regCells.2 ⟨w, hw, rfl, r, hr, by simp, hrb⟩, h1, h2, by simp only; omega, by simp only; omega⟩
    · by_cases q2 : x < r.b
      · exact ⟨⟨x, w.y⟩, mem_regCells.2 ⟨w, hw, rfl, r, hr, by simp only; omega, q2⟩, h1, h2, by simp only; omega, by simp only; omega⟩
      · exact ⟨⟨r.b - 1, w.y⟩, mem_regCells.2 ⟨w, hw, rfl, r, hr, by simp only; omega, by simp only; omega⟩, h1, h2, by simp only; omega, by simp only; omega⟩
  · rintro ⟨c, hc, h1, h2, h3, h4⟩
    obtain ⟨w, hw, hy, r, hr, h5, h6⟩ := mem_regCells.1 hc
    exact ⟨w, hw, by omega, by omega, r, hr, by omega, by omega⟩
theorem cell_bd {R : List Row} (hv : validR R = true) {c : Cell} (hc : c ∈ regCells R) : -4096 ≤ c.x ∧ c.x < 4096 ∧ -4096 ≤ c.y ∧ c.y < 4096 := by
  obtain ⟨w, hw, hy, r, hr, h5, h6⟩ := mem_regCells.1 hc
  obtain ⟨h1, h2⟩ := row_fine hv hw
  have := (fine_apart.1 h2).2.2 r hr
  omega
/-- A region whose cells all keep off the rim can be dilated by one. -/
theorem rng_of {R : List Row} (hv : validR R = true) (h0 : 0 < R.length) (h : ∀ c ∈ regCells R, -4095 ≤ c.x ∧ c.x < 4095 ∧ -4095 ≤ c.y ∧ c.y < 4095) : rngB R 1 = true := by
  have hrow : ∀ w ∈ R, -4095 ≤ fstA w ∧ lstB w - 1 ≤ 4094 ∧ -4095 ≤ w.y ∧ w.y ≤ 4094 := fun w hw => by
    obtain ⟨f, z, hf, hz, hf1, hz1, hl⟩ := fine_ends (row_fine hv hw).2
    have e1 : fstA w = f.a := by simp [fstA, hf]
    have e2 : lstB w = z.b := by simp [lstB, hz]
    have ha := (fine_apart.1 (row_fine hv hw).2).2.1.1
    have q1 := ha f (List.mem_of_getElem? hf)
    have q2 := ha z (List.mem_of_getElem? hz)
    have p1 := h ⟨f.a, w.y⟩ (mem_regCells.2 ⟨w, hw, rfl, f, List.mem_of_getElem? hf, by simp, q1⟩)
    have p2 := h ⟨z.b - 1, w.y⟩ (mem_regCells.2 ⟨w, hw, rfl, z, List.mem_of_getElem? hz, by simp only; omega, by simp only; omega⟩)
    simp only at p1 p2
    rw [e1, e2]
    omega
  have hlow := (foldMin fstA R 4096).2.2 (-4095) (by omega) fun w hw => (hrow w hw).1
  have hhigh := (foldMax (fun w => lstB w - 1) R (-4096)).2.2 4094 (by omega) fun w hw => (hrow w hw).2.1
  have hf : fstY R = R[0].y := by simp [fstY, List.getElem?_eq_getElem h0]
  have hl : lstY R = R[R.length - 1].y := by simp [lstY, List.getElem?_eq_getElem (show R.length - 1 < R.length by omega)]
  have p1 := hrow R[0] (List.getElem_mem _)
  have p2 := hrow R[R.length - 1] (List.getElem_mem _)
  have e1 : -4095 ≤ lowX R := hlow
  have e2 : highX R ≤ 4094 := hhigh
  simp only [rngB, Bool.and_eq_true, Bool.not_eq_true', decide_eq_false_iff_not]
  constructor <;> omega
theorem open_err {R : List Row} (hv : validR R = true) : dilE (eroR R 1) 1 = 0 := by
  have hq : reachB R 1 = true := by simp [reachB, hv]
  obtain ⟨h1, h2⟩ := ero_facts hq
  unfold dilE
  rw [if_pos (by simp [reachB, h1])]
  by_cases h0 : 0 < (eroR R 1).length
  · rw [if_pos h0, if_pos]
    refine rng_of h1 h0 fun c hc => ?_
    have ha := (h2 c).1 hc
    have p1 := cell_bd hv (ha (-1) (-1) (by simp) (by simp) (by simp) (by simp))
    have p2 := cell_bd hv (ha 1 1 (by simp) (by simp) (by simp) (by simp))
    simp only at p1 p2
    omega
  · rw [if_neg h0]
theorem open_facts {R : List Row} (hv : validR R = true) : validR (openR R) = true ∧ ∀ c, c ∈ regCells (openR R) ↔ ∃ d : Cell, aroundC R 1 d ∧ d.x - 1 ≤ c.x ∧ c.x ≤ d.x + 1 ∧ d.y - 1 ≤ c.y ∧ c.y ≤ d.y + 1 := by
  have hq : reachB R 1 = true := by simp [reachB, hv]
  obtain ⟨h1, h2⟩ := ero_facts hq
  obtain ⟨_, h3, h4⟩ := dil_facts (open_err hv)
  refine ⟨h3, fun c => ?_⟩
  unfold openR
  rw [h4, nearP_ofCells h1]
  constructor
  · rintro ⟨d, hd, p1, p2, p3, p4⟩
    exact ⟨d, (h2 d).1 hd, p3, p4, p1, p2⟩
  · rintro ⟨d, hd, p1, p2, p3, p4⟩
    exact ⟨d, (h2 d).2 hd, p3, p4, p1, p2⟩
theorem open_bad {R : List Row} (hv : validR R = false) : openR R = [] := by
  have e : eroR R 1 = [] := by simp [eroR, reachB, hv]
  unfold openR
  rw [e]; rfl
theorem open_sub {R : List Row} (hv : validR R = true) {c : Cell} (hc : c ∈ regCells (openR R)) : c ∈ regCells R := by
  obtain ⟨d, hd, h1, h2, h3, h4⟩ := ((open_facts hv).2 c).1 hc
  have := hd (c.x - d.x) (c.y - d.y) (by omega) (by omega) (by omega) (by omega)
  rw [show (⟨d.x + (c.x - d.x), d.y + (c.y - d.y)⟩ : Cell) = c from by cases c; simp only [Cell.mk.injEq]; omega] at this
  exact this
theorem open_idem {R : List Row} (hv : validR R = true) : openR (openR R) = openR R := by
  obtain ⟨h1, h2⟩ := open_facts hv
  obtain ⟨h3, h4⟩ := open_facts h1
  refine region_uniq h3 h1 fun c => ⟨fun hc => open_sub h1 hc, fun hc => ?_⟩
  obtain ⟨d, hd, q⟩ := (h2 c).1 hc
  refine (h4 c).2 ⟨d, fun dx dy p1 p2 p3 p4 => ?_, q⟩
  exact (h2 _).2 ⟨d, hd, by simp only; omega, by simp only; omega, by simp only; omega, by simp only; omega⟩
theorem open_valid (R : List Row) : validR (openR R) = true := dil_valid _ _

theorem open_ok (R : List Row) (hR : bigR R) : PC Try.prog 35 [.agg (regRow R), .int .i64 1] (.p (.agg (regRow (openR R)))) := by
  have c1 := erode_ok R 1 hR
  have c2 := dilate_ok (eroR R 1) 1 (big_of (small_valid (ero_valid R 1)))
  have e : openR R = dilR (eroR R 1) 1 := rfl
  rw [e]
  generalize dilR (eroR R 1) 1 = D at *
  generalize dilE (eroR R 1) 1 = er at *
  generalize eroR R 1 = E at *
  refine pc_of_awp cx (fn := Try.f35) (c := _) Try.func35 rfl rfl (Nat.le_of_ble_eq_true rfl) ?_
  rw [Try.ntmps35]; refine Nav.imp ?_
  refine awp_region cx [] fun K hK => ?_
  simp [push_cast]
  repeat (refine And.intro (by clear hK; intros; first | omega | (simp_all; done) | (simp_all <;> omega)) ?_)
  refine hK _ ?_; clear hK K; refine Nav.imp ?_
  refine awp_region cx [(2, .p (.agg (regRow E))), (4, .p (.tup [.agg (regRow D), .int .i64 er]))] fun K hK => ?_
  simp [push_cast, c1, c2]
  repeat (refine And.intro (by clear hK; intros; first | omega | (simp_all; done) | (simp_all <;> omega)) ?_)
  refine hK _ ?_; clear hK K; refine Nav.imp ?_
  refine awp_region cx [] fun K hK => ?_
  simp [push_cast]
  repeat (refine And.intro (by clear hK; intros; first | omega | (simp_all; done) | (simp_all <;> omega)) ?_)
  refine hK _ ?_; clear hK K; refine Nav.imp ?_
  simp [push_cast]
theorem split_ok (R : List Row) (hR : bigR R) : PC Try.prog 14 [.agg (regRow R)] (.p (.tup [.agg (regRow (openR R)), .agg (regRow (opR fD R (openR R)))])) := by
  have c1 := open_ok R hR
  have c2 := subtractR_big R (openR R) hR (big_of (small_valid (open_valid R)))
  generalize opR fD R (openR R) = B at *
  generalize openR R = O at *
  refine pc_of_awp cx (fn := Try.f14) (c := _) Try.func14 rfl rfl (Nat.le_of_ble_eq_true rfl) ?_
  rw [Try.ntmps14]; refine Nav.imp ?_
  refine awp_region cx [] fun K hK => ?_
  simp [push_cast]
  repeat (refine And.intro (by clear hK; intros; first | omega | (simp_all; done) | (simp_all <;> omega)) ?_)
  refine hK _ ?_; clear hK K; refine Nav.imp ?_
  refine awp_region cx [(1, .p (.agg (regRow O)))] fun K hK => ?_
  simp [push_cast, c1]
  repeat (refine And.intro (by clear hK; intros; first | omega | (simp_all; done) | (simp_all <;> omega)) ?_)
  refine hK _ ?_; clear hK K; refine Nav.imp ?_
  refine awp_region_draw cx mixed [(3, .p (.agg (regRow B)))] fun K hK => ?_
  simp [push_cast, c2]
  repeat (refine And.intro (by clear hK; intros; first | omega | (simp_all; done) | (simp_all <;> omega)) ?_)
  refine hK _ _ (by kernel_rfl) ?_; clear hK K; refine Nav.imp ?_
  simp [push_cast]

/-! What the law on the wide part says. -/
theorem split_facts {R : List Row} (hv : validR R = true) : opR fD (openR R) (openR (openR R)) = [] ∧ opR fU (openR R) (opR fD R (openR R)) = R ∧ opR fI (openR R) (opR fD R (openR R)) = [] := by
  have h1 := (open_facts hv).1
  have h2 := (opR_facts (f := fD) rfl hv h1).1
  rw [open_idem hv]
  refine ⟨?_, ?_, ?_⟩
  · refine valid_empty (opR_facts (f := fD) rfl h1 h1).1 fun c hc => ?_
    rw [opD_iff h1 h1] at hc
    exact hc.2 hc.1
  · refine region_uniq (opR_facts (f := fU) rfl h1 h2).1 hv fun c => ?_
    rw [opU_iff h1 h2, opD_iff hv h1]
    constructor
    · rintro (h | h)
      · exact open_sub hv h
      · exact h.1
    · intro h
      by_cases q : c ∈ regCells (openR R)
      · exact .inl q
      · exact .inr ⟨h, q⟩
  · refine valid_empty (opR_facts (f := fI) rfl h1 h2).1 fun c hc => ?_
    rw [opI_iff h1 h2, opD_iff hv h1] at hc
    exact hc.2.2 hc.1
end Go.Proofs.Ytknelhiejjdioaa

set_option linter.unusedVariables false
set_option linter.unusedSimpArgs false
set_option maxRecDepth 100000
namespace Go.Proofs.Ytknelhiejjdioaa
open Go.Abs

/-! What the laws are called with. -/
theorem cell_of {f : Nat} {ds : List D} (h : hasT Try.prog (f + 2) 31 ds) : ∃ c : Cell, ds = c.row := by
  obtain ⟨hl, hp⟩ := hasT_struct (n := 2) (ts := [3, 3]) Try.underlying31 (by kernel_rfl) rfl (by kernel_rfl) h
  obtain ⟨d0, r0, e0, h0, hp0⟩ := parts_one (by kernel_rfl) hp (by simp_all <;> omega)
  subst e0
  obtain ⟨d1, r1, e1, h1, hp1⟩ := parts_one (by kernel_rfl) hp0 (by simp_all <;> omega)
  subst e1
  simp only [parts] at hp1
  subst hp1
  obtain ⟨n0, e0, w0⟩ := hasT_int Try.underlying3 h0
  cases e0
  obtain ⟨n1, e1, w1⟩ := hasT_int Try.underlying3 h1
  cases e1
  exact ⟨⟨n0, n1⟩, rfl⟩
theorem cells_of {f : Nat} {d : D} (h : hasT Try.prog (f + 3) 40 [d]) : ∃ l : List Cell, d = encCells l := by
  obtain ⟨rows, he, _, hr⟩ := hasT_slice Try.underlying40 h
  cases he
  obtain ⟨l, rfl⟩ := rows_of (row := Cell.row) fun r hr' => cell_of (hr r hr')
  exact ⟨l, rfl⟩
theorem run_of {f : Nat} {ds : List D} (h : hasT Try.prog (f + 2) 51 ds) : ∃ c : Run, ds = c.row := by
  obtain ⟨hl, hp⟩ := hasT_struct (n := 2) (ts := [3, 3]) Try.underlying51 (by kernel_rfl) rfl (by kernel_rfl) h
  obtain ⟨d0, r0, e0, h0, hp0⟩ := parts_one (by kernel_rfl) hp (by simp_all <;> omega)
  subst e0
  obtain ⟨d1, r1, e1, h1, hp1⟩ := parts_one (by kernel_rfl) hp0 (by simp_all <;> omega)
  subst e1
  simp only [parts] at hp1
  subst hp1
  obtain ⟨n0, e0, w0⟩ := hasT_int Try.underlying3 h0
  cases e0
  obtain ⟨n1, e1, w1⟩ := hasT_int Try.underlying3 h1
  cases e1
  exact ⟨⟨n0, n1⟩, rfl⟩
theorem runs_of {f : Nat} {d : D} (h : hasT Try.prog (f + 3) 46 [d]) : ∃ l : List Run, d = encRuns l := by
  obtain ⟨rows, he, _, hr⟩ := hasT_slice Try.underlying46 h
  cases he
  obtain ⟨l, rfl⟩ := rows_of (row := Run.row) fun r hr' => run_of (hr r hr')
  exact ⟨l, rfl⟩
theorem regrows_of {f : Nat} {d : D} (h : hasT Try.prog (f + 5) 22 [d]) : ∃ l : List Row, d = encRows l := by
  obtain ⟨rows, he, _, hr⟩ := hasT_slice Try.underlying22 h
  cases he
  obtain ⟨l, rfl⟩ := rows_of (row := Row.row) fun r hr' => by
    obtain ⟨hl, hp⟩ := hasT_struct (n := 2) (ts := [3, 46]) Try.underlying48 (by kernel_rfl) rfl (by kernel_rfl) (hr r hr')
    obtain ⟨d0, r0, e0, h0, hp0⟩ := parts_one (by kernel_rfl) hp (by simp_all <;> omega)
    subst e0
    obtain ⟨d1, r1, e1, h1, hp1⟩ := parts_one (by kernel_rfl) hp0 (by simp_all <;> omega)
    subst e1
    simp only [parts] at hp1
    subst hp1
    obtain ⟨n0, e0, w0⟩ := hasT_int Try.underlying3 h0
    cases e0
    obtain ⟨c, rfl⟩ := runs_of h1
    exact ⟨⟨n0, c⟩, rfl⟩
  exact ⟨l, rfl⟩
theorem region_of {f : Nat} {ds : List D} (h : hasT Try.prog (f + 6) 24 ds) : ∃ l : List Row, ds = regRow l := by
  obtain ⟨hl, hp⟩ := hasT_struct (n := 1) (ts := [22]) Try.underlying24 (by kernel_rfl) rfl (by kernel_rfl) h
  obtain ⟨d0, r0, e0, h0, hp0⟩ := parts_one (by kernel_rfl) hp (by simp_all <;> omega)
  subst e0
  simp only [parts] at hp0
  subst hp0
  obtain ⟨c, rfl⟩ := regrows_of h0
  exact ⟨c, rfl⟩

theorem arg_region {x : D} (h : hasV Try.prog 24 x) : ∃ R : List Row, x = .agg (regRow R) := by
  simp only [hasV, Try.underlying24] at h
  obtain ⟨cs, rfl, h⟩ := h
  obtain ⟨s, rfl⟩ := region_of (f := 24) h
  exact ⟨s, rfl⟩
theorem arg_cells {x : D} (h : hasV Try.prog 40 x) : ∃ l : List Cell, x = encCells l := by
  simp only [hasV, Try.underlying40] at h
  exact cells_of (f := 27) h
theorem arg_cell {x : D} (h : hasV Try.prog 31 x) : ∃ c : Cell, x = .agg c.row := by
  simp only [hasV, Try.underlying31] at h
  obtain ⟨cs, rfl, h⟩ := h
  obtain ⟨s, rfl⟩ := cell_of (f := 28) h
  exact ⟨s, rfl⟩
theorem arg_int {x : D} (h : hasV Try.prog 3 x) : ∃ n : Int, x = .int .i64 n := by
  obtain ⟨n, rfl, _⟩ := hasV_int Try.underlying3 h
  exact ⟨n, rfl⟩

theorem own : ownKnob Try.prog.godebug = none := by kernel_rfl
theorem laidOut : laidOutB Try.prog = true := by kernel_rfl
def zeroCell : Value := .agg #[.int .i64 0, .int .i64 0]
def zeroReg : Value := .agg #[.slice none 0 0]
end Go.Proofs.Ytknelhiejjdioaa

set_option linter.unusedVariables false
set_option linter.unusedSimpArgs false
namespace Go.Proofs.Ytknelhiejjdioaa
open Go.Abs

/-! A region cut short. -/
def cut20 (x : Run) : Run := if x.a < x.b ∧ -4097 < x.a ∧ x.b < 4097 ∧ x.a < x.b - 20 then ⟨x.a, x.a + 20⟩ else x
def fewW (w : Row) : Row := ⟨w.y, (w.runs.take 4).map cut20⟩
def fewR (R : List Row) : List Row := (R.take 12).map fewW

theorem few_small (R : List Row) : smallR (fewR R) := by
  refine ⟨by simp [fewR]; omega, fun w hw => ?_⟩
  obtain ⟨v, _, rfl⟩ := List.mem_map.1 hw
  simp [fewW]; omega

set_option maxHeartbeats 4000000 in
theorem few_ok (R : List Row) : PC Try.prog 13 [.agg (regRow R)] (.p (.agg (regRow (fewR R)))) := by
  refine pc_of_awp cx (fn := Try.f13) (c := _) Try.func13 rfl rfl (Nat.le_of_ble_eq_true rfl) ?_
  rw [Try.ntmps13]; refine Nav.imp ?_
  refine awp_region cx [] fun K hK => ?_
  simp [push_cast]
  repeat (refine And.intro (by clear hK; intros; first | omega | (simp_all; done) | (simp_all <;> omega)) ?_)
  refine hK _ ?_; clear hK K; refine Nav.imp ?_
  refine awp_region cx [] fun K hK => ?_
  simp [push_cast]
  repeat (refine And.intro (by clear hK; intros; first | omega | (simp_all; done) | (simp_all <;> omega)) ?_)
  refine hK _ ?_; clear hK K; refine Nav.imp ?_
  refine awp_region cx [] fun K hK => ?_
  simp [push_cast]
  repeat (refine And.intro (by clear hK; intros; first | omega | (simp_all; done) | (simp_all <;> omega)) ?_)
  refine hK _ ?_; clear hK K; refine Nav.imp ?_
  refine awp_loop (β := Nat × List Row) (fun b => ⟨86, [(1, .ptr 0 0 0), (2, .ptr 1 0 0), (3, .ptr 2 0 0), (4, .d (.int .i64 b.1))], [(0, some ⟨24, 1, [(regRow R).map .d]⟩), (1, some ⟨24, 1, [[.nl]]⟩), (2, some ⟨24, 1, [[.hs 3 0 b.2.length]]⟩), (3, some ⟨48, 2, dr (b.2.map Row.row)⟩)], 4⟩) (fun b => b.1 ≤ R.length ∧ b.1 ≤ 12 ∧ b.2 = (R.take b.1).map fewW) (fun b => R.length - b.1) (0, []) ?_ ⟨Nat.zero_le _, by omega, by simp⟩ ?_
  · refine weak_of [(0, some 0), (1, some 1), (2, some 2), (3, none)] rfl (by simp [upT, up, upL, push_cast]) (by simp [upH, upR, upL, up, push_cast]) (by simp [namesOk, push_cast]) (by simp [olds])
  · rintro ⟨k, out⟩ ⟨hk, hk2, hout⟩
    simp only at hk hk2 hout
    refine Nav.imp ?_
    refine awp_region cx [] fun K hK => ?_
    simp [push_cast]
    repeat (refine And.intro (by clear hK; intros; first | omega | (simp_all; done) | (simp_all <;> omega)) ?_)
    refine hK _ ?_; clear hK K; refine Nav.imp ?_
    refine awp_cond (by simp [push_cast] <;> exact rfl) (fun hb => ?_) (fun hb => ?_) <;> (refine Nav.imp ?_)
    · simp at hb
      obtain ⟨hlt, h12⟩ := hb
      obtain ⟨w, hw⟩ := getq hlt
      have e0 := wrap_i64 (n := (k : Int) + 1) (by omega) (by omega)
      have hnext : (R.take (k + 1)).map fewW = (R.take k).map fewW ++ [fewW w] := by rw [take_get hw]; simp
      have hol : out.length ≤ 12 := by rw [hout]; simp; omega
      have ho40 : (out.length + 1) * 32 ≤ 140737488355328 := by omega
      obtain ⟨y, ru⟩ := w
      refine awp_region cx [] fun K hK => ?_
      simp [push_cast, hw, Row.row]
      repeat (refine And.intro (by clear hK; intros; first | omega | (simp_all; done) | (simp_all <;> omega)) ?_)
      refine hK _ ?_; clear hK K; refine Nav.imp ?_
      refine awp_region cx [] fun K hK => ?_
      simp [push_cast, Row.row]
      repeat (refine And.intro (by clear hK; intros; first | omega | (simp_all; done) | (simp_all <;> omega)) ?_)
      refine hK _ ?_; clear hK K; refine Nav.imp ?_
      apply cut_
      · intro key
        refine awp_cond (b := decide (4 < (ru.length : Int))) (by simp [push_cast]) (fun hb => ?_) (fun hb => ?_) <;> (refine Nav.imp ?_)
        · have hb : 4 < ru.length := by simp at hb; omega
          have h4 : 4 ≤ ru.length := by omega
          refine awp_region cx [] fun K hK => ?_
          simp [push_cast, Row.row, h4]
          repeat (refine And.intro (by clear hK; intros; first | omega | (simp_all; done) | (simp_all <;> omega)) ?_)
          refine hK _ ?_; clear hK K; refine Nav.imp ?_
          refine awp_weak (s' := ⟨86, [(1, .ptr 0 0 0), (2, .ptr 1 0 0), (3, .ptr 2 0 0), (4, .d (.int .i64 k)), (5, .ptr 4 0 0)], [(0, some ⟨24, 1, [(regRow R).map .d]⟩), (1, some ⟨24, 1, [[.nl]]⟩), (2, some ⟨24, 1, [[.hs 3 0 out.length]]⟩), (3, some ⟨48, 2, dr (out.map Row.row)⟩), (4, some ⟨48, 2, [(Row.row ⟨y, ru.take 4⟩).map .d]⟩)], 5⟩) ?_ key.h
          refine weak_of [(0, some 0), (1, some 1), (2, some 2), (3, some 3), (4, some 18)] rfl (by simp [upT, up, upL, push_cast, Row.row]) (by simp [upH, upR, upL, up, push_cast, Row.row]) (by simp [namesOk, push_cast]) (by simp [olds])
        · have hb : ru.take 4 = ru := List.take_of_length_le (by simp at hb; omega)
          refine awp_weak (s' := ⟨86, [(1, .ptr 0 0 0), (2, .ptr 1 0 0), (3, .ptr 2 0 0), (4, .d (.int .i64 k)), (5, .ptr 4 0 0)], [(0, some ⟨24, 1, [(regRow R).map .d]⟩), (1, some ⟨24, 1, [[.nl]]⟩), (2, some ⟨24, 1, [[.hs 3 0 out.length]]⟩), (3, some ⟨48, 2, dr (out.map Row.row)⟩), (4, some ⟨48, 2, [(Row.row ⟨y, ru.take 4⟩).map .d]⟩)], 5⟩) ?_ key.h
          rw [hb]
          refine weak_of [(0, some 0), (1, some 1), (2, some 2), (3, some 3), (4, some 18)] rfl (by simp [upT, up, upL, push_cast, Row.row]) (by simp [upH, upR, upL, up, push_cast, Row.row]) (by simp [namesOk, push_cast]) (by simp [olds])
      · have hW : fewW ⟨y, ru⟩ = ⟨y, (ru.take 4).map cut20⟩ := rfl
        rw [hW] at hnext
        have hl4 : (ru.take 4).length ≤ 4 := by simp; omega
        generalize ru.take 4 = l at *
        refine Nav.imp ?_
        refine awp_region cx [] fun K hK => ?_
        simp [push_cast]
        repeat (refine And.intro (by clear hK; intros; first | omega | (simp_all; done) | (simp_all <;> omega)) ?_)
        refine hK _ ?_; clear hK K; refine Nav.imp ?_
        refine awp_region cx [] fun K hK => ?_
        simp [push_cast]
        repeat (refine And.intro (by clear hK; intros; first | omega | (simp_all; done) | (simp_all <;> omega)) ?_)
        refine hK _ ?_; clear hK K; refine Nav.imp ?_
        refine awp_loop (β := Nat × List Run) (fun b => ⟨86, [(1, .ptr 0 0 0), (2, .ptr 1 0 0), (3, .ptr 2 0 0), (4, .d (.int .i64 k)), (5, .ptr 4 0 0), (6, .hs 5 0 b.2.length), (7, .d (.int .i64 b.1))], [(0, some ⟨24, 1, [(regRow R).map .d]⟩), (1, some ⟨24, 1, [[.nl]]⟩), (2, some ⟨24, 1, [[.hs 3 0 out.length]]⟩), (3, some ⟨48, 2, dr (out.map Row.row)⟩), (4, some ⟨48, 2, [(Row.row ⟨y, l⟩).map .d]⟩), (5, some ⟨51, 2, dr (b.2.map Run.row)⟩)], 6⟩) (fun b => b.1 ≤ l.length ∧ b.2 = (l.take b.1).map cut20) (fun b => l.length - b.1) (0, []) ?_ ⟨Nat.zero_le _, by simp⟩ ?_
        · refine weak_of [(0, some 0), (1, some 1), (2, some 2), (3, some 3), (4, some 4), (5, none)] rfl (by simp [upT, up, upL, push_cast, Row.row]) (by simp [upH, upR, upL, up, push_cast, Row.row]) (by simp [namesOk, push_cast]) (by simp [olds])
        · rintro ⟨j, L⟩ ⟨hj, hL⟩
          simp only at hj hL
          refine Nav.imp ?_
          refine awp_region cx [] fun K hK => ?_
          simp [push_cast, Row.row]
          repeat (refine And.intro (by clear hK; intros; first | omega | (simp_all; done) | (simp_all <;> omega)) ?_)
          refine hK _ ?_; clear hK K; refine Nav.imp ?_
          refine awp_cond (b := decide ((j : Int) < l.length)) (by simp [push_cast]) (fun hb => ?_) (fun hb => ?_) <;> (refine Nav.imp ?_)
          · have hjl : j < l.length := by simpa using hb
            obtain ⟨x, hx⟩ := getq hjl
            have e1 := wrap_i64 (n := (j : Int) + 1) (by omega) (by omega)
            have hLl : L.length ≤ 4 := by rw [hL]; simp; omega
            have hL16 : (L.length + 1) * 16 ≤ 140737488355328 := by omega
            have hnx : (l.take (j + 1)).map cut20 = (l.take j).map cut20 ++ [cut20 x] := by rw [take_get hx]; simp
            have hcx : cut20 x = if x.a < x.b ∧ -4097 < x.a ∧ x.b < 4097 ∧ x.a < x.b - 20 then ⟨x.a, x.a + 20⟩ else x := rfl
            rw [← hL] at hnx
            obtain ⟨xa, xb⟩ := x
            simp only at hcx
            refine awp_region cx [] fun K hK => ?_
            simp [push_cast, hx, Row.row, Run.row]
            repeat (refine And.intro (by clear hK; intros; first | omega | (simp_all; done) | (simp_all <;> omega)) ?_)
            refine hK _ ?_; clear hK K; refine Nav.imp ?_
            refine awp_region cx [] fun K hK => ?_
            simp [push_cast, Run.row]
            repeat (refine And.intro (by clear hK; intros; first | omega | (simp_all; done) | (simp_all <;> omega)) ?_)
            refine hK _ ?_; clear hK K; refine Nav.imp ?_
            apply cut_
            · intro ky
              refine awp_cond (by simp [push_cast] <;> exact rfl) (fun hb => ?_) (fun hb => ?_) <;> (refine Nav.imp ?_)
              · simp at hb
                obtain ⟨⟨⟨b1, b2⟩, b3⟩, b4⟩ := hb
                have e2 := wrap_i64 (n := xb - 20) (by omega) (by omega)
                rw [e2] at b4
                have e3 := wrap_i64 (n := xa + 20) (by omega) (by omega)
                have hc : cut20 ⟨xa, xb⟩ = ⟨xa, xa + 20⟩ := by rw [hcx, if_pos ⟨b1, by omega, b3, b4⟩]
                refine awp_region cx [] fun K hK => ?_
                simp [push_cast, Run.row, e3]
                repeat (refine And.intro (by clear hK; intros; first | omega | (simp_all; done) | (simp_all <;> omega)) ?_)
                refine hK _ ?_; clear hK K; refine Nav.imp ?_
                refine awp_weak (s' := ⟨86, [(1, .ptr 0 0 0), (2, .ptr 1 0 0), (3, .ptr 2 0 0), (4, .d (.int .i64 k)), (5, .ptr 4 0 0), (6, .hs 5 0 L.length), (7, .d (.int .i64 j)), (8, .ptr 6 0 0)], [(0, some ⟨24, 1, [(regRow R).map .d]⟩), (1, some ⟨24, 1, [[.nl]]⟩), (2, some ⟨24, 1, [[.hs 3 0 out.length]]⟩), (3, some ⟨48, 2, dr (out.map Row.row)⟩), (4, some ⟨48, 2, [(Row.row ⟨y, l⟩).map .d]⟩), (5, some ⟨51, 2, dr (L.map Run.row)⟩), (6, some ⟨51, 2, [(cut20 ⟨xa, xb⟩).row.map .d]⟩)], 7⟩) ?_ ky.h
                rw [hc]
                refine weak_of [(0, some 0), (1, some 1), (2, some 2), (3, some 3), (4, some 4), (5, some 5), (6, some 16)] rfl (by simp [upT, up, upL, push_cast, Row.row, Run.row]) (by simp [upH, upR, upL, up, push_cast, Row.row, Run.row]) (by simp [namesOk, push_cast]) (by simp [olds])
              · simp at hb
                have hc : cut20 ⟨xa, xb⟩ = ⟨xa, xb⟩ := by
                  rw [hcx, if_neg]
                  rintro ⟨b1, b2, b3, b4⟩
                  have e2 := wrap_i64 (n := xb - 20) (by omega) (by omega)
                  have := hb b1 (by omega) b3
                  rw [e2] at this
                  omega
                refine awp_weak (s' := ⟨86, [(1, .ptr 0 0 0), (2, .ptr 1 0 0), (3, .ptr 2 0 0), (4, .d (.int .i64 k)), (5, .ptr 4 0 0), (6, .hs 5 0 L.length), (7, .d (.int .i64 j)), (8, .ptr 6 0 0)], [(0, some ⟨24, 1, [(regRow R).map .d]⟩), (1, some ⟨24, 1, [[.nl]]⟩), (2, some ⟨24, 1, [[.hs 3 0 out.length]]⟩), (3, some ⟨48, 2, dr (out.map Row.row)⟩), (4, some ⟨48, 2, [(Row.row ⟨y, l⟩).map .d]⟩), (5, some ⟨51, 2, dr (L.map Run.row)⟩), (6, some ⟨51, 2, [(cut20 ⟨xa, xb⟩).row.map .d]⟩)], 7⟩) ?_ ky.h
                rw [hc]
                refine weak_of [(0, some 0), (1, some 1), (2, some 2), (3, some 3), (4, some 4), (5, some 5), (6, some 16)] rfl (by simp [upT, up, upL, push_cast, Row.row, Run.row]) (by simp [upH, upR, upL, up, push_cast, Row.row, Run.row]) (by simp [namesOk, push_cast]) (by simp [olds])
            · generalize cut20 ⟨xa, xb⟩ = c at *
              obtain ⟨ca, cb⟩ := c
              refine Nav.imp ?_
              refine awp_region cx [] fun K hK => ?_
              simp [push_cast, Run.row, hL16]
              repeat (refine And.intro (by clear hK; intros; first | omega | (simp_all; done) | (simp_all <;> omega)) ?_)
              refine hK _ ?_; clear hK K; refine Nav.imp ?_
              refine awp_region cx [] fun K hK => ?_
              simp [push_cast, e1]
              repeat (refine And.intro (by clear hK; intros; first | omega | (simp_all; done) | (simp_all <;> omega)) ?_)
              refine hK _ ?_; clear hK K; refine Nav.imp ?_
              refine ⟨(j + 1, L ++ [⟨ca, cb⟩]), ⟨hjl, hnx.symm⟩, by simp only; omega, ?_⟩
              refine weak_of [(0, some 0), (1, some 1), (2, some 2), (3, some 3), (4, some 4), (5, some 10)] rfl (by simp [upT, up, upL, push_cast, Row.row, Run.row]) (by simp [upH, upR, upL, up, push_cast, Row.row, Run.row]) (by simp [namesOk, push_cast]) (by simp [olds])
          · have hjn : j = l.length := by simp at hb; omega
            subst hjn
            rw [List.take_length] at hL
            have hcl : (⟨y, l.map cut20⟩ : Row) = ⟨y, L⟩ := by rw [hL]
            rw [hcl, ← hout] at hnext
            refine awp_freeze 5 (L.map Run.row) rfl (by simp [push_cast, Run.row]) fun K hK => ?_
            simp [push_cast, St.fz, fzT, fzH, fzO, fz, fzL, fzR, fzR_dr, fzR_app, fzR_set, fzL_map, Run.row]
            refine hK _ ?_; clear hK K; refine Nav.imp ?_
            refine awp_region cx [] fun K hK => ?_
            simp [push_cast, Row.row, ho40]
            repeat (refine And.intro (by clear hK; intros; first | omega | (simp_all; done) | (simp_all <;> omega)) ?_)
            refine hK _ ?_; clear hK K; refine Nav.imp ?_
            refine awp_region cx [] fun K hK => ?_
            simp [push_cast, e0]
            repeat (refine And.intro (by clear hK; intros; first | omega | (simp_all; done) | (simp_all <;> omega)) ?_)
            refine hK _ ?_; clear hK K; refine Nav.imp ?_
            refine ⟨(k + 1, out ++ [⟨y, L⟩]), ⟨hlt, by simp only; omega, hnext.symm⟩, by simp only; omega, ?_⟩
            refine weak_of [(0, some 0), (1, some 1), (2, some 2), (3, some 18)] rfl (by simp [upT, up, upL, push_cast, Row.row]) (by simp [upH, upR, upL, up, push_cast, Row.row]) (by simp [namesOk, push_cast]) (by simp [olds])
    · simp at hb
      have hf : fewR R = out := by
        rw [hout]
        unfold fewR
        congr 1
        by_cases h : k < R.length
        · rw [show k = 12 from by have := hb h; omega]
        · rw [List.take_of_length_le (by omega), List.take_of_length_le (by omega)]
      rw [hf]
      clear hf hout
      refine awp_freeze 3 (out.map Row.row) rfl (by simp [push_cast, Row.row]) fun K hK => ?_
      simp [push_cast, St.fz, fzT, fzH, fzO, fz, fzL, fzR, fzR_dr, fzR_app, fzR_set, fzL_map, Row.row]
      refine hK _ ?_; clear hK K; refine Nav.imp ?_
      refine awp_region cx [] fun K hK => ?_
      simp [push_cast]
      repeat (refine And.intro (by clear hK; intros; first | omega | (simp_all; done) | (simp_all <;> omega)) ?_)
      refine hK _ ?_; clear hK K; refine Nav.imp ?_
      simp [push_cast]
end Go.Proofs.Ytknelhiejjdioaa
