/-
  Texts of this seat put together: M4, M5, U2, M6, X9.
-/
import Derived.Test.YtlfalheciadklaaJ6
import Derived.Test.YtlfalheciadklaaJ7
import Derived.Test.YtlfalheciadklaaJ5
set_option linter.unusedVariables false
set_option linter.unusedSimpArgs false
set_option maxRecDepth 100000
namespace Go.Proofs.Ytlfalheciadklaa
open Go.Abs

/-! The runs of neighboring rows, joined. -/
def OkL (l : List Run) : Prop := Apart l ∧ ∀ r ∈ l, -4160 ≤ r.a ∧ r.b ≤ 4160
theorem OkL.nil : OkL [] := ⟨⟨by simp, by simp⟩, by simp⟩
theorem OkL.rv {l : List Run} (h : OkL l) : rvalid l = true := apart_rv h.1 h.2
theorem OkL.len {l : List Run} (h : OkL l) : l.length ≤ 8320 := apart_small h.1 h.2
theorem OkL.sweep {f : Bool → Bool → Bool} (hf : f false false = false) {a b : List Run} (ha : OkL a) (hb : OkL b) : OkL (sweep f a b) := by
  obtain ⟨h1, h2⟩ := sweep_facts hf ha.rv hb.rv
  refine ⟨h1, apart_bounds h1 fun x hx => ?_⟩
  rw [h2] at hx
  cases q1 : inR a x with
  | true => obtain ⟨r, hr, h3, h4⟩ := inR_iff.1 q1; have := ha.2 r hr; omega
  | false =>
    cases q2 : inR b x with
    | true => obtain ⟨r, hr, h3, h4⟩ := inR_iff.1 q2; have := hb.2 r hr; omega
    | false => rw [q1, q2, hf] at hx; cases hx
def OkM (M : List (Int × List Run)) : Prop := ∀ y, OkL (mget M y)
/-- The rows y, y + 1, .. y + j. -/
def wj (f : Bool → Bool → Bool) (M : List (Int × List Run)) (y : Int) : Nat → List Run
  | 0 => mget M y
  | j + 1 => sweep f (wj f M y j) (mget M (y + 1 + j))
theorem wj_ok {f : Bool → Bool → Bool} (hf : f false false = false) {M : List (Int × List Run)} (hM : OkM M) (y : Int) : ∀ j, OkL (wj f M y j)
  | 0 => hM y
  | j + 1 => (wj_ok hf hM y j).sweep hf (hM _)
theorem wj_U {M : List (Int × List Run)} (hM : OkM M) (y x : Int) : ∀ j : Nat, inR (wj fU M y j) x = true ↔ ∃ i : Nat, i ≤ j ∧ inR (mget M (y + i)) x = true
  | 0 => by
    simp only [wj, Nat.le_zero]
    constructor
    · intro h; exact ⟨0, rfl, by simpa using h⟩
    · rintro ⟨i, rfl, h⟩; simpa using h
  | j + 1 => by
    have ih := wj_U hM y x j
    simp only [wj, (sweep_facts (f := fU) rfl (wj_ok (f := fU) rfl hM y j).rv (hM (y + 1 + j)).rv).2, fU, Bool.or_eq_true, ih]
    constructor
    · rintro (⟨i, hi, h⟩ | h)
      · exact ⟨i, by omega, h⟩
      · exact ⟨j + 1, Nat.le_refl _, by rw [show y + ((j + 1 : Nat) : Int) = y + 1 + j by omega]; exact h⟩
    · rintro ⟨i, hi, h⟩
      by_cases e : i = j + 1
      · subst e; right; rw [show y + ((j + 1 : Nat) : Int) = y + 1 + j by omega] at h; exact h
      · exact .inl ⟨i, by omega, h⟩
theorem wj_I {M : List (Int × List Run)} (hM : OkM M) (y x : Int) : ∀ j : Nat, inR (wj fI M y j) x = true ↔ ∀ i : Nat, i ≤ j → inR (mget M (y + i)) x = true
  | 0 => by
    simp only [wj, Nat.le_zero]
    constructor
    · rintro h i rfl; simpa using h
    · intro h; simpa using h 0 rfl
  | j + 1 => by
    have ih := wj_I hM y x j
    simp only [wj, (sweep_facts (f := fI) rfl (wj_ok (f := fI) rfl hM y j).rv (hM (y + 1 + j)).rv).2, fI, Bool.and_eq_true, ih]
    constructor
    · rintro ⟨h1, h2⟩ i hi
      by_cases e : i = j + 1
      · subst e; rw [show y + ((j + 1 : Nat) : Int) = y + 1 + j by omega]; exact h2
      · exact h1 i (by omega)
    · intro h
      refine ⟨fun i hi => h i (by omega), ?_⟩
      have := h (j + 1) (Nat.le_refl _)
      rw [show y + ((j + 1 : Nat) : Int) = y + 1 + j by omega] at this; exact this
def rowW (f : Bool → Bool → Bool) (M : List (Int × List Run)) (y : Int) (K : Nat) : List Run := wj f M (y - K) (2 * K)

set_option maxHeartbeats 2000000 in
theorem wrow_ok (f : Bool → Bool → Bool) (hf : f false false = false) (g : FuncId) (hg : ∀ a b : List Run, a.length ≤ 1000000 → b.length ≤ 1000000 → rvalid a = true → rvalid b = true → PC Try.prog g [encRuns a, encRuns b] (.p (encRuns (sweep f a b))))
    (M : List (Int × List Run)) (hM : OkM M) (y : Int) (K : Nat) (hy : -10000 ≤ y ∧ y ≤ 10000) (hK : K ≤ 64) :
    PC Try.prog 67 [.agg [.mp (mpRows M), .fn (.func g) []], .int .i64 y, .int .i64 K] (.p (encRuns (rowW f M y K))) := by
  have hok := fun j => wj_ok hf hM (y - K) j
  have h0 : wj f M (y - K) 0 = mget M (y - K) := rfl
  have hs : ∀ j : Nat, wj f M (y - K) (j + 1) = sweep f (wj f M (y - K) j) (mget M (y - K + 1 + j)) := fun j => rfl
  have hr : rowW f M y K = wj f M (y - K) (2 * K) := rfl
  rw [hr]
  clear hr
  generalize wj f M (y - K) = W at *
  have e1 := wrap_i64 (n := y - (K : Int)) (by omega) (by omega)
  have e2 := wrap_i64 (n := y - (K : Int) + 1) (by omega) (by omega)
  have e3 := wrap_i64 (n := y + (K : Int)) (by omega) (by omega)
  have hl0 := look_mp (y - K) M
  refine pc_of_awp cx (fn := Try.f67) (c := _) Try.func67 rfl rfl (Nat.le_of_ble_eq_true rfl) ?_
  rw [Try.ntmps67]; refine Nav.imp ?_
  refine awp_region cx [] fun K hK => ?_
  simp [push_cast]
  repeat (refine And.intro (by clear hK; intros; first | omega | (simp_all; done) | (simp_all <;> omega)) ?_)
  refine hK _ ?_; clear hK K; refine Nav.imp ?_
  refine awp_region cx [(5, .p (encRuns (mget M (y - K))))] fun K hK => ?_
  simp [push_cast, e1, hl0]
  repeat (refine And.intro (by clear hK; intros; first | omega | (simp_all; done) | (simp_all <;> omega)) ?_)
  refine hK _ ?_; clear hK K; refine Nav.imp ?_
  rw [← h0]
  refine awp_region cx [] fun K hK => ?_
  simp [push_cast, e1, e2]
  repeat (refine And.intro (by clear hK; intros; first | omega | (simp_all; done) | (simp_all <;> omega)) ?_)
  refine hK _ ?_; clear hK K; refine Nav.imp ?_
  refine awp_loop (β := Nat) (fun j => ⟨35, [(1, .d (.int .i64 y)), (2, .d (.int .i64 K)), (3, .ptr 0 0 0), (7, .d (encRuns (W j))), (8, .d (.int .i64 (y - K + 1 + j)))], [(0, some ⟨78, 2, [[.d (.mp (mpRows M)), .d (.fn (.func g) [])]]⟩)], 1⟩) (fun j => j ≤ 2 * K) (fun j => 2 * K - j) 0 ?_ (Nat.zero_le _) ?_
  · refine weak_of [(0, some 0)] rfl (by simp [upT, up, upL, push_cast]) (by simp [upH, upR, upL, up, push_cast]) (by simp [namesOk, push_cast]) (by simp [olds])
  · intro j hj
    replace hj : j ≤ 2 * K := hj
    refine Nav.imp ?_
    by_cases hlt : j < 2 * K
    · have q1 : y - (K : Int) + 1 + j ≤ y + K := by omega
      have e4 := wrap_i64 (n := y - (K : Int) + 1 + j + 1) (by omega) (by omega)
      have hl := look_mp (y - K + 1 + j) M
      have hA := hok j
      have hB := hM (y - K + 1 + j)
      have c1 := hg (W j) (mget M (y - K + 1 + j)) (by have := hA.len; omega) (by have := hB.len; omega) hA.rv hB.rv
      rw [← hs j] at c1
      refine awp_region cx [] fun K hK => ?_
      simp [push_cast, e3]
      repeat (refine And.intro (by clear hK; intros; first | omega | (simp_all; done) | (simp_all <;> omega)) ?_)
      refine hK _ ?_; clear hK K; refine Nav.imp ?_
      refine awp_cond (b := true) (by simp [push_cast, q1]) (fun hb => ?_) (fun hb => ?_) <;> (refine Nav.imp ?_)
      · refine awp_region cx [(6, .p (encRuns (mget M (y - K + 1 + j)))), (7, .p (encRuns (W (j + 1))))] fun K hK => ?_
        simp [push_cast, hl, c1]
        repeat (refine And.intro (by clear hK; intros; first | omega | (simp_all; done) | (simp_all <;> omega)) ?_)
        refine hK _ ?_; clear hK K; refine Nav.imp ?_
        refine awp_region cx [] fun K hK => ?_
        simp [push_cast, e4]
        repeat (refine And.intro (by clear hK; intros; first | omega | (simp_all; done) | (simp_all <;> omega)) ?_)
        refine hK _ ?_; clear hK K; refine Nav.imp ?_
        refine ⟨j + 1, by show j + 1 ≤ 2 * K; omega, by show 2 * K - (j + 1) < 2 * K - j; omega, ?_⟩
        refine weak_of [(0, some 0)] rfl (by simp [upT, up, upL, push_cast, Int.add_assoc]) (by simp [upH, upR, upL, up, push_cast, Int.add_assoc]) (by simp [namesOk, push_cast]) (by simp [olds])
      · simp at hb
    · have hje : j = 2 * K := by omega
      subst hje
      have q1 : y + (K : Int) < y - K + 1 + 2 * K := by omega
      refine awp_region cx [] fun K hK => ?_
      simp [push_cast, e3]
      repeat (refine And.intro (by clear hK; intros; first | omega | (simp_all; done) | (simp_all <;> omega)) ?_)
      refine hK _ ?_; clear hK K; refine Nav.imp ?_
      refine awp_cond (b := false) (by simp [push_cast, q1]) (fun hb => ?_) (fun hb => ?_) <;> (refine Nav.imp ?_)
      · simp at hb
      · refine awp_region cx [] fun K hK => ?_
        simp [push_cast]
        repeat (refine And.intro (by clear hK; intros; first | omega | (simp_all; done) | (simp_all <;> omega)) ?_)
        refine hK _ ?_; clear hK K; refine Nav.imp ?_
        simp [push_cast]
end Go.Proofs.Ytlfalheciadklaa

set_option linter.unusedVariables false
set_option linter.unusedSimpArgs false
set_option maxRecDepth 100000
namespace Go.Proofs.Ytlfalheciadklaa
open Go.Abs

/-! A map of a region's rows. Erosion. -/
def rowMap (F : List Run → List Run) (R : List Row) : List (Int × List Run) := R.foldl (fun M w => putL M w.y (F w.runs)) []
theorem rowMap_take {F : List Run → List Run} {R : List Row} {i : Nat} {w : Row} (h : R[i]? = some w) : rowMap F (R.take (i + 1)) = putL (rowMap F (R.take i)) w.y (F w.runs) := by simp [rowMap, take_get h]
theorem rowOf_cons (w : Row) (R : List Row) (y : Int) : rowOf (w :: R) y = if w.y = y then w.runs else rowOf R y := by
  unfold rowOf
  rw [List.find?_cons]
  by_cases h : w.y = y <;> simp [h]
theorem rowMap_from (F : List Run → List Run) : ∀ (R : List Row) (M : List (Int × List Run)) (y : Int), (R.Pairwise fun a b => a.y < b.y) →
    mget (R.foldl (fun M w => putL M w.y (F w.runs)) M) y = if (∃ w ∈ R, w.y = y) then F (rowOf R y) else mget M y
  | [], M, y, _ => by simp
  | w :: R, M, y, h => by
    obtain ⟨h1, h2⟩ := List.pairwise_cons.1 h
    rw [List.foldl_cons, rowMap_from F R _ y h2, rowOf_cons, mget_put]
    by_cases hr : ∃ v ∈ R, v.y = y
    · obtain ⟨v, hv, e⟩ := hr
      have hne : w.y ≠ y := by have := h1 v hv; omega
      rw [if_pos ⟨v, hv, e⟩, if_pos ⟨v, by simp [hv], e⟩, if_neg hne]
    · rw [if_neg hr]
      by_cases e : w.y = y
      · rw [if_pos e.symm, if_pos ⟨w, by simp, e⟩, if_pos e]
      · rw [if_neg (Ne.symm e), if_neg]
        rintro ⟨v, hv, e'⟩
        rcases List.mem_cons.1 hv with rfl | hv
        · exact e e'
        · exact hr ⟨v, hv, e'⟩
theorem rowMap_get {F : List Run → List Run} (h0 : F [] = []) {R : List Row} (hv : R.Pairwise fun a b => a.y < b.y) (y : Int) : mget (rowMap F R) y = F (rowOf R y) := by
  unfold rowMap
  rw [rowMap_from F R [] y hv]
  split
  · rfl
  · rename_i h
    rw [rowOf_none (fun w hw e => h ⟨w, hw, e⟩), h0]
    rfl

theorem mem_shrK {K : Int} {l : List Run} {q : Run} : q ∈ shrK K l ↔ ∃ r ∈ l, r.a + K < r.b - K ∧ q = ⟨r.a + K, r.b - K⟩ := by
  unfold shrK shrRun
  rw [List.mem_flatMap]
  refine exists_congr fun r => and_congr_right fun _ => ?_
  split
  · rename_i h; simp [h]
  · rename_i h; simp [h]
theorem shrK_in {K : Int} {l : List Run} {x : Int} : inR (shrK K l) x = true ↔ ∃ r ∈ l, r.a + K ≤ x ∧ x < r.b - K := by
  rw [inR_iff]
  constructor
  · rintro ⟨q, hq, h⟩
    obtain ⟨r, hr, _, rfl⟩ := mem_shrK.1 hq
    exact ⟨r, hr, h⟩
  · rintro ⟨r, hr, h1, h2⟩
    exact ⟨_, mem_shrK.2 ⟨r, hr, by omega, rfl⟩, h1, h2⟩
theorem shrK_ok {K : Int} (hK : 0 ≤ K) {l : List Run} (h : Apart l) (hb : ∀ r ∈ l, -4096 ≤ r.a ∧ r.b ≤ 4096) : OkL (shrK K l) := by
  refine ⟨⟨fun q hq => ?_, ?_⟩, fun q hq => ?_⟩
  · obtain ⟨r, hr, h1, rfl⟩ := mem_shrK.1 hq; exact h1
  · refine flat_pw (P := fun p r => p.b < r.a) (fun r => shrRun_len K r) (fun a b x y hab hx hy => ?_) h.2
    unfold shrRun at hx hy
    split at hx <;> simp at hx
    split at hy <;> simp at hy
    subst hx; subst hy
    simp only; omega
  · obtain ⟨r, hr, h1, rfl⟩ := mem_shrK.1 hq
    have := hb r hr
    simp only; omega
/-- A number lies in the shortened runs exactly if all numbers around it lie in the runs. -/
theorem shrK_all {K : Nat} {l : List Run} (h : Apart l) (x : Int) : inR (shrK K l) x = true ↔ ∀ d : Int, -K ≤ d → d ≤ K → inR l (x + d) = true := by
  rw [shrK_in]
  constructor
  · rintro ⟨r, hr, h1, h2⟩ d d1 d2
    exact inR_iff.2 ⟨r, hr, by omega, by omega⟩
  · intro hall
    obtain ⟨r, hr, h1, h2⟩ := inR_iff.1 (hall (-K) (by omega) (by omega))
    refine ⟨r, hr, by omega, ?_⟩
    apply Classical.byContradiction
    intro hn
    obtain ⟨p, hp, h3, h4⟩ := inR_iff.1 (hall (r.b - x) (by omega) (by omega))
    have hrb := h.1 r hr
    have hpb := h.1 p hp
    have hne : r ≠ p := by rintro rfl; omega
    obtain ⟨i, hi⟩ := List.getElem?_of_mem hr
    obtain ⟨j, hj⟩ := List.getElem?_of_mem hp
    have hpw := List.pairwise_iff_getElem.1 h.2
    obtain ⟨hi1, hi2⟩ := List.getElem?_eq_some_iff.1 hi
    obtain ⟨hj1, hj2⟩ := List.getElem?_eq_some_iff.1 hj
    rcases (by omega : i < j ∨ i = j ∨ j < i) with q | q | q
    · have := hpw i j hi1 hj1 q; rw [hi2, hj2] at this; omega
    · subst q; rw [hi2] at hj2; exact hne hj2
    · have := hpw j i hj1 hi1 q; rw [hi2, hj2] at this; omega

def shrF (K : Nat) (l : List Run) : List Run := shrB l K
theorem shrF_nil (K : Nat) : shrF K [] = [] := by unfold shrF shrB shrK; simp
theorem shrF_eq {l : List Run} (h : rvalid l = true) {K : Nat} (hK : K ≤ 64) : shrF K l = shrK K l := by
  unfold shrF shrB
  rw [if_pos (by rw [h]; simp; omega)]
theorem rowOf_apart {R : List Row} (hv : validR R = true) (y : Int) : Apart (rowOf R y) ∧ ∀ r ∈ rowOf R y, -4096 ≤ r.a ∧ r.b ≤ 4096 := by
  rcases rowOf_cases hv y with ⟨w, hw, _, e⟩ | ⟨_, e⟩
  · rw [e]; exact (fine_apart.1 (row_fine hv hw).2).2
  · rw [e]; exact ⟨⟨by simp, by simp⟩, by simp⟩
theorem eroM_get {R : List Row} (hv : validR R = true) {K : Nat} (hK : K ≤ 64) (y : Int) : mget (rowMap (shrF K) R) y = shrK K (rowOf R y) := by
  rw [rowMap_get (shrF_nil K) (validR_pw.1 hv).2, shrF_eq (rowOf_rv hv y) hK]
theorem eroM_ok {R : List Row} (hv : validR R = true) {K : Nat} (hK : K ≤ 64) : OkM (rowMap (shrF K) R) := fun y => by
  rw [eroM_get hv hK]
  exact shrK_ok (by omega) (rowOf_apart hv y).1 (rowOf_apart hv y).2

def eroF (R : List Row) (K : Nat) (w : Row) : List Run := rowW fI (rowMap (shrF K) R) w.y K
def eroR (R : List Row) (k : Int) : List Row := if reachB R k then mapR (eroF R k.toNat) R else []
def aroundC (R : List Row) (K : Nat) (c : Cell) : Prop := ∀ dx dy : Int, -K ≤ dx → dx ≤ K → -K ≤ dy → dy ≤ K → (⟨c.x + dx, c.y + dy⟩ : Cell) ∈ regCells R
theorem eroF_in {R : List Row} (hv : validR R = true) {K : Nat} (hK : K ≤ 64) (w : Row) (x : Int) : inR (eroF R K w) x = true ↔ aroundC R K ⟨x, w.y⟩ := by
  unfold eroF rowW
  rw [wj_I (eroM_ok hv hK)]
  constructor
  · intro h dx dy h1 h2 h3 h4
    have h5 := h (dy + K).toNat (by omega)
    rw [show w.y - (K : Int) + ((dy + K).toNat : Int) = w.y + dy by omega, eroM_get hv hK, shrK_all (rowOf_apart hv _).1] at h5
    exact (rowOf_in hv ⟨x + dx, w.y + dy⟩).2 (h5 dx h1 h2)
  · intro h i hi
    rw [eroM_get hv hK, shrK_all (rowOf_apart hv _).1]
    intro d h1 h2
    have h5 := h d (i - K) h1 h2 (by omega) (by omega)
    have h6 := (rowOf_in hv _).1 h5
    rw [show w.y - (K : Int) + (i : Int) = w.y + ((i : Int) - K) by omega]
    exact h6
theorem eroF_ok {R : List Row} (hv : validR R = true) {K : Nat} (hK : K ≤ 64) (w : Row) : OkL (eroF R K w) := wj_ok rfl (eroM_ok hv hK) _ _
theorem ero_facts {R : List Row} {k : Int} (h : reachB R k = true) : validR (eroR R k) = true ∧ ∀ c, c ∈ regCells (eroR R k) ↔ aroundC R k.toNat c := by
  have e : eroR R k = mapR (eroF R k.toNat) R := by unfold eroR; rw [if_pos h]
  simp only [reachB, Bool.and_eq_true, decide_eq_true_eq] at h
  obtain ⟨⟨k1, k2⟩, hv⟩ := h
  have hK : k.toNat ≤ 64 := by omega
  rw [e]
  refine ⟨mapR_valid hv fun w hw hne => fine_apart.2 ⟨hne, (eroF_ok hv hK w).1, apart_bounds (eroF_ok hv hK w).1 fun x hx => ?_⟩, fun c => ?_⟩
  · have := (eroF_in hv hK w x).1 hx 0 0 (by omega) (by omega) (by omega) (by omega)
    have := onG_bd (cells_on hv this)
    simp only at this; omega
  · rw [mapR_cells]
    constructor
    · rintro ⟨w, hw, hy, hr⟩
      have := (eroF_in hv hK w c.x).1 hr
      rw [← hy] at this; exact this
    · intro hc
      have h0 := hc 0 0 (by omega) (by omega) (by omega) (by omega)
      obtain ⟨w, hw, hy, _⟩ := mem_regCells.1 h0
      simp only [Int.add_zero] at hy
      refine ⟨w, hw, hy, (eroF_in hv hK w c.x).2 ?_⟩
      rw [← hy]; exact hc
theorem ero_valid (R : List Row) (k : Int) : validR (eroR R k) = true := by
  cases h : reachB R k with
  | true => exact (ero_facts h).1
  | false => unfold eroR; rw [h]; rfl

set_option maxHeartbeats 4000000 in
theorem erode_ok (R : List Row) (k : Int) (hR : bigR R) : PC Try.prog 100 [.agg (regRow R), .int .i64 k] (.p (.agg (regRow (eroR R k)))) := by
  have c0 := mvalid_big R k hR
  have hE : eroR R k = if reachB R k then mapR (eroF R k.toNat) R else [] := rfl
  cases hq : reachB R k with
  | false =>
    rw [hq] at c0 hE
    rw [hE]
    refine pc_of_awp cx (fn := Try.f100) (c := _) Try.func100 rfl rfl (Nat.le_of_ble_eq_true rfl) ?_
    rw [Try.ntmps100]; refine Nav.imp ?_
    refine awp_region cx [] fun K hK => ?_
    simp [push_cast]
    repeat (refine And.intro (by clear hK; intros; first | omega | (simp_all; done) | (simp_all <;> omega)) ?_)
    refine hK _ ?_; clear hK K; refine Nav.imp ?_
    refine awp_region cx [] fun K hK => ?_
    simp [push_cast]
    repeat (refine And.intro (by clear hK; intros; first | omega | (simp_all; done) | (simp_all <;> omega)) ?_)
    refine hK _ ?_; clear hK K; refine Nav.imp ?_
    refine awp_region cx [(2, .p (.bool false))] fun K hK => ?_
    simp [push_cast, c0]
    repeat (refine And.intro (by clear hK; intros; first | omega | (simp_all; done) | (simp_all <;> omega)) ?_)
    refine hK _ ?_; clear hK K; refine Nav.imp ?_
    refine awp_cond (b := true) (by simp [push_cast]) (fun hb => ?_) (fun hb => ?_) <;> (refine Nav.imp ?_)
    · refine awp_region cx [] fun K hK => ?_
      simp [push_cast]
      repeat (refine And.intro (by clear hK; intros; first | omega | (simp_all; done) | (simp_all <;> omega)) ?_)
      refine hK _ ?_; clear hK K; refine Nav.imp ?_
      simp [push_cast]
    · simp at hb
  | true =>
    rw [hq] at c0 hE
    rw [if_pos rfl] at hE
    simp only [reachB, Bool.and_eq_true, decide_eq_true_eq] at hq
    obtain ⟨⟨k1, k2⟩, hv⟩ := hq
    replace hR := small_valid hv
    have hl := hR.1
    obtain ⟨K, rfl⟩ : ∃ K : Nat, k = K := ⟨k.toNat, by omega⟩
    have hK : K ≤ 64 := by omega
    rw [Int.toNat_natCast] at hE
    rw [hE]
    clear hE
    have hFd : ∀ w : Row, eroF R K w = rowW fI (rowMap (shrF K) R) w.y K := fun w => rfl
    have hFok := fun w => eroF_ok hv hK w
    have hMok := eroM_ok hv hK
    have hMt := fun i w => @rowMap_take (shrF K) R i w
    have hM0 : rowMap (shrF K) (R.take 0) = [] := rfl
    have hMe : rowMap (shrF K) (R.take R.length) = rowMap (shrF K) R := by rw [List.take_length]
    have hFt := fun i w => @mapR_take (eroF R K) R i w
    have hFl := fun i => mapR_len (eroF R K) (R.take i)
    have hF0 : mapR (eroF R K) (R.take 0) = [] := rfl
    have hFe : mapR (eroF R K) (R.take R.length) = mapR (eroF R K) R := by rw [List.take_length]
    have hFr : ∀ w, mapRow (eroF R K) w = if eroF R K w = [] then [] else [⟨w.y, eroF R K w⟩] := fun w => rfl
    generalize eroF R K = F at *
    generalize hMM : rowMap (shrF K) R = MM at *
    refine pc_of_awp cx (fn := Try.f100) (c := _) Try.func100 rfl rfl (Nat.le_of_ble_eq_true rfl) ?_
    rw [Try.ntmps100]; refine Nav.imp ?_
    refine awp_region cx [] fun K hK => ?_
    simp [push_cast]
    repeat (refine And.intro (by clear hK; intros; first | omega | (simp_all; done) | (simp_all <;> omega)) ?_)
    refine hK _ ?_; clear hK K; refine Nav.imp ?_
    refine awp_region cx [] fun K hK => ?_
    simp [push_cast]
    repeat (refine And.intro (by clear hK; intros; first | omega | (simp_all; done) | (simp_all <;> omega)) ?_)
    refine hK _ ?_; clear hK K; refine Nav.imp ?_
    refine awp_region cx [(2, .p (.bool true))] fun K hK => ?_
    simp [push_cast, c0]
    repeat (refine And.intro (by clear hK; intros; first | omega | (simp_all; done) | (simp_all <;> omega)) ?_)
    refine hK _ ?_; clear hK K; refine Nav.imp ?_
    refine awp_cond (b := false) (by simp [push_cast]) (fun hb => ?_) (fun hb => ?_) <;> (refine Nav.imp ?_)
    · simp at hb
    · refine awp_region cx [] fun K hK => ?_
      simp [push_cast, mp_nil]
      repeat (refine And.intro (by clear hK; intros; first | omega | (simp_all; done) | (simp_all <;> omega)) ?_)
      refine hK _ ?_; clear hK K; refine Nav.imp ?_
      refine awp_region cx [] fun K hK => ?_
      simp [push_cast]
      repeat (refine And.intro (by clear hK; intros; first | omega | (simp_all; done) | (simp_all <;> omega)) ?_)
      refine hK _ ?_; clear hK K; refine Nav.imp ?_
      refine awp_loop (β := Nat × List (Int × List Run)) (fun b => ⟨63, [(1, .d (.int .i64 K)), (2, .ptr 0 0 0), (4, .ptr 1 0 0), (5, .ptr 2 0 0), (6, .ptr 4 0 0), (20, .d (encRows R)), (21, .d (.int .i64 R.length)), (22, .d (.int .i64 b.1))], [(0, some ⟨24, 1, [(regRow R).map .d]⟩), (1, some ⟨24, 1, [[.nl]]⟩), (2, some ⟨24, 1, [[.nl]]⟩), (3, some ⟨64, mapM, dr (mpRows b.2)⟩), (4, some ⟨78, 2, [[.hm 3, .d (.fn (.func 78) [])]]⟩)], 5⟩) (fun b => b.1 ≤ R.length ∧ b.2 = rowMap (shrF K) (R.take b.1)) (fun b => R.length - b.1) (0, []) ?_ ⟨Nat.zero_le _, hM0.symm⟩ ?_
      · refine weak_of [(0, some 0), (1, some 1), (2, some 2), (3, some 7), (4, some 9)] rfl (by simp [upT, up, upL, push_cast, mp_nil]) (by simp [upH, upR, upL, up, push_cast, mp_nil]) (by simp [namesOk, push_cast]) (by simp [olds])
      · rintro ⟨i, M⟩ ⟨hi, hM⟩
        simp only at hi hM
        refine Nav.imp ?_
        refine awp_region cx [] fun K hK => ?_
        simp [push_cast]
        repeat (refine And.intro (by clear hK; intros; first | omega | (simp_all; done) | (simp_all <;> omega)) ?_)
        refine hK _ ?_; clear hK K; refine Nav.imp ?_
        refine awp_cond (b := decide ((i : Int) < R.length)) (by simp [push_cast]) (fun hb => ?_) (fun hb => ?_) <;> (refine Nav.imp ?_)
        · have hlt : i < R.length := by simpa using hb
          obtain ⟨w, hw⟩ := getq hlt
          have e0 := wrap_i64 (n := (i : Int) + 1) (by omega) (by omega)
          have hwl := hR.2 w (List.mem_of_getElem? hw)
          have c1 := shrink_ok w.runs K hwl
          have hsf : shrB w.runs K = shrF K w.runs := rfl
          rw [hsf] at c1
          have hnx := hMt i w hw
          rw [← hM] at hnx
          clear hsf
          generalize shrF K w.runs = s at *
          have hput := putR_mp w.y s M
          refine awp_region cx [] fun K hK => ?_
          simp [push_cast, hw, Row.row]
          repeat (refine And.intro (by clear hK; intros; first | omega | (simp_all; done) | (simp_all <;> omega)) ?_)
          refine hK _ ?_; clear hK K; refine Nav.imp ?_
          refine awp_region_draw cx mixed [(7, .p (encRuns s))] fun K hK => ?_
          simp [push_cast, c1, hput, Row.row]
          repeat (refine And.intro (by clear hK; intros; first | omega | (simp_all; done) | (simp_all <;> omega)) ?_)
          refine hK _ _ (by kernel_rfl) ?_; clear hK K; refine Nav.imp ?_
          refine awp_region cx [] fun K hK => ?_
          simp [push_cast, e0]
          repeat (refine And.intro (by clear hK; intros; first | omega | (simp_all; done) | (simp_all <;> omega)) ?_)
          refine hK _ ?_; clear hK K; refine Nav.imp ?_
          refine ⟨(i + 1, putL M w.y s), ⟨hlt, hnx.symm⟩, by simp only; omega, ?_⟩
          refine weak_of [(0, some 0), (1, some 1), (2, some 2), (3, some 3), (4, some 4)] rfl (by simp [upT, up, upL, push_cast]) (by simp [upH, upR, upL, up, push_cast]) (by simp [namesOk, push_cast]) (by simp [olds])
        · have hge : i = R.length := by simp at hb; omega
          subst hge
          rw [hMe] at hM
          subst hM
          refine awp_freeze 3 (mpRows M) rfl (by simp [push_cast]) fun K hK => ?_
          simp [push_cast, St.fz, fzT, fzH, fzO, fz, fzL, fzR, fzR_dr, fzR_app, fzR_set, fzL_map]
          refine hK _ ?_; clear hK K; refine Nav.imp ?_
          refine awp_region cx [] fun K hK => ?_
          simp [push_cast]
          repeat (refine And.intro (by clear hK; intros; first | omega | (simp_all; done) | (simp_all <;> omega)) ?_)
          refine hK _ ?_; clear hK K; refine Nav.imp ?_
          refine awp_loop (β := Nat × List Row) (fun s => ⟨63, [(1, .d (.int .i64 K)), (4, .ptr 1 0 0), (5, .ptr 2 0 0), (6, .ptr 4 0 0), (36, .d (encRows R)), (37, .d (.int .i64 R.length)), (38, .d (.int .i64 s.1))], [(1, some ⟨24, 1, [[.nl]]⟩), (2, some ⟨24, 1, [[.hs 3 0 s.2.length]]⟩), (3, some ⟨60, 2, dr (s.2.map Row.row)⟩), (4, some ⟨78, 2, [[.d (.mp (mpRows M)), .d (.fn (.func 78) [])]]⟩)], 5⟩) (fun s => s.1 ≤ R.length ∧ s.2 = mapR F (R.take s.1)) (fun s => R.length - s.1) (0, []) ?_ ⟨Nat.zero_le _, hF0.symm⟩ ?_
          · refine weak_of [(1, some 1), (2, some 2), (3, none), (4, some 4)] rfl (by simp [upT, up, upL, push_cast]) (by simp [upH, upR, upL, up, push_cast]) (by simp [namesOk, push_cast]) (by simp [olds])
          · rintro ⟨i, Z⟩ ⟨hi, hZ⟩
            simp only at hi hZ
            refine Nav.imp ?_
            refine awp_region cx [] fun K hK => ?_
            simp [push_cast]
            repeat (refine And.intro (by clear hK; intros; first | omega | (simp_all; done) | (simp_all <;> omega)) ?_)
            refine hK _ ?_; clear hK K; refine Nav.imp ?_
            refine awp_cond (b := decide ((i : Int) < R.length)) (by simp [push_cast]) (fun hb => ?_) (fun hb => ?_) <;> (refine Nav.imp ?_)
            · have hlt : i < R.length := by simpa using hb
              obtain ⟨w, hw⟩ := getq hlt
              have hwm := List.mem_of_getElem? hw
              have e0 := wrap_i64 (n := (i : Int) + 1) (by omega) (by omega)
              have hwb := (validR_at hv hw).1
              have c2 := wrow_ok fI rfl 78 (fun a b h1 h2 h3 h4 => intersect_ok a b h1 h2 h3 h4) M hMok w.y K (by omega) hK
              rw [← hFd w] at c2
              have hul := (hFok w).len
              have hnx := hFt i w hw
              rw [hFr, ← hZ] at hnx
              have hZl : Z.length ≤ 1000000 := by have := hFl i; rw [← hZ] at this; simp at this; omega
              have hZ32 : (Z.length + 1) * 32 ≤ 140737488355328 := by omega
              have hu16 : (0 + (F w).length) * 16 ≤ 140737488355328 := by omega
              generalize F w = u at *
              refine awp_region cx [] fun K hK => ?_
              simp [push_cast, hw, Row.row]
              repeat (refine And.intro (by clear hK; intros; first | omega | (simp_all; done) | (simp_all <;> omega)) ?_)
              refine hK _ ?_; clear hK K; refine Nav.imp ?_
              refine awp_region cx [(4, .p (encRuns u))] fun K hK => ?_
              simp [push_cast, c2, Row.row]
              repeat (refine And.intro (by clear hK; intros; first | omega | (simp_all; done) | (simp_all <;> omega)) ?_)
              refine hK _ ?_; clear hK K; refine Nav.imp ?_
              refine awp_region cx [] fun K hK => ?_
              simp [push_cast]
              repeat (refine And.intro (by clear hK; intros; first | omega | (simp_all; done) | (simp_all <;> omega)) ?_)
              refine hK _ ?_; clear hK K; refine Nav.imp ?_
              cases hu : u with
              | nil =>
                rw [hu] at hnx
                simp only [if_true, List.append_nil] at hnx
                refine awp_cond (b := false) (by simp [push_cast, hu]) (fun hb => ?_) (fun hb => ?_) <;> (refine Nav.imp ?_)
                · simp at hb
                · refine awp_region cx [] fun K hK => ?_
                  simp [push_cast, e0]
                  repeat (refine And.intro (by clear hK; intros; first | omega | (simp_all; done) | (simp_all <;> omega)) ?_)
                  refine hK _ ?_; clear hK K; refine Nav.imp ?_
                  refine ⟨(i + 1, Z), ⟨hlt, hnx.symm⟩, by simp only; omega, ?_⟩
                  refine weak_of [(1, some 1), (2, some 2), (3, some 3), (4, some 4)] rfl (by simp [upT, up, upL, push_cast]) (by simp [upH, upR, upL, up, push_cast]) (by simp [namesOk, push_cast]) (by simp [olds])
              | cons q u' =>
                have hne : ¬ u = [] := by rw [hu]; simp
                have hpos : 0 < u.length := by rw [hu]; simp
                rw [if_neg hne] at hnx
                rw [← hu]
                clear hu
                refine awp_cond (b := true) (by simp [push_cast, hpos]) (fun hb => ?_) (fun hb => ?_) <;> (refine Nav.imp ?_)
                · refine awp_region_draw cx mixed [] fun K hK => ?_
                  simp [push_cast, hZ32, hu16, Row.row]
                  repeat (refine And.intro (by clear hK; intros; first | omega | (simp_all; done) | (simp_all <;> omega)) ?_)
                  refine hK _ _ (by kernel_rfl) ?_; clear hK K; refine Nav.imp ?_
                  refine awp_freeze 25 (u.map Run.row) rfl (by simp [push_cast]) fun K hK => ?_
                  simp [push_cast, St.fz, fzT, fzH, fzO, fz, fzL, fzR, fzR_dr, fzR_app, fzR_set, fzL_map]
                  refine hK _ ?_; clear hK K; refine Nav.imp ?_
                  refine awp_region cx [] fun K hK => ?_
                  simp [push_cast, e0]
                  repeat (refine And.intro (by clear hK; intros; first | omega | (simp_all; done) | (simp_all <;> omega)) ?_)
                  refine hK _ ?_; clear hK K; refine Nav.imp ?_
                  refine ⟨(i + 1, Z ++ [⟨w.y, u⟩]), ⟨hlt, hnx.symm⟩, by simp only; omega, ?_⟩
                  refine weak_of [(1, some 1), (2, some 2), (3, some 28), (4, some 4)] rfl (by simp [upT, up, upL, push_cast, Row.row]) (by simp [upH, upR, upL, up, push_cast, Row.row]) (by simp [namesOk, push_cast]) (by simp [olds])
                · simp at hb
            · have hge : i = R.length := by simp at hb; omega
              subst hge
              rw [hFe] at hZ
              rw [← hZ]
              have ht2 : List.take Z.length (Z.map Row.row) = Z.map Row.row := List.take_of_length_le (by simp)
              refine awp_freeze 3 (Z.map Row.row) rfl (by simp [push_cast, Row.row, ht2]) fun K hK => ?_
              simp [push_cast, St.fz, fzT, fzH, fzO, fz, fzL, fzR, fzR_dr, fzR_app, fzR_set, fzL_map, Row.row, ht2]
              refine hK _ ?_; clear hK K; refine Nav.imp ?_
              refine awp_region cx [] fun K hK => ?_
              simp [push_cast]
              repeat (refine And.intro (by clear hK; intros; first | omega | (simp_all; done) | (simp_all <;> omega)) ?_)
              refine hK _ ?_; clear hK K; refine Nav.imp ?_
              simp [push_cast]
end Go.Proofs.Ytlfalheciadklaa

set_option linter.unusedVariables false
set_option linter.unusedSimpArgs false
namespace Go.Proofs.Ytlfalheciadklaa
open Go.Abs

/-! The box of a region. -/
def fstA (w : Row) : Int := match w.runs[0]? with | some r => r.a | none => 0
def lstB (w : Row) : Int := match w.runs[w.runs.length - 1]? with | some r => r.b | none => 0
def lowX (R : List Row) : Int := R.foldl (fun m w => min m (fstA w)) 4096
def highX (R : List Row) : Int := R.foldl (fun m w => max m (lstB w - 1)) (-4096)
def fstY (R : List Row) : Int := match R[0]? with | some w => w.y | none => 0
def lstY (R : List Row) : Int := match R[R.length - 1]? with | some w => w.y | none => 0
def some? (R : List Row) : Bool := validR R && decide (0 < R.length)
def boxLo (R : List Row) : Cell := if some? R then ⟨lowX R, fstY R⟩ else ⟨0, 0⟩
def boxHi (R : List Row) : Cell := if some? R then ⟨highX R, lstY R⟩ else ⟨0, 0⟩
abbrev boxD (R : List Row) : D := .tup [.agg (boxLo R).row, .agg (boxHi R).row, .bool (some? R)]

theorem lowX_take {R : List Row} {k : Nat} {w : Row} (h : R[k]? = some w) : lowX (R.take (k + 1)) = min (lowX (R.take k)) (fstA w) := by simp [lowX, take_get h]
theorem highX_take {R : List Row} {k : Nat} {w : Row} (h : R[k]? = some w) : highX (R.take (k + 1)) = max (highX (R.take k)) (lstB w - 1) := by simp [highX, take_get h]
theorem foldMin {α : Type} (f : α → Int) : ∀ (l : List α) (m : Int), l.foldl (fun m w => min m (f w)) m ≤ m ∧ (∀ w ∈ l, l.foldl (fun m w => min m (f w)) m ≤ f w) ∧ ∀ b, b ≤ m → (∀ w ∈ l, b ≤ f w) → b ≤ l.foldl (fun m w => min m (f w)) m
  | [], m => by simp
  | x :: l, m => by
    obtain ⟨h1, h2, h3⟩ := foldMin f l (min m (f x))
    simp only [List.foldl_cons]
    refine ⟨by omega, fun w hw => ?_, fun b hb hl => ?_⟩
    · rcases List.mem_cons.1 hw with rfl | hw
      · omega
      · exact h2 w hw
    · have := hl x (by simp)
      exact h3 b (by omega) fun w hw => hl w (by simp [hw])
theorem foldMax {α : Type} (f : α → Int) : ∀ (l : List α) (m : Int), m ≤ l.foldl (fun m w => max m (f w)) m ∧ (∀ w ∈ l, f w ≤ l.foldl (fun m w => max m (f w)) m) ∧ ∀ b, m ≤ b → (∀ w ∈ l, f w ≤ b) → l.foldl (fun m w => max m (f w)) m ≤ b
  | [], m => by simp
  | x :: l, m => by
    obtain ⟨h1, h2, h3⟩ := foldMax f l (max m (f x))
    simp only [List.foldl_cons]
    refine ⟨by omega, fun w hw => ?_, fun b hb hl => ?_⟩
    · rcases List.mem_cons.1 hw with rfl | hw
      · omega
      · exact h2 w hw
    · have := hl x (by simp)
      exact h3 b (by omega) fun w hw => hl w (by simp [hw])
theorem row_ends0 {w : Row} (h : fine w.runs = true) : (∀ r ∈ w.runs, fstA w ≤ r.a ∧ r.b ≤ lstB w) ∧ -4096 ≤ fstA w ∧ fstA w < lstB w ∧ lstB w ≤ 4096 := by
  obtain ⟨f, z, hf, hz, hf1, hz1, hl⟩ := fine_ends h
  have e1 : fstA w = f.a := by simp [fstA, hf]
  have e2 : lstB w = z.b := by simp [lstB, hz]
  rw [e1, e2]
  have key : ∀ r ∈ w.runs, f.a ≤ r.a ∧ r.b ≤ z.b := fun r hr => by
    obtain ⟨k, hk, rfl⟩ := List.mem_iff_getElem.1 hr
    have hk' := List.getElem?_eq_getElem hk
    exact ⟨(rvalid_asc (fine_rv h) k 0 _ f (Nat.zero_le _) hf hk').1, (rvalid_asc (fine_rv h) (w.runs.length - 1) k z _ (by omega) hk' hz).2⟩
  have := key f (List.mem_of_getElem? hf)
  exact ⟨key, by omega, by omega, by omega⟩
theorem rows_ends {R : List Row} (hv : validR R = true) {w : Row} (hw : w ∈ R) : fstY R ≤ w.y ∧ w.y ≤ lstY R := by
  obtain ⟨k, hk, rfl⟩ := List.mem_iff_getElem.1 hw
  have hp := List.pairwise_iff_getElem.1 (rows_pw hv)
  have e1 : fstY R = R[0].y := by simp [fstY, List.getElem?_eq_getElem (show 0 < R.length by omega)]
  have e2 : lstY R = R[R.length - 1].y := by simp [lstY, List.getElem?_eq_getElem (show R.length - 1 < R.length by omega)]
  rw [e1, e2]
  constructor
  · rcases Nat.eq_zero_or_pos k with h | h
    · subst h; exact Int.le_refl _
    · exact Int.le_of_lt (hp 0 k (by omega) hk h)
  · rcases Nat.lt_or_eq_of_le (show k ≤ R.length - 1 by omega) with h | h
    · exact Int.le_of_lt (hp k (R.length - 1) hk (by omega) h)
    · subst h; exact Int.le_refl _


set_option maxHeartbeats 1000000 in
theorem box_ok (R : List Row) (hR : smallR R) : PC Try.prog 65 [.agg (regRow R)] (.p (boxD R)) := by
  have c1 := valid_ok R hR
  have hl := hR.1
  have hB : boxD R = .tup [.agg (boxLo R).row, .agg (boxHi R).row, .bool (some? R)] := rfl
  rw [hB]
  by_cases hsm : some? R = true
  · have hlo : boxLo R = ⟨lowX R, fstY R⟩ := by simp [boxLo, hsm]
    have hhi : boxHi R = ⟨highX R, lstY R⟩ := by simp [boxHi, hsm]
    rw [hlo, hhi, hsm]
    clear hlo hhi hB
    simp only [some?, Bool.and_eq_true, decide_eq_true_eq] at hsm
    obtain ⟨hv, hpos⟩ := hsm
    rw [hv] at c1
    obtain ⟨w0, hw0⟩ : ∃ w, R[0]? = some w := getq hpos
    obtain ⟨w1, hw1⟩ : ∃ w, R[R.length - 1]? = some w := getq (by omega)
    have hy0 : fstY R = w0.y := by simp [fstY, hw0]
    have hy1 : lstY R = w1.y := by simp [lstY, hw1]
    rw [hy0, hy1]
    clear hy0 hy1
    have e1 := wrap_i64 (n := (R.length : Int) - 1) (by omega) (by omega)
    have e2 : ((R.length : Int) - 1).toNat = R.length - 1 := by omega
    have e3 : (0 : Int) ≤ (R.length : Int) - 1 := by omega
    have e4 : ((R.length : Int) == 0) = false := by simp; rintro rfl; simp at hpos
    obtain ⟨y0, r0⟩ := w0
    obtain ⟨y1, r1⟩ := w1
    refine pc_of_awp cx (fn := Try.f65) (c := _) Try.func65 rfl rfl (Nat.le_of_ble_eq_true rfl) ?_
    rw [Try.ntmps65]; refine Nav.imp ?_
    refine awp_region cx [] fun K hK => ?_
    simp [push_cast]
    repeat (refine And.intro (by clear hK; intros; first | omega | (simp_all; done) | (simp_all <;> omega)) ?_)
    refine hK _ ?_; clear hK K; refine Nav.imp ?_
    refine awp_region cx [(1, .p (.bool true))] fun K hK => ?_
    simp [push_cast, c1]
    repeat (refine And.intro (by clear hK; intros; first | omega | (simp_all; done) | (simp_all <;> omega)) ?_)
    refine hK _ ?_; clear hK K; refine Nav.imp ?_
    refine awp_cond (b := false) (by simp [push_cast, e4]) (fun hb => ?_) (fun hb => ?_) <;> (refine Nav.imp ?_)
    · simp at hb
    · refine awp_region cx [] fun K hK => ?_
      simp [push_cast, hw0, Row.row]
      repeat (refine And.intro (by clear hK; intros; first | omega | (simp_all; done) | (simp_all <;> omega)) ?_)
      refine hK _ ?_; clear hK K; refine Nav.imp ?_
      refine awp_region cx [] fun K hK => ?_
      simp [push_cast, hw1, e1, e2, e3, Row.row]
      repeat (refine And.intro (by clear hK; intros; first | omega | (simp_all; done) | (simp_all <;> omega)) ?_)
      refine hK _ ?_; clear hK K; refine Nav.imp ?_
      refine awp_region cx [] fun K hK => ?_
      simp [push_cast]
      repeat (refine And.intro (by clear hK; intros; first | omega | (simp_all; done) | (simp_all <;> omega)) ?_)
      refine hK _ ?_; clear hK K; refine Nav.imp ?_
      refine awp_loop (β := Nat × Int × Int) (fun b => ⟨69, [(2, .ptr 0 0 0), (3, .ptr 1 0 0), (4, .d (.bool false)), (5, .ptr 2 0 0), (6, .ptr 3 0 0), (37, .d (encRows R)), (38, .d (.int .i64 R.length)), (39, .d (.int .i64 b.1))], [(0, some ⟨44, 2, [[.d (.int .i64 0), .d (.int .i64 0)]]⟩), (1, some ⟨44, 2, [[.d (.int .i64 0), .d (.int .i64 0)]]⟩), (2, some ⟨44, 2, [[.d (.int .i64 b.2.1), .d (.int .i64 y0)]]⟩), (3, some ⟨44, 2, [[.d (.int .i64 b.2.2), .d (.int .i64 y1)]]⟩)], 4⟩) (fun b => b.1 ≤ R.length ∧ b.2.1 = lowX (R.take b.1) ∧ b.2.2 = highX (R.take b.1)) (fun b => R.length - b.1) (0, 4096, -4096) ?_ ⟨Nat.zero_le _, by simp [lowX], by simp [highX]⟩ ?_
      · refine weak_of [(0, some 1), (1, some 2), (2, some 19), (3, some 31)] rfl (by simp [upT, up, upL, push_cast]) (by simp [upH, upR, upL, up, push_cast]) (by simp [namesOk, push_cast]) (by simp [olds])
      · rintro ⟨k, a, b⟩ ⟨hk, ha, hb'⟩
        simp only at hk ha hb'
        refine Nav.imp ?_
        refine awp_region cx [] fun K hK => ?_
        simp [push_cast]
        repeat (refine And.intro (by clear hK; intros; first | omega | (simp_all; done) | (simp_all <;> omega)) ?_)
        refine hK _ ?_; clear hK K; refine Nav.imp ?_
        refine awp_cond (b := decide ((k : Int) < R.length)) (by simp [push_cast]) (fun hb => ?_) (fun hb => ?_) <;> (refine Nav.imp ?_)
        · have hlt : k < R.length := by simpa using hb
          obtain ⟨w, hw⟩ := getq hlt
          have f1 := lowX_take hw
          have f2 := highX_take hw
          rw [← ha] at f1
          rw [← hb'] at f2
          have e0 := wrap_i64 (n := (k : Int) + 1) (by omega) (by omega)
          obtain ⟨f, z, hf, hz, q1, q2, q3⟩ := fine_ends (validR_at hv hw).2
          have g1 : fstA w = f.a := by simp [fstA, hf]
          have g2 : lstB w = z.b := by simp [lstB, hz]
          have hwl := hR.2 w (List.mem_of_getElem? hw)
          rw [g1] at f1
          rw [g2] at f2
          obtain ⟨wy, wr⟩ := w
          obtain ⟨fa, fb⟩ := f
          obtain ⟨za, zb⟩ := z
          simp only at hf hz q1 q2 q3 f1 f2 hwl
          have d1 := wrap_i64 (n := (wr.length : Int) - 1) (by omega) (by omega)
          have d2 : ((wr.length : Int) - 1).toNat = wr.length - 1 := by omega
          have d3 : (0 : Int) ≤ (wr.length : Int) - 1 := by omega
          have d4 := wrap_i64 (n := zb - 1) (by omega) (by omega)
          refine awp_region cx [] fun K hK => ?_
          simp [push_cast, hw, Row.row]
          repeat (refine And.intro (by clear hK; intros; first | omega | (simp_all; done) | (simp_all <;> omega)) ?_)
          refine hK _ ?_; clear hK K; refine Nav.imp ?_
          refine awp_region_draw cx mixed [] fun K hK => ?_
          simp [push_cast, hf, Row.row, Run.row]
          repeat (refine And.intro (by clear hK; intros; first | omega | (simp_all; done) | (simp_all <;> omega)) ?_)
          refine hK _ _ (by kernel_rfl) ?_; clear hK K; refine Nav.imp ?_
          refine awp_region_draw cx mixed [] fun K hK => ?_
          simp [push_cast, hz, d1, d2, d3, d4, Row.row, Run.row]
          repeat (refine And.intro (by clear hK; intros; first | omega | (simp_all; done) | (simp_all <;> omega)) ?_)
          refine hK _ _ (by kernel_rfl) ?_; clear hK K; refine Nav.imp ?_
          refine awp_region cx [] fun K hK => ?_
          simp [push_cast, e0]
          repeat (refine And.intro (by clear hK; intros; first | omega | (simp_all; done) | (simp_all <;> omega)) ?_)
          refine hK _ ?_; clear hK K; refine Nav.imp ?_
          refine ⟨(k + 1, min a fa, max b (zb - 1)), ⟨hlt, f1.symm, f2.symm⟩, by simp only; omega, ?_⟩
          refine weak_of [(0, some 0), (1, some 1), (2, some 2), (3, some 3)] rfl (by simp [upT, up, upL, push_cast]) (by simp [upH, upR, upL, up, push_cast]) (by simp [namesOk, push_cast]) (by simp [olds])
        · have hge : k = R.length := by simp at hb; omega
          subst hge
          rw [List.take_length] at ha hb'
          subst ha hb'
          refine awp_region_draw cx mixed [] fun K hK => ?_
          simp [push_cast]
          repeat (refine And.intro (by clear hK; intros; first | omega | (simp_all; done) | (simp_all <;> omega)) ?_)
          refine hK _ _ (by kernel_rfl) ?_; clear hK K; refine Nav.imp ?_
          simp [push_cast]
  · have hlo : boxLo R = ⟨0, 0⟩ := by simp [boxLo, hsm]
    have hhi : boxHi R = ⟨0, 0⟩ := by simp [boxHi, hsm]
    rw [hlo, hhi, Bool.eq_false_iff.2 hsm]
    generalize hv : validR R = v at *
    have hnil : v = true → R = [] := fun h => by
      rw [h] at hv
      cases R with
      | nil => rfl
      | cons a l => exact absurd (by simp [some?, hv]) hsm
    refine pc_of_awp cx (fn := Try.f65) (c := _) Try.func65 rfl rfl (Nat.le_of_ble_eq_true rfl) ?_
    rw [Try.ntmps65]; refine Nav.imp ?_
    refine awp_region cx [] fun K hK => ?_
    simp [push_cast]
    repeat (refine And.intro (by clear hK; intros; first | omega | (simp_all; done) | (simp_all <;> omega)) ?_)
    refine hK _ ?_; clear hK K; refine Nav.imp ?_
    cases v with
    | false =>
      refine awp_region cx [(1, .p (.bool false))] fun K hK => ?_
      simp [push_cast, c1]
      repeat (refine And.intro (by clear hK; intros; first | omega | (simp_all; done) | (simp_all <;> omega)) ?_)
      refine hK _ ?_; clear hK K; refine Nav.imp ?_
      refine awp_cond (b := true) (by simp [push_cast]) (fun hb => ?_) (fun hb => ?_) <;> (refine Nav.imp ?_)
      · refine awp_region cx [] fun K hK => ?_
        simp [push_cast]
        repeat (refine And.intro (by clear hK; intros; first | omega | (simp_all; done) | (simp_all <;> omega)) ?_)
        refine hK _ ?_; clear hK K; refine Nav.imp ?_
        simp [push_cast]
      · simp at hb
    | true =>
      have := hnil rfl
      subst this
      refine awp_region cx [(1, .p (.bool true))] fun K hK => ?_
      simp [push_cast, c1]
      repeat (refine And.intro (by clear hK; intros; first | omega | (simp_all; done) | (simp_all <;> omega)) ?_)
      refine hK _ ?_; clear hK K; refine Nav.imp ?_
      refine awp_cond (b := true) (by simp [push_cast]) (fun hb => ?_) (fun hb => ?_) <;> (refine Nav.imp ?_)
      · refine awp_region cx [] fun K hK => ?_
        simp [push_cast]
        repeat (refine And.intro (by clear hK; intros; first | omega | (simp_all; done) | (simp_all <;> omega)) ?_)
        refine hK _ ?_; clear hK K; refine Nav.imp ?_
        simp [push_cast]
      · simp at hb

end Go.Proofs.Ytlfalheciadklaa

set_option linter.unusedVariables false
set_option linter.unusedSimpArgs false
set_option maxRecDepth 100000
namespace Go.Proofs.Ytlfalheciadklaa
open Go.Abs

/-! Dilation. -/
def groF (K : Nat) (l : List Run) : List Run := groL l K
theorem groF_nil (K : Nat) : groF K [] = [] := rfl
theorem dilM_get {R : List Row} (hv : validR R = true) {K : Nat} (y : Int) : mget (rowMap (groF K) R) y = groL (rowOf R y) K := rowMap_get (groF_nil K) (validR_pw.1 hv).2 y
theorem dilM_ok {R : List Row} (hv : validR R = true) {K : Nat} (hK : K ≤ 64) : OkM (rowMap (groF K) R) := fun y => by
  rw [dilM_get hv]
  rcases rowOf_cases hv y with ⟨w, hw, _, e⟩ | ⟨_, e⟩
  · rw [e]
    obtain ⟨g1, g2, _⟩ := groL_facts (row_fine hv hw).2 (k := K) (by omega)
    exact ⟨g1, g2⟩
  · rw [e]; exact OkL.nil
theorem dilM_in {R : List Row} (hv : validR R = true) {K : Nat} (hK : K ≤ 64) (y x : Int) : inR (mget (rowMap (groF K) R) y) x = true ↔ ∃ w ∈ R, w.y = y ∧ ∃ r ∈ w.runs, r.a - K ≤ x ∧ x < r.b + K := by
  rw [dilM_get hv]
  rcases rowOf_cases hv y with ⟨w, hw, hy, e⟩ | ⟨hn, e⟩
  · rw [e]
    obtain ⟨_, _, g3⟩ := groL_facts (row_fine hv hw).2 (k := K) (by omega)
    rw [g3]
    constructor
    · intro h; exact ⟨w, hw, hy, h⟩
    · rintro ⟨v, hv', hy', h⟩
      have : v = w := rows_eq hv hv' hw (by omega)
      rw [← this]; exact h
  · rw [e]
    constructor
    · intro h; simp [groL, joinL, inR] at h
    · rintro ⟨v, hv', hy', _⟩; exact absurd hy' (hn v hv')
def dilRun (R : List Row) (K : Nat) (y : Int) : List Run := rowW fU (rowMap (groF K) R) y K
theorem dilRun_ok {R : List Row} (hv : validR R = true) {K : Nat} (hK : K ≤ 64) (y : Int) : OkL (dilRun R K y) := wj_ok rfl (dilM_ok hv hK) _ _
theorem dilRun_in {R : List Row} (hv : validR R = true) {K : Nat} (hK : K ≤ 64) (y x : Int) : inR (dilRun R K y) x = true ↔ nearP R K y x := by
  unfold dilRun rowW nearP
  rw [wj_U (dilM_ok hv hK)]
  constructor
  · rintro ⟨i, hi, h⟩
    obtain ⟨w, hw, hy, hr⟩ := (dilM_in hv hK _ _).1 h
    exact ⟨w, hw, by omega, by omega, hr⟩
  · rintro ⟨w, hw, h1, h2, hr⟩
    exact ⟨(w.y - (y - K)).toNat, by omega, (dilM_in hv hK _ _).2 ⟨w, hw, by omega, hr⟩⟩
def ysD (lo : Int) (n : Nat) : List Int := (List.range n).map fun i : Nat => lo + i
theorem ysD_mem {lo : Int} {n : Nat} {y : Int} : y ∈ ysD lo n ↔ lo ≤ y ∧ y < lo + n := by
  simp only [ysD, List.mem_map, List.mem_range]
  constructor
  · rintro ⟨i, hi, rfl⟩; omega
  · intro h; exact ⟨(y - lo).toNat, by omega, by omega⟩
theorem ysD_pw (lo : Int) (n : Nat) : (ysD lo n).Pairwise (· < ·) := by
  simp only [ysD, List.pairwise_map]
  exact List.pairwise_lt_range.imp (fun {a b} h => by omega)
def dilRow (F : Int → List Run) (y : Int) : List Row := if F y = [] then [] else [⟨y, F y⟩]
def rowsF (F : Int → List Run) (ys : List Int) : List Row := ys.flatMap (dilRow F)
theorem dilRow_len (F : Int → List Run) (y : Int) : (dilRow F y).length ≤ 1 := by unfold dilRow; split <;> simp
theorem dilRow_mem {F : Int → List Run} {y : Int} {w : Row} (h : w ∈ dilRow F y) : w = ⟨y, F y⟩ ∧ F y ≠ [] := by
  unfold dilRow at h
  split at h
  · simp at h
  · rename_i e; simp at h; exact ⟨h, e⟩
theorem rowsF_facts {F : Int → List Run} {ys : List Int} (hp : ys.Pairwise (· < ·)) (hF : ∀ y ∈ ys, F y ≠ [] → (-4096 ≤ y ∧ y < 4096) ∧ fine (F y) = true) : validR (rowsF F ys) = true ∧ ∀ c, c ∈ regCells (rowsF F ys) ↔ c.y ∈ ys ∧ inR (F c.y) c.x = true := by
  refine ⟨validR_pw.2 ⟨fun w hw => ?_, flat_pw (dilRow_len F) (fun a b x y hab hx hy => ?_) hp⟩, fun c => ?_⟩
  · obtain ⟨y, hy, hw⟩ := List.mem_flatMap.1 hw
    obtain ⟨rfl, hne⟩ := dilRow_mem hw
    exact hF y hy hne
  · rw [(dilRow_mem hx).1, (dilRow_mem hy).1]; exact hab
  · rw [mem_regCells]
    constructor
    · rintro ⟨w, hw, hy, hr⟩
      obtain ⟨y, hy', hw⟩ := List.mem_flatMap.1 hw
      obtain ⟨rfl, _⟩ := dilRow_mem hw
      simp only at hy hr
      rw [hy]
      exact ⟨hy', inR_iff.2 hr⟩
    · rintro ⟨hy, hr⟩
      refine ⟨⟨c.y, F c.y⟩, List.mem_flatMap.2 ⟨c.y, hy, ?_⟩, rfl, inR_iff.1 hr⟩
      unfold dilRow
      rw [if_neg (by intro e; rw [e] at hr; simp [inR] at hr)]
      simp
def dilN (R : List Row) (K : Nat) : Nat := (lstY R + K - (fstY R - K) + 1).toNat
def dilL (R : List Row) (K : Nat) : List Row := rowsF (dilRun R K) (ysD (fstY R - K) (dilN R K))
def rngB (R : List Row) (k : Int) : Bool := !decide (min (lowX R) (fstY R) - k < -4096) && !decide (4096 ≤ max (highX R) (lstY R) + k)
def dilR (R : List Row) (k : Int) : List Row := if reachB R k && decide (0 < R.length) && rngB R k then dilL R k.toNat else []
def dilE (R : List Row) (k : Int) : Int := if reachB R k then (if 0 < R.length then (if rngB R k then 0 else 8) else 0) else 1
theorem dilL_facts {R : List Row} (hv : validR R = true) (h0 : 0 < R.length) {K : Nat} (hK : K ≤ 64) (hr : rngB R K = true) : validR (dilL R K) = true ∧ ∀ c, c ∈ regCells (dilL R K) ↔ nearP R K c.y c.x := by
  simp only [rngB, Bool.and_eq_true, Bool.not_eq_true', decide_eq_false_iff_not] at hr
  have hlow := fun w hw => (foldMin fstA R 4096).2.1 w hw
  have hhigh := fun w hw => (foldMax (fun w => lstB w - 1) R (-4096)).2.1 w hw
  have hfit : ∀ y x, nearP R K y x → (-4096 ≤ y ∧ y < 4096) ∧ (-4096 ≤ x ∧ x < 4096) ∧ fstY R - K ≤ y ∧ y ≤ lstY R + K := by
    rintro y x ⟨w, hw, h1, h2, r, hr', h3, h4⟩
    have e1 := rows_ends hv hw
    have e2 := (row_ends0 (row_fine hv hw).2).1 r hr'
    have e3 := hlow w hw
    have e4 := hhigh w hw
    simp only [lowX, highX] at hr
    omega
  obtain ⟨q1, q2⟩ := rowsF_facts (F := dilRun R K) (ysD_pw (fstY R - K) (dilN R K)) fun y hy hne => by
    have hok := dilRun_ok hv hK y
    have hm : ∀ x, inR (dilRun R K y) x = true → -4096 ≤ x ∧ x < 4096 := fun x hx => (hfit y x ((dilRun_in hv hK y x).1 hx)).2.1
    obtain ⟨r, hr'⟩ := List.exists_mem_of_ne_nil _ hne
    have hin := (dilRun_in hv hK y r.a).1 (inR_iff.2 ⟨r, hr', Int.le_refl _, hok.1.1 r hr'⟩)
    exact ⟨(hfit y _ hin).1, fine_apart.2 ⟨hne, hok.1, apart_bounds hok.1 hm⟩⟩
  refine ⟨q1, fun c => ?_⟩
  unfold dilL
  rw [q2, dilRun_in hv hK, ysD_mem]
  constructor
  · exact fun h => h.2
  · intro h
    have := hfit _ _ h
    refine ⟨⟨this.2.2.1, ?_⟩, h⟩
    unfold dilN
    have h5 := this.2.2
    omega
theorem dil_facts {R : List Row} {k : Int} (h : dilE R k = 0) : reachB R k = true ∧ validR (dilR R k) = true ∧ ∀ c, c ∈ regCells (dilR R k) ↔ nearP R k.toNat c.y c.x := by
  unfold dilE at h
  split at h
  · rename_i hq
    have hq' := hq
    simp only [reachB, Bool.and_eq_true, decide_eq_true_eq] at hq'
    obtain ⟨⟨k1, k2⟩, hv⟩ := hq'
    refine ⟨hq, ?_⟩
    split at h
    · rename_i h0
      split at h
      · rename_i hr
        have e : dilR R k = dilL R k.toNat := by unfold dilR; rw [if_pos (by rw [hq, hr]; simp [h0])]
        rw [e]
        exact dilL_facts hv h0 (by omega) (by rw [show ((k.toNat : Nat) : Int) = k by omega]; exact hr)
      · omega
    · rename_i h0
      have e : dilR R k = [] := by unfold dilR; rw [if_neg (by simp [h0])]
      have eR : R = [] := List.eq_nil_of_length_eq_zero (by omega)
      rw [e, eR]
      exact ⟨rfl, fun c => by simp [regCells, nearP]⟩
  · omega
theorem dil_valid (R : List Row) (k : Int) : validR (dilR R k) = true := by
  unfold dilR
  split
  · rename_i h
    simp only [Bool.and_eq_true, decide_eq_true_eq] at h
    obtain ⟨⟨hq, h0⟩, hr⟩ := h
    simp only [reachB, Bool.and_eq_true, decide_eq_true_eq] at hq
    obtain ⟨⟨k1, k2⟩, hv⟩ := hq
    exact (dilL_facts hv h0 (K := k.toNat) (by omega) (by rw [show ((k.toNat : Nat) : Int) = k by omega]; exact hr)).1
  · rfl

set_option maxHeartbeats 4000000 in
theorem dilate_ok (R : List Row) (k : Int) (hR : bigR R) : PC Try.prog 30 [.agg (regRow R), .int .i64 k] (.p (.tup [.agg (regRow (dilR R k)), .int .i64 (dilE R k)])) := by
  have c0 := mvalid_big R k hR
  cases hq : reachB R k with
  | false =>
    have hE : dilE R k = 1 := by unfold dilE; rw [hq]; rfl
    have hD : dilR R k = [] := by unfold dilR; rw [hq]; rfl
    rw [hq] at c0
    rw [hE, hD]
    refine pc_of_awp cx (fn := Try.f30) (c := _) Try.func30 rfl rfl (Nat.le_of_ble_eq_true rfl) ?_
    rw [Try.ntmps30]; refine Nav.imp ?_
    refine awp_region cx [] fun K hK => ?_
    simp [push_cast]
    repeat (refine And.intro (by clear hK; intros; first | omega | (simp_all; done) | (simp_all <;> omega)) ?_)
    refine hK _ ?_; clear hK K; refine Nav.imp ?_
    refine awp_region cx [(2, .p (.bool false))] fun K hK => ?_
    simp [push_cast, c0]
    repeat (refine And.intro (by clear hK; intros; first | omega | (simp_all; done) | (simp_all <;> omega)) ?_)
    refine hK _ ?_; clear hK K; refine Nav.imp ?_
    refine awp_cond (b := true) (by simp [push_cast]) (fun hb => ?_) (fun hb => ?_) <;> (refine Nav.imp ?_)
    · refine awp_region cx [] fun K hK => ?_
      simp [push_cast]
      repeat (refine And.intro (by clear hK; intros; first | omega | (simp_all; done) | (simp_all <;> omega)) ?_)
      refine hK _ ?_; clear hK K; refine Nav.imp ?_
      simp [push_cast]
    · simp at hb
  | true =>
    rw [hq] at c0
    have hq' := hq
    simp only [reachB, Bool.and_eq_true, decide_eq_true_eq] at hq'
    obtain ⟨⟨k1, k2⟩, hv⟩ := hq'
    replace hR := small_valid hv
    have hl := hR.1
    have c1 := box_ok R hR
    by_cases h0 : 0 < R.length
    · have hs : some? R = true := by simp [some?, hv, h0]
      have hbx : boxD R = .tup [.agg (Cell.row ⟨lowX R, fstY R⟩), .agg (Cell.row ⟨highX R, lstY R⟩), .bool true] := by simp [boxD, boxLo, boxHi, hs]
      rw [hbx] at c1
      clear hbx
      obtain ⟨w0, hw0⟩ : ∃ w, R[0]? = some w := getq h0
      obtain ⟨w1, hw1⟩ : ∃ w, R[R.length - 1]? = some w := getq (by omega)
      have b1 := (row_fine hv (List.mem_of_getElem? hw0)).1
      have b2 := (row_fine hv (List.mem_of_getElem? hw1)).1
      have y1 : fstY R = w0.y := by simp [fstY, hw0]
      have y2 : lstY R = w1.y := by simp [lstY, hw1]
      have y3 := rows_ends hv (List.mem_of_getElem? hw0)
      have lx1 : lowX R ≤ 4096 := (foldMin fstA R 4096).1
      have lx2 : -4096 ≤ lowX R := (foldMin fstA R 4096).2.2 (-4096) (by omega) fun w hw => (row_ends0 (row_fine hv hw).2).2.1
      have hx1 : -4096 ≤ highX R := (foldMax (fun w => lstB w - 1) R (-4096)).1
      have hx2 : highX R ≤ 4096 := (foldMax (fun w => lstB w - 1) R (-4096)).2.2 4096 (by omega) fun w hw => by have := (row_ends0 (row_fine hv hw).2).2.2.2; show lstB w - 1 ≤ 4096; omega
      have e1 := wrap_i64 (n := min (lowX R) (fstY R) - k) (by omega) (by omega)
      have e2 := wrap_i64 (n := max (highX R) (lstY R) + k) (by omega) (by omega)
      by_cases p1 : min (lowX R) (fstY R) - k < -4096
      · have hrg : rngB R k = false := by simp [rngB, p1]
        have hE : dilE R k = 8 := by unfold dilE; rw [hq, hrg]; simp [h0]
        have hD : dilR R k = [] := by unfold dilR; rw [hq, hrg]; simp
        rw [hE, hD]
        generalize lowX R = lx at *
        generalize highX R = hx at *
        generalize fstY R = fy at *
        generalize lstY R = ly at *
        refine pc_of_awp cx (fn := Try.f30) (c := _) Try.func30 rfl rfl (Nat.le_of_ble_eq_true rfl) ?_
        rw [Try.ntmps30]; refine Nav.imp ?_
        refine awp_region cx [] fun K hK => ?_
        simp [push_cast]
        repeat (refine And.intro (by clear hK; intros; first | omega | (simp_all; done) | (simp_all <;> omega)) ?_)
        refine hK _ ?_; clear hK K; refine Nav.imp ?_
        refine awp_region cx [(2, .p (.bool true))] fun K hK => ?_
        simp [push_cast, c0]
        repeat (refine And.intro (by clear hK; intros; first | omega | (simp_all; done) | (simp_all <;> omega)) ?_)
        refine hK _ ?_; clear hK K; refine Nav.imp ?_
        refine awp_cond (b := false) (by simp [push_cast]) (fun hb => ?_) (fun hb => ?_) <;> (refine Nav.imp ?_)
        · simp at hb
        · refine awp_region cx [(1, .p (.tup [.agg (Cell.row ⟨lx, fy⟩), .agg (Cell.row ⟨hx, ly⟩), .bool true]))] fun K hK => ?_
          simp [push_cast, c1, Cell.row]
          repeat (refine And.intro (by clear hK; intros; first | omega | (simp_all; done) | (simp_all <;> omega)) ?_)
          refine hK _ ?_; clear hK K; refine Nav.imp ?_
          refine awp_region cx [] fun K hK => ?_
          simp [push_cast]
          repeat (refine And.intro (by clear hK; intros; first | omega | (simp_all; done) | (simp_all <;> omega)) ?_)
          refine hK _ ?_; clear hK K; refine Nav.imp ?_
          refine awp_cond (b := false) (by simp [push_cast]) (fun hb => ?_) (fun hb => ?_) <;> (refine Nav.imp ?_)
          · simp at hb
          · refine awp_region cx [] fun K hK => ?_
            simp [push_cast, e1, p1, Cell.row]
            repeat (refine And.intro (by clear hK; intros; first | omega | (simp_all; done) | (simp_all <;> omega)) ?_)
            refine hK _ ?_; clear hK K; refine Nav.imp ?_
            refine awp_cond (b := true) (by simp [push_cast, p1]) (fun hb => ?_) (fun hb => ?_) <;> (refine Nav.imp ?_)
            · refine awp_region cx [] fun K hK => ?_
              simp [push_cast]
              repeat (refine And.intro (by clear hK; intros; first | omega | (simp_all; done) | (simp_all <;> omega)) ?_)
              refine hK _ ?_; clear hK K; refine Nav.imp ?_
              simp [push_cast]
            · simp at hb
      · by_cases p2 : 4096 ≤ max (highX R) (lstY R) + k
        · have hrg : rngB R k = false := by simp [rngB, p2]
          have hE : dilE R k = 8 := by unfold dilE; rw [hq, hrg]; simp [h0]
          have hD : dilR R k = [] := by unfold dilR; rw [hq, hrg]; simp
          rw [hE, hD]
          generalize lowX R = lx at *
          generalize highX R = hx at *
          generalize fstY R = fy at *
          generalize lstY R = ly at *
          refine pc_of_awp cx (fn := Try.f30) (c := _) Try.func30 rfl rfl (Nat.le_of_ble_eq_true rfl) ?_
          rw [Try.ntmps30]; refine Nav.imp ?_
          refine awp_region cx [] fun K hK => ?_
          simp [push_cast]
          repeat (refine And.intro (by clear hK; intros; first | omega | (simp_all; done) | (simp_all <;> omega)) ?_)
          refine hK _ ?_; clear hK K; refine Nav.imp ?_
          refine awp_region cx [(2, .p (.bool true))] fun K hK => ?_
          simp [push_cast, c0]
          repeat (refine And.intro (by clear hK; intros; first | omega | (simp_all; done) | (simp_all <;> omega)) ?_)
          refine hK _ ?_; clear hK K; refine Nav.imp ?_
          refine awp_cond (b := false) (by simp [push_cast]) (fun hb => ?_) (fun hb => ?_) <;> (refine Nav.imp ?_)
          · simp at hb
          · refine awp_region cx [(1, .p (.tup [.agg (Cell.row ⟨lx, fy⟩), .agg (Cell.row ⟨hx, ly⟩), .bool true]))] fun K hK => ?_
            simp [push_cast, c1, Cell.row]
            repeat (refine And.intro (by clear hK; intros; first | omega | (simp_all; done) | (simp_all <;> omega)) ?_)
            refine hK _ ?_; clear hK K; refine Nav.imp ?_
            refine awp_region cx [] fun K hK => ?_
            simp [push_cast]
            repeat (refine And.intro (by clear hK; intros; first | omega | (simp_all; done) | (simp_all <;> omega)) ?_)
            refine hK _ ?_; clear hK K; refine Nav.imp ?_
            refine awp_cond (b := false) (by simp [push_cast]) (fun hb => ?_) (fun hb => ?_) <;> (refine Nav.imp ?_)
            · simp at hb
            · refine awp_region cx [] fun K hK => ?_
              simp [push_cast, e1, e2, p1, p2, Cell.row]
              repeat (refine And.intro (by clear hK; intros; first | omega | (simp_all; done) | (simp_all <;> omega)) ?_)
              refine hK _ ?_; clear hK K; refine Nav.imp ?_
              refine awp_cond (b := true) (by simp [push_cast, p1, p2]) (fun hb => ?_) (fun hb => ?_) <;> (refine Nav.imp ?_)
              · refine awp_region cx [] fun K hK => ?_
                simp [push_cast]
                repeat (refine And.intro (by clear hK; intros; first | omega | (simp_all; done) | (simp_all <;> omega)) ?_)
                refine hK _ ?_; clear hK K; refine Nav.imp ?_
                simp [push_cast]
              · simp at hb
        · have hrg : rngB R k = true := by simp [rngB, p1, p2]
          have hE : dilE R k = 0 := by unfold dilE; rw [hq, hrg]; simp [h0]
          have hD : dilR R k = dilL R k.toNat := by unfold dilR; rw [hq, hrg]; simp [h0]
          rw [hE, hD]
          clear hE hD hrg hs
          obtain ⟨K, rfl⟩ : ∃ K : Nat, k = K := ⟨k.toNat, by omega⟩
          have hK : K ≤ 64 := by omega
          rw [Int.toNat_natCast]
          have hLd : dilL R K = rowsF (dilRun R K) (ysD (fstY R - K) (dilN R K)) := rfl
          have hFd : ∀ y, dilRun R K y = rowW fU (rowMap (groF K) R) y K := fun y => rfl
          have hFok := fun y => dilRun_ok hv hK y
          have hMok := dilM_ok hv hK
          have hMt := fun i w => @rowMap_take (groF K) R i w
          have hM0 : rowMap (groF K) (R.take 0) = [] := rfl
          have hMe : rowMap (groF K) (R.take R.length) = rowMap (groF K) R := by rw [List.take_length]
          have hN : (dilN R K : Int) = lstY R + K - (fstY R - K) + 1 := by unfold dilN; omega
          have hyl : (ysD (fstY R - K) (dilN R K)).length = dilN R K := by simp [ysD]
          have hyt : ∀ j : Nat, j < dilN R K → (ysD (fstY R - K) (dilN R K))[j]? = some (fstY R - K + j) := fun j hj => by simp [ysD, hj]
          rw [hLd]
          clear hLd
          generalize hys : ysD (fstY R - K) (dilN R K) = ys at *
          have hNl : dilN R K ≤ 100000 := by omega
          generalize dilRun R K = F at *
          have hFr : ∀ y, dilRow F y = if F y = [] then [] else [⟨y, F y⟩] := fun y => rfl
          generalize hMM : rowMap (groF K) R = MM at *
          generalize lowX R = lx at *
          generalize highX R = hx at *
          generalize fstY R = fy at *
          generalize lstY R = ly at *
          generalize dilN R K = n at *
          clear hys
          have u1 := wrap_i64 (n := fy - (K : Int)) (by omega) (by omega)
          have u2 := wrap_i64 (n := ly + (K : Int)) (by omega) (by omega)
          refine pc_of_awp cx (fn := Try.f30) (c := _) Try.func30 rfl rfl (Nat.le_of_ble_eq_true rfl) ?_
          rw [Try.ntmps30]; refine Nav.imp ?_
          refine awp_region cx [] fun K hK => ?_
          simp [push_cast]
          repeat (refine And.intro (by clear hK; intros; first | omega | (simp_all; done) | (simp_all <;> omega)) ?_)
          refine hK _ ?_; clear hK K; refine Nav.imp ?_
          refine awp_region cx [(2, .p (.bool true))] fun K hK => ?_
          simp [push_cast, c0]
          repeat (refine And.intro (by clear hK; intros; first | omega | (simp_all; done) | (simp_all <;> omega)) ?_)
          refine hK _ ?_; clear hK K; refine Nav.imp ?_
          refine awp_cond (b := false) (by simp [push_cast]) (fun hb => ?_) (fun hb => ?_) <;> (refine Nav.imp ?_)
          · simp at hb
          · refine awp_region cx [(1, .p (.tup [.agg (Cell.row ⟨lx, fy⟩), .agg (Cell.row ⟨hx, ly⟩), .bool true]))] fun K hK => ?_
            simp [push_cast, c1, Cell.row]
            repeat (refine And.intro (by clear hK; intros; first | omega | (simp_all; done) | (simp_all <;> omega)) ?_)
            refine hK _ ?_; clear hK K; refine Nav.imp ?_
            refine awp_region cx [] fun K hK => ?_
            simp [push_cast]
            repeat (refine And.intro (by clear hK; intros; first | omega | (simp_all; done) | (simp_all <;> omega)) ?_)
            refine hK _ ?_; clear hK K; refine Nav.imp ?_
            refine awp_cond (b := false) (by simp [push_cast]) (fun hb => ?_) (fun hb => ?_) <;> (refine Nav.imp ?_)
            · simp at hb
            · refine awp_region cx [] fun K hK => ?_
              simp [push_cast, e1, e2, p1, p2, Cell.row]
              repeat (refine And.intro (by clear hK; intros; first | omega | (simp_all; done) | (simp_all <;> omega)) ?_)
              refine hK _ ?_; clear hK K; refine Nav.imp ?_
              refine awp_cond (b := false) (by simp [push_cast, p1, p2]) (fun hb => ?_) (fun hb => ?_) <;> (refine Nav.imp ?_)
              · simp at hb
              · refine awp_region cx [] fun K hK => ?_
                simp [push_cast, mp_nil]
                repeat (refine And.intro (by clear hK; intros; first | omega | (simp_all; done) | (simp_all <;> omega)) ?_)
                refine hK _ ?_; clear hK K; refine Nav.imp ?_
                refine awp_region cx [] fun K hK => ?_
                simp [push_cast]
                repeat (refine And.intro (by clear hK; intros; first | omega | (simp_all; done) | (simp_all <;> omega)) ?_)
                refine hK _ ?_; clear hK K; refine Nav.imp ?_
                refine awp_loop (β := Nat × List (Int × List Run)) (fun b => ⟨99, [(1, .d (.int .i64 K)), (2, .ptr 0 0 0), (4, .ptr 1 0 0), (6, .ptr 2 0 0), (7, .ptr 3 0 0), (9, .ptr 5 0 0), (51, .d (encRows R)), (52, .d (.int .i64 R.length)), (53, .d (.int .i64 b.1))], [(0, some ⟨24, 1, [(regRow R).map .d]⟩), (1, some ⟨24, 1, [[.nl]]⟩), (2, some ⟨44, 2, [(Cell.row ⟨lx, fy⟩).map .d]⟩), (3, some ⟨44, 2, [(Cell.row ⟨hx, ly⟩).map .d]⟩), (4, some ⟨64, mapM, dr (mpRows b.2)⟩), (5, some ⟨78, 2, [[.hm 4, .d (.fn (.func 63) [])]]⟩)], 6⟩) (fun b => b.1 ≤ R.length ∧ b.2 = rowMap (groF K) (R.take b.1)) (fun b => R.length - b.1) (0, []) ?_ ⟨Nat.zero_le _, hM0.symm⟩ ?_
                · refine weak_of [(0, some 0), (1, some 1), (2, some 13), (3, some 14), (4, some 38), (5, some 40)] rfl (by simp [upT, up, upL, push_cast, mp_nil, Cell.row]) (by simp [upH, upR, upL, up, push_cast, mp_nil, Cell.row]) (by simp [namesOk, push_cast]) (by simp [olds])
                · rintro ⟨i, M⟩ ⟨hi, hM⟩
                  simp only at hi hM
                  refine Nav.imp ?_
                  refine awp_region cx [] fun K hK => ?_
                  simp [push_cast]
                  repeat (refine And.intro (by clear hK; intros; first | omega | (simp_all; done) | (simp_all <;> omega)) ?_)
                  refine hK _ ?_; clear hK K; refine Nav.imp ?_
                  refine awp_cond (b := decide ((i : Int) < R.length)) (by simp [push_cast]) (fun hb => ?_) (fun hb => ?_) <;> (refine Nav.imp ?_)
                  · have hlt : i < R.length := by simpa using hb
                    obtain ⟨w, hw⟩ := getq hlt
                    have e0 := wrap_i64 (n := (i : Int) + 1) (by omega) (by omega)
                    have hwl := hR.2 w (List.mem_of_getElem? hw)
                    have c2 := grow_ok w.runs K (validR_at hv hw).2 hwl (by omega)
                    have hsf : groL w.runs K = groF K w.runs := rfl
                    rw [hsf] at c2
                    have hnx := hMt i w hw
                    rw [← hM] at hnx
                    clear hsf
                    generalize groF K w.runs = s at *
                    have hput := putR_mp w.y s M
                    refine awp_region cx [] fun K hK => ?_
                    simp [push_cast, hw, Row.row]
                    repeat (refine And.intro (by clear hK; intros; first | omega | (simp_all; done) | (simp_all <;> omega)) ?_)
                    refine hK _ ?_; clear hK K; refine Nav.imp ?_
                    refine awp_region_draw cx mixed [(7, .p (.tup [encRuns s, .int .i64 0]))] fun K hK => ?_
                    simp [push_cast, c2, hput, Row.row]
                    repeat (refine And.intro (by clear hK; intros; first | omega | (simp_all; done) | (simp_all <;> omega)) ?_)
                    refine hK _ _ (by kernel_rfl) ?_; clear hK K; refine Nav.imp ?_
                    refine awp_region cx [] fun K hK => ?_
                    simp [push_cast, e0]
                    repeat (refine And.intro (by clear hK; intros; first | omega | (simp_all; done) | (simp_all <;> omega)) ?_)
                    refine hK _ ?_; clear hK K; refine Nav.imp ?_
                    refine ⟨(i + 1, putL M w.y s), ⟨hlt, hnx.symm⟩, by simp only; omega, ?_⟩
                    refine weak_of [(0, some 0), (1, some 1), (2, some 2), (3, some 3), (4, some 4), (5, some 5)] rfl (by simp [upT, up, upL, push_cast, Cell.row]) (by simp [upH, upR, upL, up, push_cast, Cell.row]) (by simp [namesOk, push_cast]) (by simp [olds])
                  · have hge : i = R.length := by simp at hb; omega
                    subst hge
                    rw [hMe] at hM
                    subst hM
                    refine awp_freeze 4 (mpRows M) rfl (by simp [push_cast]) fun K hK => ?_
                    simp [push_cast, St.fz, fzT, fzH, fzO, fz, fzL, fzR, fzR_dr, fzR_app, fzR_set, fzL_map]
                    refine hK _ ?_; clear hK K; refine Nav.imp ?_
                    refine awp_region cx [] fun K hK => ?_
                    simp [push_cast]
                    repeat (refine And.intro (by clear hK; intros; first | omega | (simp_all; done) | (simp_all <;> omega)) ?_)
                    refine hK _ ?_; clear hK K; refine Nav.imp ?_
                    refine awp_region cx [] fun K hK => ?_
                    simp [push_cast, u1, Cell.row]
                    repeat (refine And.intro (by clear hK; intros; first | omega | (simp_all; done) | (simp_all <;> omega)) ?_)
                    refine hK _ ?_; clear hK K; refine Nav.imp ?_
                    refine awp_loop (β := Nat × List Row) (fun s => ⟨99, [(1, .d (.int .i64 K)), (4, .ptr 1 0 0), (7, .ptr 3 0 0), (9, .ptr 5 0 0), (12, .ptr 6 0 0), (13, .d (.int .i64 (fy - K + s.1)))], [(1, some ⟨24, 1, [[.nl]]⟩), (3, some ⟨44, 2, [(Cell.row ⟨hx, ly⟩).map .d]⟩), (5, some ⟨78, 2, [[.d (.mp (mpRows M)), .d (.fn (.func 63) [])]]⟩), (6, some ⟨24, 1, [[.hs 7 0 s.2.length]]⟩), (7, some ⟨60, 2, dr (s.2.map Row.row)⟩)], 8⟩) (fun s => s.1 ≤ n ∧ s.2 = rowsF F (ys.take s.1)) (fun s => n - s.1) (0, []) ?_ ⟨Nat.zero_le _, by simp [rowsF]⟩ ?_
                    · refine weak_of [(1, some 1), (3, some 3), (5, some 5), (6, some 7), (7, none)] rfl (by simp [upT, up, upL, push_cast, Cell.row]) (by simp [upH, upR, upL, up, push_cast, Cell.row]) (by simp [namesOk, push_cast]) (by simp [olds])
                    · rintro ⟨j, Z⟩ ⟨hj, hZ⟩
                      simp only at hj hZ
                      refine Nav.imp ?_
                      refine awp_region cx [] fun K hK => ?_
                      simp [push_cast, u2, Cell.row]
                      repeat (refine And.intro (by clear hK; intros; first | omega | (simp_all; done) | (simp_all <;> omega)) ?_)
                      refine hK _ ?_; clear hK K; refine Nav.imp ?_
                      by_cases hlt : j < n
                      · have q1 : fy - (K : Int) + j ≤ ly + K := by omega
                        have e0 := wrap_i64 (n := fy - (K : Int) + j + 1) (by omega) (by omega)
                        have c3 := wrow_ok fU rfl 63 (fun a b h1 h2 h3 h4 => union_ok a b h1 h2 h3 h4) M hMok (fy - K + j) K (by omega) hK
                        rw [← hFd] at c3
                        have hul := (hFok (fy - K + j)).len
                        have hnx : rowsF F (ys.take (j + 1)) = Z ++ dilRow F (fy - K + j) := by rw [hZ]; exact flat_take _ (hyt j hlt)
                        rw [hFr] at hnx
                        have hZl : Z.length ≤ 1000000 := by
                          have := flat_one_len (dilRow_len F) (ys.take j)
                          have h6 : Z.length = ((ys.take j).flatMap (dilRow F)).length := by rw [hZ]; rfl
                          have h7 : (ys.take j).length ≤ j := by simp; omega
                          omega
                        have hZ32 : (Z.length + 1) * 32 ≤ 140737488355328 := by omega
                        have hu16 : (0 + (F (fy - K + j)).length) * 16 ≤ 140737488355328 := by omega
                        generalize F (fy - K + j) = u at *
                        refine awp_cond (b := true) (by simp [push_cast, q1]) (fun hb => ?_) (fun hb => ?_) <;> (refine Nav.imp ?_)
                        · refine awp_region cx [(3, .p (encRuns u))] fun K hK => ?_
                          simp [push_cast, c3]
                          repeat (refine And.intro (by clear hK; intros; first | omega | (simp_all; done) | (simp_all <;> omega)) ?_)
                          refine hK _ ?_; clear hK K; refine Nav.imp ?_
                          refine awp_region cx [] fun K hK => ?_
                          simp [push_cast]
                          repeat (refine And.intro (by clear hK; intros; first | omega | (simp_all; done) | (simp_all <;> omega)) ?_)
                          refine hK _ ?_; clear hK K; refine Nav.imp ?_
                          cases hu : u with
                          | nil =>
                            rw [hu] at hnx
                            simp only [if_true, List.append_nil] at hnx
                            refine awp_cond (b := false) (by simp [push_cast, hu]) (fun hb => ?_) (fun hb => ?_) <;> (refine Nav.imp ?_)
                            · simp at hb
                            · refine awp_region cx [] fun K hK => ?_
                              simp [push_cast, e0]
                              repeat (refine And.intro (by clear hK; intros; first | omega | (simp_all; done) | (simp_all <;> omega)) ?_)
                              refine hK _ ?_; clear hK K; refine Nav.imp ?_
                              refine ⟨(j + 1, Z), ⟨hlt, hnx.symm⟩, by simp only; omega, ?_⟩
                              refine weak_of [(1, some 1), (3, some 3), (5, some 5), (6, some 6), (7, some 7)] rfl (by simp [upT, up, upL, push_cast, Cell.row, Int.add_assoc]) (by simp [upH, upR, upL, up, push_cast, Cell.row, Int.add_assoc]) (by simp [namesOk, push_cast]) (by simp [olds])
                          | cons q u' =>
                            have hne : ¬ u = [] := by rw [hu]; simp
                            have hpos : 0 < u.length := by rw [hu]; simp
                            rw [if_neg hne] at hnx
                            rw [← hu]
                            clear hu
                            refine awp_cond (b := true) (by simp [push_cast, hpos]) (fun hb => ?_) (fun hb => ?_) <;> (refine Nav.imp ?_)
                            · refine awp_region_draw cx mixed [] fun K hK => ?_
                              simp [push_cast, hZ32, hu16]
                              repeat (refine And.intro (by clear hK; intros; first | omega | (simp_all; done) | (simp_all <;> omega)) ?_)
                              refine hK _ _ (by kernel_rfl) ?_; clear hK K; refine Nav.imp ?_
                              refine awp_freeze 27 (u.map Run.row) rfl (by simp [push_cast]) fun K hK => ?_
                              simp [push_cast, St.fz, fzT, fzH, fzO, fz, fzL, fzR, fzR_dr, fzR_app, fzR_set, fzL_map]
                              refine hK _ ?_; clear hK K; refine Nav.imp ?_
                              refine awp_region cx [] fun K hK => ?_
                              simp [push_cast, e0]
                              repeat (refine And.intro (by clear hK; intros; first | omega | (simp_all; done) | (simp_all <;> omega)) ?_)
                              refine hK _ ?_; clear hK K; refine Nav.imp ?_
                              refine ⟨(j + 1, Z ++ [⟨fy - K + j, u⟩]), ⟨hlt, hnx.symm⟩, by simp only; omega, ?_⟩
                              refine weak_of [(1, some 1), (3, some 3), (5, some 5), (6, some 6), (7, some 30)] rfl (by simp [upT, up, upL, push_cast, Row.row, Cell.row, Int.add_assoc]) (by simp [upH, upR, upL, up, push_cast, Row.row, Cell.row, Int.add_assoc]) (by simp [namesOk, push_cast]) (by simp [olds])
                            · simp at hb
                        · simp at hb
                      · have hje : j = n := by omega
                        subst hje
                        have q1 : ¬ fy - (K : Int) + j ≤ ly + K := by omega
                        rw [← hyl, List.take_length] at hZ
                        rw [← hZ]
                        have ht2 : List.take Z.length (Z.map Row.row) = Z.map Row.row := List.take_of_length_le (by simp)
                        refine awp_cond (b := false) (by simp [push_cast, q1]) (fun hb => ?_) (fun hb => ?_) <;> (refine Nav.imp ?_)
                        · simp at hb
                        · refine awp_freeze 7 (Z.map Row.row) rfl (by simp [push_cast, Row.row, ht2]) fun K hK => ?_
                          simp [push_cast, St.fz, fzT, fzH, fzO, fz, fzL, fzR, fzR_dr, fzR_app, fzR_set, fzL_map, Row.row, ht2]
                          refine hK _ ?_; clear hK K; refine Nav.imp ?_
                          refine awp_region cx [] fun K hK => ?_
                          simp [push_cast]
                          repeat (refine And.intro (by clear hK; intros; first | omega | (simp_all; done) | (simp_all <;> omega)) ?_)
                          refine hK _ ?_; clear hK K; refine Nav.imp ?_
                          simp [push_cast]
    · have hs : some? R = false := by simp [some?, h0]
      have eR : R = [] := List.eq_nil_of_length_eq_zero (by omega)
      have hE : dilE R k = 0 := by unfold dilE; rw [hq]; simp [h0]
      have hD : dilR R k = [] := by unfold dilR; rw [hq]; simp [h0]
      have hbx : boxD R = .tup [.agg (Cell.row ⟨0, 0⟩), .agg (Cell.row ⟨0, 0⟩), .bool false] := by simp [boxD, boxLo, boxHi, hs]
      rw [hbx] at c1
      rw [hE, hD]
      refine pc_of_awp cx (fn := Try.f30) (c := _) Try.func30 rfl rfl (Nat.le_of_ble_eq_true rfl) ?_
      rw [Try.ntmps30]; refine Nav.imp ?_
      refine awp_region cx [] fun K hK => ?_
      simp [push_cast]
      repeat (refine And.intro (by clear hK; intros; first | omega | (simp_all; done) | (simp_all <;> omega)) ?_)
      refine hK _ ?_; clear hK K; refine Nav.imp ?_
      refine awp_region cx [(2, .p (.bool true))] fun K hK => ?_
      simp [push_cast, c0]
      repeat (refine And.intro (by clear hK; intros; first | omega | (simp_all; done) | (simp_all <;> omega)) ?_)
      refine hK _ ?_; clear hK K; refine Nav.imp ?_
      refine awp_cond (b := false) (by simp [push_cast]) (fun hb => ?_) (fun hb => ?_) <;> (refine Nav.imp ?_)
      · simp at hb
      · refine awp_region cx [(1, .p (.tup [.agg (Cell.row ⟨0, 0⟩), .agg (Cell.row ⟨0, 0⟩), .bool false]))] fun K hK => ?_
        simp [push_cast, c1, Cell.row]
        repeat (refine And.intro (by clear hK; intros; first | omega | (simp_all; done) | (simp_all <;> omega)) ?_)
        refine hK _ ?_; clear hK K; refine Nav.imp ?_
        refine awp_region cx [] fun K hK => ?_
        simp [push_cast]
        repeat (refine And.intro (by clear hK; intros; first | omega | (simp_all; done) | (simp_all <;> omega)) ?_)
        refine hK _ ?_; clear hK K; refine Nav.imp ?_
        refine awp_cond (b := true) (by simp [push_cast]) (fun hb => ?_) (fun hb => ?_) <;> (refine Nav.imp ?_)
        · refine awp_region cx [] fun K hK => ?_
          simp [push_cast]
          repeat (refine And.intro (by clear hK; intros; first | omega | (simp_all; done) | (simp_all <;> omega)) ?_)
          refine hK _ ?_; clear hK K; refine Nav.imp ?_
          simp [push_cast]
        · simp at hb
end Go.Proofs.Ytlfalheciadklaa

set_option linter.unusedVariables false
set_option linter.unusedSimpArgs false
namespace Go.Proofs.Ytlfalheciadklaa
open Go.Abs

/-! The set operations, cell by cell. -/
section
variable {a b : List Row} (ha : validR a = true) (hb : validR b = true) (c : Cell)
include ha hb
theorem opU_iff : c ∈ regCells (opR fU a b) ↔ c ∈ regCells a ∨ c ∈ regCells b := by
  have h := (opR_facts (f := fU) rfl ha hb).2 c
  have e : ∀ x y, fU x y = (x || y) := fun _ _ => rfl
  rw [e] at h
  rw [← decide_eq_true_iff (p := c ∈ regCells (opR fU a b)), h]
  simp
theorem opI_iff : c ∈ regCells (opR fI a b) ↔ c ∈ regCells a ∧ c ∈ regCells b := by
  have h := (opR_facts (f := fI) rfl ha hb).2 c
  have e : ∀ x y, fI x y = (x && y) := fun _ _ => rfl
  rw [e] at h
  rw [← decide_eq_true_iff (p := c ∈ regCells (opR fI a b)), h]
  simp
theorem opD_iff : c ∈ regCells (opR fD a b) ↔ c ∈ regCells a ∧ c ∉ regCells b := by
  have h := (opR_facts (f := fD) rfl ha hb).2 c
  have e : ∀ x y, fD x y = (x && !y) := fun _ _ => rfl
  rw [e] at h
  rw [← decide_eq_true_iff (p := c ∈ regCells (opR fD a b)), h]
  simp
end
theorem valid_empty {R : List Row} (hv : validR R = true) (h : ∀ c, c ∉ regCells R) : R = [] := region_uniq hv rfl fun c => ⟨fun hc => absurd hc (h c), fun hc => by simp [regCells] at hc⟩
end Go.Proofs.Ytlfalheciadklaa
