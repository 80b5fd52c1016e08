/-
  Texts of this seat put together: N2, M4, M5, E6, AbsY, AbsQ, E7, T2.
-/
import Derived.Test.YtagakfaiimaifaaGreatJ6
import Derived.Test.YtagakfaiimaifaaGreatJ4
import Derived.Test.YtagakfaiimaifaaGreatJ3
import Derived.Test.YtagakfaiimaifaaGreatJ5
set_option linter.unusedVariables false
set_option linter.unusedSimpArgs false
set_option maxRecDepth 100000
namespace Go.Proofs.YtagakfaiimaifaaGreat
open Go.Abs

/-! Regions made row by row of another one. -/
def mapRow (F : Row → List Run) (w : Row) : List Row := if F w = [] then [] else [⟨w.y, F w⟩]
def mapR (F : Row → List Run) (S : List Row) : List Row := S.flatMap (mapRow F)
theorem mapRow_len (F : Row → List Run) (w : Row) : (mapRow F w).length ≤ 1 := by unfold mapRow; split <;> simp
theorem mapRow_mem {F : Row → List Run} {w v : Row} (h : v ∈ mapRow F w) : v = ⟨w.y, F w⟩ ∧ F w ≠ [] := by
  unfold mapRow at h
  split at h
  · simp at h
  · rename_i e; simp at h; exact ⟨h, e⟩
theorem mapR_mem {F : Row → List Run} {S : List Row} {v : Row} (h : v ∈ mapR F S) : ∃ w ∈ S, v = ⟨w.y, F w⟩ ∧ F w ≠ [] := by
  obtain ⟨w, hw, hv⟩ := List.mem_flatMap.1 h
  exact ⟨w, hw, mapRow_mem hv⟩
theorem mapR_len (F : Row → List Run) : ∀ S : List Row, (mapR F S).length ≤ S.length := flat_one_len (mapRow_len F)
theorem mapR_take {F : Row → List Run} {S : List Row} {k : Nat} {w : Row} (h : S[k]? = some w) : mapR F (S.take (k + 1)) = mapR F (S.take k) ++ mapRow F w := flat_take _ h
theorem flat_pw {α β : Type} {P : α → α → Prop} {Q : β → β → Prop} {f : α → List β} (h1 : ∀ a, (f a).length ≤ 1) (h2 : ∀ a b x y, P a b → x ∈ f a → y ∈ f b → Q x y) : ∀ {l : List α}, l.Pairwise P → (l.flatMap f).Pairwise Q
  | [], _ => by simp
  | a :: l, h => by
    obtain ⟨ha, hl⟩ := List.pairwise_cons.1 h
    rw [List.flatMap_cons]
    refine List.pairwise_append.2 ⟨?_, flat_pw h1 h2 hl, fun x hx y hy => ?_⟩
    · have := h1 a
      match h : f a, this with
      | [], _ => simp
      | [x], _ => simp
    · obtain ⟨b, hb, hy⟩ := List.mem_flatMap.1 hy
      exact h2 a b x y (ha b hb) hx hy
theorem mapR_valid {F : Row → List Run} {S : List Row} (hv : validR S = true) (hF : ∀ w ∈ S, F w ≠ [] → fine (F w) = true) : validR (mapR F S) = true := by
  obtain ⟨h1, h2⟩ := validR_pw.1 hv
  refine validR_pw.2 ⟨fun v hv' => ?_, flat_pw (mapRow_len F) (fun a b x y hab hx hy => ?_) h2⟩
  · obtain ⟨w, hw, rfl, hne⟩ := mapR_mem hv'
    exact ⟨(h1 w hw).1, hF w hw hne⟩
  · rw [(mapRow_mem hx).1, (mapRow_mem hy).1]; exact hab
theorem mapR_cells {F : Row → List Run} {S : List Row} {c : Cell} : c ∈ regCells (mapR F S) ↔ ∃ w ∈ S, c.y = w.y ∧ inR (F w) c.x = true := by
  rw [mem_regCells]
  constructor
  · rintro ⟨v, hv, hy, hr⟩
    obtain ⟨w, hw, rfl, _⟩ := mapR_mem hv
    exact ⟨w, hw, hy, inR_iff.2 hr⟩
  · rintro ⟨w, hw, hy, hr⟩
    refine ⟨⟨w.y, F w⟩, List.mem_flatMap.2 ⟨w, hw, ?_⟩, hy, inR_iff.1 hr⟩
    unfold mapRow
    rw [if_neg (by rintro e; rw [e] at hr; simp [inR] at hr)]
    simp
theorem mapR_small {F : Row → List Run} {S : List Row} (hS : smallR S) (hv : validR (mapR F S) = true) : smallR (mapR F S) := by
  refine ⟨Nat.le_trans (mapR_len F S) hS.1, fun w hw => ?_⟩
  obtain ⟨_, h1, h2⟩ := fine_apart.1 (row_fine hv hw).2
  have := apart_len h1 (lo := -4096) (hi := 4096) h2
  omega
/-- What is left of a region where runs are taken away from its rows. -/
def lessF (g : Int → List Run) (w : Row) : List Run := sweep fD w.runs (g w.y)
theorem less_facts {S : List Row} (hv : validR S = true) {g : Int → List Run} (hg : ∀ y, rvalid (g y) = true) : validR (mapR (lessF g) S) = true ∧ ∀ c, c ∈ regCells (mapR (lessF g) S) ↔ c ∈ regCells S ∧ inR (g c.y) c.x = false := by
  have hsw : ∀ w ∈ S, Apart (lessF g w) ∧ ∀ x, inR (lessF g w) x = fD (inR w.runs x) (inR (g w.y) x) := fun w hw => sweep_facts rfl (fine_rv (row_fine hv hw).2) (hg w.y)
  refine ⟨mapR_valid hv fun w hw hne => fine_apart.2 ⟨hne, (hsw w hw).1, apart_bounds (hsw w hw).1 fun x hx => ?_⟩, fun c => ?_⟩
  · rw [(hsw w hw).2] at hx
    simp only [fD, Bool.and_eq_true] at hx
    obtain ⟨r, hr, h1, h2⟩ := inR_iff.1 hx.1
    obtain ⟨_, _, h3⟩ := fine_apart.1 (row_fine hv hw).2
    have := h3 r hr
    omega
  · rw [mapR_cells, mem_regCells]
    constructor
    · rintro ⟨w, hw, hy, hr⟩
      rw [(hsw w hw).2] at hr
      simp only [fD, Bool.and_eq_true, Bool.not_eq_true'] at hr
      exact ⟨⟨w, hw, hy, inR_iff.1 hr.1⟩, by rw [hy]; exact hr.2⟩
    · rintro ⟨⟨w, hw, hy, hr⟩, h2⟩
      refine ⟨w, hw, hy, ?_⟩
      rw [(hsw w hw).2, inR_iff.2 hr, ← hy, h2]
      rfl

/-- What the package calls missing. -/
def missB (S M : List Row) (k : Int) : Bool := validR S && validR M && decide (0 ≤ k) && decide (k ≤ 64)
def missR (S M : List Row) (k : Int) : List Row := if missB S M k then mapR (lessF (mget (nearM M k.toNat))) S else []
theorem miss_facts {S M : List Row} {k : Int} (h : missB S M k = true) : validR (missR S M k) = true ∧ ∀ c, c ∈ regCells (missR S M k) ↔ c ∈ regCells S ∧ ¬ nearP M k.toNat c.y c.x := by
  have e : missR S M k = mapR (lessF (mget (nearM M k.toNat))) S := by unfold missR; rw [if_pos h]
  simp only [missB, Bool.and_eq_true, decide_eq_true_eq] at h
  obtain ⟨⟨⟨h1, h2⟩, h3⟩, h4⟩ := h
  have hn := near_facts h2 (K := k.toNat) (by omega)
  obtain ⟨q1, q2⟩ := less_facts h1 (g := mget (nearM M k.toNat)) fun y => apart_rv (hn y).1 (hn y).2.1
  rw [e]
  refine ⟨q1, fun c => ?_⟩
  rw [q2, ← (hn c.y).2.2 c.x]
  simp
theorem miss_valid (S M : List Row) (k : Int) : validR (missR S M k) = true := by
  cases h : missB S M k with
  | true => exact (miss_facts h).1
  | false => unfold missR; rw [h]; rfl
theorem miss_small {S M : List Row} (hS : smallR S) (k : Int) : smallR (missR S M k) := by
  cases h : missB S M k with
  | true =>
    have hv := (miss_facts h).1
    unfold missR at hv ⊢
    rw [if_pos h] at hv ⊢
    exact mapR_small hS hv
  | false => unfold missR; rw [h]; exact ⟨by simp, by simp⟩

end Go.Proofs.YtagakfaiimaifaaGreat

set_option linter.unusedVariables false
set_option linter.unusedSimpArgs false
set_option maxRecDepth 100000
namespace Go.Proofs.YtagakfaiimaifaaGreat
open Go.Abs

/-! The runs of neighboring rows, joined. -/
def OkL (l : List Run) : Prop := Apart l ∧ ∀ r ∈ l, -4160 ≤ r.a ∧ r.b ≤ 4160
theorem OkL.nil : OkL [] := ⟨⟨by simp, by simp⟩, by simp⟩
theorem OkL.rv {l : List Run} (h : OkL l) : rvalid l = true := apart_rv h.1 h.2
theorem OkL.len {l : List Run} (h : OkL l) : l.length ≤ 8320 := apart_small h.1 h.2
theorem OkL.sweep {f : Bool → Bool → Bool} (hf : f false false = false) {a b : List Run} (ha : OkL a) (hb : OkL b) : OkL (sweep f a b) := by
  obtain ⟨h1, h2⟩ := sweep_facts hf ha.rv hb.rv
  refine ⟨h1, apart_bounds h1 fun x hx => ?_⟩
  rw [h2] at hx
  cases q1 : inR a x with
  | true => obtain ⟨r, hr, h3, h4⟩ := inR_iff.1 q1; have := ha.2 r hr; omega
  | false =>
    cases q2 : inR b x with
    | true => obtain ⟨r, hr, h3, h4⟩ := inR_iff.1 q2; have := hb.2 r hr; omega
    | false => rw [q1, q2, hf] at hx; cases hx
def OkM (M : List (Int × List Run)) : Prop := ∀ y, OkL (mget M y)
/-- The rows y, y + 1, .. y + j. -/
def wj (f : Bool → Bool → Bool) (M : List (Int × List Run)) (y : Int) : Nat → List Run
  | 0 => mget M y
  | j + 1 => sweep f (wj f M y j) (mget M (y + 1 + j))
theorem wj_ok {f : Bool → Bool → Bool} (hf : f false false = false) {M : List (Int × List Run)} (hM : OkM M) (y : Int) : ∀ j, OkL (wj f M y j)
  | 0 => hM y
  | j + 1 => (wj_ok hf hM y j).sweep hf (hM _)
theorem wj_U {M : List (Int × List Run)} (hM : OkM M) (y x : Int) : ∀ j : Nat, inR (wj fU M y j) x = true ↔ ∃ i : Nat, i ≤ j ∧ inR (mget M (y + i)) x = true
  | 0 => by
    simp only [wj, Nat.le_zero]
    constructor
    · intro h; exact ⟨0, rfl, by simpa using h⟩
    · rintro ⟨i, rfl, h⟩; simpa using h
  | j + 1 => by
    have ih := wj_U hM y x j
    simp only [wj, (sweep_facts (f := fU) rfl (wj_ok (f := fU) rfl hM y j).rv (hM (y + 1 + j)).rv).2, fU, Bool.or_eq_true, ih]
    constructor
    · rintro (⟨i, hi, h⟩ | h)
      · exact ⟨i, by omega, h⟩
      · exact ⟨j + 1, Nat.le_refl _, by rw [show y + ((j + 1 : Nat) : Int) = y + 1 + j by omega]; exact h⟩
    · rintro ⟨i, hi, h⟩
      by_cases e : i = j + 1
      · subst e; right; rw [show y + ((j + 1 : Nat) : Int) = y + 1 + j by omega] at h; exact h
      · exact .inl ⟨i, by omega, h⟩
theorem wj_I {M : List (Int × List Run)} (hM : OkM M) (y x : Int) : ∀ j : Nat, inR (wj fI M y j) x = true ↔ ∀ i : Nat, i ≤ j → inR (mget M (y + i)) x = true
  | 0 => by
    simp only [wj, Nat.le_zero]
    constructor
    · rintro h i rfl; simpa using h
    · intro h; simpa using h 0 rfl
  | j + 1 => by
    have ih := wj_I hM y x j
    simp only [wj, (sweep_facts (f := fI) rfl (wj_ok (f := fI) rfl hM y j).rv (hM (y + 1 + j)).rv).2, fI, Bool.and_eq_true, ih]
    constructor
    · rintro ⟨h1, h2⟩ i hi
      by_cases e : i = j + 1
      · subst e; rw [show y + ((j + 1 : Nat) : Int) = y + 1 + j by omega]; exact h2
      · exact h1 i (by omega)
    · intro h
      refine ⟨fun i hi => h i (by omega), ?_⟩
      have := h (j + 1) (Nat.le_refl _)
      rw [show y + ((j + 1 : Nat) : Int) = y + 1 + j by omega] at this; exact this
def rowW (f : Bool → Bool → Bool) (M : List (Int × List Run)) (y : Int) (K : Nat) : List Run := wj f M (y - K) (2 * K)

set_option maxHeartbeats 2000000 in
theorem wrow_ok (f : Bool → Bool → Bool) (hf : f false false = false) (g : FuncId) (hg : ∀ a b : List Run, a.length ≤ 1000000 → b.length ≤ 1000000 → rvalid a = true → rvalid b = true → PC Tryz.prog g [encRuns a, encRuns b] (.p (encRuns (sweep f a b))))
    (M : List (Int × List Run)) (hM : OkM M) (y : Int) (K : Nat) (hy : -10000 ≤ y ∧ y ≤ 10000) (hK : K ≤ 64) :
    PC Tryz.prog 102 [.agg [.mp (mpRows M), .fn (.func g) []], .int .i64 y, .int .i64 K] (.p (encRuns (rowW f M y K))) := by
  have hok := fun j => wj_ok hf hM (y - K) j
  have h0 : wj f M (y - K) 0 = mget M (y - K) := rfl
  have hs : ∀ j : Nat, wj f M (y - K) (j + 1) = sweep f (wj f M (y - K) j) (mget M (y - K + 1 + j)) := fun j => rfl
  have hr : rowW f M y K = wj f M (y - K) (2 * K) := rfl
  rw [hr]
  clear hr
  generalize wj f M (y - K) = W at *
  have e1 := wrap_i64 (n := y - (K : Int)) (by omega) (by omega)
  have e2 := wrap_i64 (n := y - (K : Int) + 1) (by omega) (by omega)
  have e3 := wrap_i64 (n := y + (K : Int)) (by omega) (by omega)
  have hl0 := look_mp (y - K) M
  refine pc_of_awp cx (fn := Tryz.f102) (c := _) Tryz.func102 rfl rfl (Nat.le_of_ble_eq_true rfl) ?_
  rw [Tryz.ntmps102]; refine Nav.imp ?_
  refine awp_region cx [] fun K hK => ?_
  simp [push_cast]
  repeat (refine And.intro (by clear hK; intros; first | omega | (simp_all; done) | (simp_all <;> omega)) ?_)
  refine hK _ ?_; clear hK K; refine Nav.imp ?_
  refine awp_region cx [(5, .p (encRuns (mget M (y - K))))] fun K hK => ?_
  simp [push_cast, e1, hl0]
  repeat (refine And.intro (by clear hK; intros; first | omega | (simp_all; done) | (simp_all <;> omega)) ?_)
  refine hK _ ?_; clear hK K; refine Nav.imp ?_
  rw [← h0]
  refine awp_region cx [] fun K hK => ?_
  simp [push_cast, e1, e2]
  repeat (refine And.intro (by clear hK; intros; first | omega | (simp_all; done) | (simp_all <;> omega)) ?_)
  refine hK _ ?_; clear hK K; refine Nav.imp ?_
  refine awp_loop (β := Nat) (fun j => ⟨35, [(1, .d (.int .i64 y)), (2, .d (.int .i64 K)), (3, .ptr 0 0 0), (7, .d (encRuns (W j))), (8, .d (.int .i64 (y - K + 1 + j)))], [(0, some ⟨140, 2, [[.d (.mp (mpRows M)), .d (.fn (.func g) [])]]⟩)], 1⟩) (fun j => j ≤ 2 * K) (fun j => 2 * K - j) 0 ?_ (Nat.zero_le _) ?_
  · refine weak_of [(0, some 0)] rfl (by simp [upT, up, upL, push_cast]) (by simp [upH, upR, upL, up, push_cast]) (by simp [namesOk, push_cast]) (by simp [olds])
  · intro j hj
    replace hj : j ≤ 2 * K := hj
    refine Nav.imp ?_
    by_cases hlt : j < 2 * K
    · have q1 : y - (K : Int) + 1 + j ≤ y + K := by omega
      have e4 := wrap_i64 (n := y - (K : Int) + 1 + j + 1) (by omega) (by omega)
      have hl := look_mp (y - K + 1 + j) M
      have hA := hok j
      have hB := hM (y - K + 1 + j)
      have c1 := hg (W j) (mget M (y - K + 1 + j)) (by have := hA.len; omega) (by have := hB.len; omega) hA.rv hB.rv
      rw [← hs j] at c1
      refine awp_region cx [] fun K hK => ?_
      simp [push_cast, e3]
      repeat (refine And.intro (by clear hK; intros; first | omega | (simp_all; done) | (simp_all <;> omega)) ?_)
      refine hK _ ?_; clear hK K; refine Nav.imp ?_
      refine awp_cond (b := true) (by simp [push_cast, q1]) (fun hb => ?_) (fun hb => ?_) <;> (refine Nav.imp ?_)
      · refine awp_region cx [(6, .p (encRuns (mget M (y - K + 1 + j)))), (7, .p (encRuns (W (j + 1))))] fun K hK => ?_
        simp [push_cast, hl, c1]
        repeat (refine And.intro (by clear hK; intros; first | omega | (simp_all; done) | (simp_all <;> omega)) ?_)
        refine hK _ ?_; clear hK K; refine Nav.imp ?_
        refine awp_region cx [] fun K hK => ?_
        simp [push_cast, e4]
        repeat (refine And.intro (by clear hK; intros; first | omega | (simp_all; done) | (simp_all <;> omega)) ?_)
        refine hK _ ?_; clear hK K; refine Nav.imp ?_
        refine ⟨j + 1, by show j + 1 ≤ 2 * K; omega, by show 2 * K - (j + 1) < 2 * K - j; omega, ?_⟩
        refine weak_of [(0, some 0)] rfl (by simp [upT, up, upL, push_cast, Int.add_assoc]) (by simp [upH, upR, upL, up, push_cast, Int.add_assoc]) (by simp [namesOk, push_cast]) (by simp [olds])
      · simp at hb
    · have hje : j = 2 * K := by omega
      subst hje
      have q1 : y + (K : Int) < y - K + 1 + 2 * K := by omega
      refine awp_region cx [] fun K hK => ?_
      simp [push_cast, e3]
      repeat (refine And.intro (by clear hK; intros; first | omega | (simp_all; done) | (simp_all <;> omega)) ?_)
      refine hK _ ?_; clear hK K; refine Nav.imp ?_
      refine awp_cond (b := false) (by simp [push_cast, q1]) (fun hb => ?_) (fun hb => ?_) <;> (refine Nav.imp ?_)
      · simp at hb
      · refine awp_region cx [] fun K hK => ?_
        simp [push_cast]
        repeat (refine And.intro (by clear hK; intros; first | omega | (simp_all; done) | (simp_all <;> omega)) ?_)
        refine hK _ ?_; clear hK K; refine Nav.imp ?_
        simp [push_cast]
end Go.Proofs.YtagakfaiimaifaaGreat

set_option linter.unusedVariables false
set_option linter.unusedSimpArgs false
set_option maxRecDepth 100000
namespace Go.Proofs.YtagakfaiimaifaaGreat
open Go.Abs

/-! A map of a region's rows. Erosion. -/
def rowMap (F : List Run → List Run) (R : List Row) : List (Int × List Run) := R.foldl (fun M w => putL M w.y (F w.runs)) []
theorem rowMap_take {F : List Run → List Run} {R : List Row} {i : Nat} {w : Row} (h : R[i]? = some w) : rowMap F (R.take (i + 1)) = putL (rowMap F (R.take i)) w.y (F w.runs) := by simp [rowMap, take_get h]
theorem rowOf_cons (w : Row) (R : List Row) (y : Int) : rowOf (w :: R) y = if w.y = y then w.runs else rowOf R y := by
  unfold rowOf
  rw [List.find?_cons]
  by_cases h : w.y = y <;> simp [h]
theorem rowMap_from (F : List Run → List Run) : ∀ (R : List Row) (M : List (Int × List Run)) (y : Int), (R.Pairwise fun a b => a.y < b.y) →
    mget (R.foldl (fun M w => putL M w.y (F w.runs)) M) y = if (∃ w ∈ R, w.y = y) then F (rowOf R y) else mget M y
  | [], M, y, _ => by simp
  | w :: R, M, y, h => by
    obtain ⟨h1, h2⟩ := List.pairwise_cons.1 h
    rw [List.foldl_cons, rowMap_from F R _ y h2, rowOf_cons, mget_put]
    by_cases hr : ∃ v ∈ R, v.y = y
    · obtain ⟨v, hv, e⟩ := hr
      have hne : w.y ≠ y := by have := h1 v hv; omega
      rw [if_pos ⟨v, hv, e⟩, if_pos ⟨v, by simp [hv], e⟩, if_neg hne]
    · rw [if_neg hr]
      by_cases e : w.y = y
      · rw [if_pos e.symm, if_pos ⟨w, by simp, e⟩, if_pos e]
      · rw [if_neg (Ne.symm e), if_neg]
        rintro ⟨v, hv, e'⟩
        rcases List.mem_cons.1 hv with rfl | hv
        · exact e e'
        · exact hr ⟨v, hv, e'⟩
theorem rowMap_get {F : List Run → List Run} (h0 : F [] = []) {R : List Row} (hv : R.Pairwise fun a b => a.y < b.y) (y : Int) : mget (rowMap F R) y = F (rowOf R y) := by
  unfold rowMap
  rw [rowMap_from F R [] y hv]
  split
  · rfl
  · rename_i h
    rw [rowOf_none (fun w hw e => h ⟨w, hw, e⟩), h0]
    rfl

theorem mem_shrK {K : Int} {l : List Run} {q : Run} : q ∈ shrK K l ↔ ∃ r ∈ l, r.a + K < r.b - K ∧ q = ⟨r.a + K, r.b - K⟩ := by
  unfold shrK shrRun
  rw [List.mem_flatMap]
  refine exists_congr fun r => and_congr_right fun _ => ?_
  split
  · rename_i h; simp [h]
  · rename_i h; simp [h]
theorem shrK_in {K : Int} {l : List Run} {x : Int} : inR (shrK K l) x = true ↔ ∃ r ∈ l, r.a + K ≤ x ∧ x < r.b - K := by
  rw [inR_iff]
  constructor
  · rintro ⟨q, hq, h⟩
    obtain ⟨r, hr, _, rfl⟩ := mem_shrK.1 hq
    exact ⟨r, hr, h⟩
  · rintro ⟨r, hr, h1, h2⟩
    exact ⟨_, mem_shrK.2 ⟨r, hr, by omega, rfl⟩, h1, h2⟩
theorem shrK_ok {K : Int} (hK : 0 ≤ K) {l : List Run} (h : Apart l) (hb : ∀ r ∈ l, -4096 ≤ r.a ∧ r.b ≤ 4096) : OkL (shrK K l) := by
  refine ⟨⟨fun q hq => ?_, ?_⟩, fun q hq => ?_⟩
  · obtain ⟨r, hr, h1, rfl⟩ := mem_shrK.1 hq; exact h1
  · refine flat_pw (P := fun p r => p.b < r.a) (fun r => shrRun_len K r) (fun a b x y hab hx hy => ?_) h.2
    unfold shrRun at hx hy
    split at hx <;> simp at hx
    split at hy <;> simp at hy
    subst hx; subst hy
    simp only; omega
  · obtain ⟨r, hr, h1, rfl⟩ := mem_shrK.1 hq
    have := hb r hr
    simp only; omega
/-- A number lies in the shortened runs exactly if all numbers around it lie in the runs. -/
theorem shrK_all {K : Nat} {l : List Run} (h : Apart l) (x : Int) : inR (shrK K l) x = true ↔ ∀ d : Int, -K ≤ d → d ≤ K → inR l (x + d) = true := by
  rw [shrK_in]
  constructor
  · rintro ⟨r, hr, h1, h2⟩ d d1 d2
    exact inR_iff.2 ⟨r, hr, by omega, by omega⟩
  · intro hall
    obtain ⟨r, hr, h1, h2⟩ := inR_iff.1 (hall (-K) (by omega) (by omega))
    refine ⟨r, hr, by omega, ?_⟩
    apply Classical.byContradiction
    intro hn
    obtain ⟨p, hp, h3, h4⟩ := inR_iff.1 (hall (r.b - x) (by omega) (by omega))
    have hrb := h.1 r hr
    have hpb := h.1 p hp
    have hne : r ≠ p := by rintro rfl; omega
    obtain ⟨i, hi⟩ := List.getElem?_of_mem hr
    obtain ⟨j, hj⟩ := List.getElem?_of_mem hp
    have hpw := List.pairwise_iff_getElem.1 h.2
    obtain ⟨hi1, hi2⟩ := List.getElem?_eq_some_iff.1 hi
    obtain ⟨hj1, hj2⟩ := List.getElem?_eq_some_iff.1 hj
    rcases (by omega : i < j ∨ i = j ∨ j < i) with q | q | q
    · have := hpw i j hi1 hj1 q; rw [hi2, hj2] at this; omega
    · subst q; rw [hi2] at hj2; exact hne hj2
    · have := hpw j i hj1 hi1 q; rw [hi2, hj2] at this; omega

def shrF (K : Nat) (l : List Run) : List Run := shrB l K
theorem shrF_nil (K : Nat) : shrF K [] = [] := by unfold shrF shrB shrK; simp
theorem shrF_eq {l : List Run} (h : rvalid l = true) {K : Nat} (hK : K ≤ 64) : shrF K l = shrK K l := by
  unfold shrF shrB
  rw [if_pos (by rw [h]; simp; omega)]
theorem rowOf_apart {R : List Row} (hv : validR R = true) (y : Int) : Apart (rowOf R y) ∧ ∀ r ∈ rowOf R y, -4096 ≤ r.a ∧ r.b ≤ 4096 := by
  rcases rowOf_cases hv y with ⟨w, hw, _, e⟩ | ⟨_, e⟩
  · rw [e]; exact (fine_apart.1 (row_fine hv hw).2).2
  · rw [e]; exact ⟨⟨by simp, by simp⟩, by simp⟩
theorem eroM_get {R : List Row} (hv : validR R = true) {K : Nat} (hK : K ≤ 64) (y : Int) : mget (rowMap (shrF K) R) y = shrK K (rowOf R y) := by
  rw [rowMap_get (shrF_nil K) (validR_pw.1 hv).2, shrF_eq (rowOf_rv hv y) hK]
theorem eroM_ok {R : List Row} (hv : validR R = true) {K : Nat} (hK : K ≤ 64) : OkM (rowMap (shrF K) R) := fun y => by
  rw [eroM_get hv hK]
  exact shrK_ok (by omega) (rowOf_apart hv y).1 (rowOf_apart hv y).2

def eroF (R : List Row) (K : Nat) (w : Row) : List Run := rowW fI (rowMap (shrF K) R) w.y K
def eroR (R : List Row) (k : Int) : List Row := if reachB R k then mapR (eroF R k.toNat) R else []
def aroundC (R : List Row) (K : Nat) (c : Cell) : Prop := ∀ dx dy : Int, -K ≤ dx → dx ≤ K → -K ≤ dy → dy ≤ K → (⟨c.x + dx, c.y + dy⟩ : Cell) ∈ regCells R
theorem eroF_in {R : List Row} (hv : validR R = true) {K : Nat} (hK : K ≤ 64) (w : Row) (x : Int) : inR (eroF R K w) x = true ↔ aroundC R K ⟨x, w.y⟩ := by
  unfold eroF rowW
  rw [wj_I (eroM_ok hv hK)]
  constructor
  · intro h dx dy h1 h2 h3 h4
    have h5 := h (dy + K).toNat (by omega)
    rw [show w.y - (K : Int) + ((dy + K).toNat : Int) = w.y + dy by omega, eroM_get hv hK, shrK_all (rowOf_apart hv _).1] at h5
    exact (rowOf_in hv ⟨x + dx, w.y + dy⟩).2 (h5 dx h1 h2)
  · intro h i hi
    rw [eroM_get hv hK, shrK_all (rowOf_apart hv _).1]
    intro d h1 h2
    have h5 := h d (i - K) h1 h2 (by omega) (by omega)
    have h6 := (rowOf_in hv _).1 h5
    rw [show w.y - (K : Int) + (i : Int) = w.y + ((i : Int) - K) by omega]
    exact h6
theorem eroF_ok {R : List Row} (hv : validR R = true) {K : Nat} (hK : K ≤ 64) (w : Row) : OkL (eroF R K w) := wj_ok rfl (eroM_ok hv hK) _ _
theorem ero_facts {R : List Row} {k : Int} (h : reachB R k = true) : validR (eroR R k) = true ∧ ∀ c, c ∈ regCells (eroR R k) ↔ aroundC R k.toNat c := by
  have e : eroR R k = mapR (eroF R k.toNat) R := by unfold eroR; rw [if_pos h]
  simp only [reachB, Bool.and_eq_true, decide_eq_true_eq] at h
  obtain ⟨⟨k1, k2⟩, hv⟩ := h
  have hK : k.toNat ≤ 64 := by omega
  rw [e]
  refine ⟨mapR_valid hv fun w hw hne => fine_apart.2 ⟨hne, (eroF_ok hv hK w).1, apart_bounds (eroF_ok hv hK w).1 fun x hx => ?_⟩, fun c => ?_⟩
  · have := (eroF_in hv hK w x).1 hx 0 0 (by omega) (by omega) (by omega) (by omega)
    have := onG_bd (cells_on hv this)
    simp only at this; omega
  · rw [mapR_cells]
    constructor
    · rintro ⟨w, hw, hy, hr⟩
      have := (eroF_in hv hK w c.x).1 hr
      rw [← hy] at this; exact this
    · intro hc
      have h0 := hc 0 0 (by omega) (by omega) (by omega) (by omega)
      obtain ⟨w, hw, hy, _⟩ := mem_regCells.1 h0
      simp only [Int.add_zero] at hy
      refine ⟨w, hw, hy, (eroF_in hv hK w c.x).2 ?_⟩
      rw [← hy]; exact hc
theorem ero_valid (R : List Row) (k : Int) : validR (eroR R k) = true := by
  cases h : reachB R k with
  | true => exact (ero_facts h).1
  | false => unfold eroR; rw [h]; rfl

set_option maxHeartbeats 4000000 in
theorem erode_ok (R : List Row) (k : Int) (hR : bigR R) : PC Tryz.prog 64 [.agg (regRow R), .int .i64 k] (.p (.agg (regRow (eroR R k)))) := by
  have c0 := mvalid_big R k hR
  have hE : eroR R k = if reachB R k then mapR (eroF R k.toNat) R else [] := rfl
  cases hq : reachB R k with
  | false =>
    rw [hq] at c0 hE
    rw [hE]
    refine pc_of_awp cx (fn := Tryz.f64) (c := _) Tryz.func64 rfl rfl (Nat.le_of_ble_eq_true rfl) ?_
    rw [Tryz.ntmps64]; refine Nav.imp ?_
    refine awp_region cx [] fun K hK => ?_
    simp [push_cast]
    repeat (refine And.intro (by clear hK; intros; first | omega | (simp_all; done) | (simp_all <;> omega)) ?_)
    refine hK _ ?_; clear hK K; refine Nav.imp ?_
    refine awp_region cx [] fun K hK => ?_
    simp [push_cast]
    repeat (refine And.intro (by clear hK; intros; first | omega | (simp_all; done) | (simp_all <;> omega)) ?_)
    refine hK _ ?_; clear hK K; refine Nav.imp ?_
    refine awp_region cx [(2, .p (.bool false))] fun K hK => ?_
    simp [push_cast, c0]
    repeat (refine And.intro (by clear hK; intros; first | omega | (simp_all; done) | (simp_all <;> omega)) ?_)
    refine hK _ ?_; clear hK K; refine Nav.imp ?_
    refine awp_cond (b := true) (by simp [push_cast]) (fun hb => ?_) (fun hb => ?_) <;> (refine Nav.imp ?_)
    · refine awp_region cx [] fun K hK => ?_
      simp [push_cast]
      repeat (refine And.intro (by clear hK; intros; first | omega | (simp_all; done) | (simp_all <;> omega)) ?_)
      refine hK _ ?_; clear hK K; refine Nav.imp ?_
      simp [push_cast]
    · simp at hb
  | true =>
    rw [hq] at c0 hE
    rw [if_pos rfl] at hE
    simp only [reachB, Bool.and_eq_true, decide_eq_true_eq] at hq
    obtain ⟨⟨k1, k2⟩, hv⟩ := hq
    replace hR := small_valid hv
    have hl := hR.1
    obtain ⟨K, rfl⟩ : ∃ K : Nat, k = K := ⟨k.toNat, by omega⟩
    have hK : K ≤ 64 := by omega
    rw [Int.toNat_natCast] at hE
    rw [hE]
    clear hE
    have hFd : ∀ w : Row, eroF R K w = rowW fI (rowMap (shrF K) R) w.y K := fun w => rfl
    have hFok := fun w => eroF_ok hv hK w
    have hMok := eroM_ok hv hK
    have hMt := fun i w => @rowMap_take (shrF K) R i w
    have hM0 : rowMap (shrF K) (R.take 0) = [] := rfl
    have hMe : rowMap (shrF K) (R.take R.length) = rowMap (shrF K) R := by rw [List.take_length]
    have hFt := fun i w => @mapR_take (eroF R K) R i w
    have hFl := fun i => mapR_len (eroF R K) (R.take i)
    have hF0 : mapR (eroF R K) (R.take 0) = [] := rfl
    have hFe : mapR (eroF R K) (R.take R.length) = mapR (eroF R K) R := by rw [List.take_length]
    have hFr : ∀ w, mapRow (eroF R K) w = if eroF R K w = [] then [] else [⟨w.y, eroF R K w⟩] := fun w => rfl
    generalize eroF R K = F at *
    generalize hMM : rowMap (shrF K) R = MM at *
    refine pc_of_awp cx (fn := Tryz.f64) (c := _) Tryz.func64 rfl rfl (Nat.le_of_ble_eq_true rfl) ?_
    rw [Tryz.ntmps64]; refine Nav.imp ?_
    refine awp_region cx [] fun K hK => ?_
    simp [push_cast]
    repeat (refine And.intro (by clear hK; intros; first | omega | (simp_all; done) | (simp_all <;> omega)) ?_)
    refine hK _ ?_; clear hK K; refine Nav.imp ?_
    refine awp_region cx [] fun K hK => ?_
    simp [push_cast]
    repeat (refine And.intro (by clear hK; intros; first | omega | (simp_all; done) | (simp_all <;> omega)) ?_)
    refine hK _ ?_; clear hK K; refine Nav.imp ?_
    refine awp_region cx [(2, .p (.bool true))] fun K hK => ?_
    simp [push_cast, c0]
    repeat (refine And.intro (by clear hK; intros; first | omega | (simp_all; done) | (simp_all <;> omega)) ?_)
    refine hK _ ?_; clear hK K; refine Nav.imp ?_
    refine awp_cond (b := false) (by simp [push_cast]) (fun hb => ?_) (fun hb => ?_) <;> (refine Nav.imp ?_)
    · simp at hb
    · refine awp_region cx [] fun K hK => ?_
      simp [push_cast, mp_nil]
      repeat (refine And.intro (by clear hK; intros; first | omega | (simp_all; done) | (simp_all <;> omega)) ?_)
      refine hK _ ?_; clear hK K; refine Nav.imp ?_
      refine awp_region cx [] fun K hK => ?_
      simp [push_cast]
      repeat (refine And.intro (by clear hK; intros; first | omega | (simp_all; done) | (simp_all <;> omega)) ?_)
      refine hK _ ?_; clear hK K; refine Nav.imp ?_
      refine awp_loop (β := Nat × List (Int × List Run)) (fun b => ⟨63, [(1, .d (.int .i64 K)), (2, .ptr 0 0 0), (4, .ptr 1 0 0), (5, .ptr 2 0 0), (6, .ptr 4 0 0), (20, .d (encRows R)), (21, .d (.int .i64 R.length)), (22, .d (.int .i64 b.1))], [(0, some ⟨24, 1, [(regRow R).map .d]⟩), (1, some ⟨24, 1, [[.nl]]⟩), (2, some ⟨24, 1, [[.nl]]⟩), (3, some ⟨138, mapM, dr (mpRows b.2)⟩), (4, some ⟨140, 2, [[.hm 3, .d (.fn (.func 103) [])]]⟩)], 5⟩) (fun b => b.1 ≤ R.length ∧ b.2 = rowMap (shrF K) (R.take b.1)) (fun b => R.length - b.1) (0, []) ?_ ⟨Nat.zero_le _, hM0.symm⟩ ?_
      · refine weak_of [(0, some 0), (1, some 1), (2, some 2), (3, some 7), (4, some 9)] rfl (by simp [upT, up, upL, push_cast, mp_nil]) (by simp [upH, upR, upL, up, push_cast, mp_nil]) (by simp [namesOk, push_cast]) (by simp [olds])
      · rintro ⟨i, M⟩ ⟨hi, hM⟩
        simp only at hi hM
        refine Nav.imp ?_
        refine awp_region cx [] fun K hK => ?_
        simp [push_cast]
        repeat (refine And.intro (by clear hK; intros; first | omega | (simp_all; done) | (simp_all <;> omega)) ?_)
        refine hK _ ?_; clear hK K; refine Nav.imp ?_
        refine awp_cond (b := decide ((i : Int) < R.length)) (by simp [push_cast]) (fun hb => ?_) (fun hb => ?_) <;> (refine Nav.imp ?_)
        · have hlt : i < R.length := by simpa using hb
          obtain ⟨w, hw⟩ := getq hlt
          have e0 := wrap_i64 (n := (i : Int) + 1) (by omega) (by omega)
          have hwl := hR.2 w (List.mem_of_getElem? hw)
          have c1 := shrink_ok w.runs K hwl
          have hsf : shrB w.runs K = shrF K w.runs := rfl
          rw [hsf] at c1
          have hnx := hMt i w hw
          rw [← hM] at hnx
          clear hsf
          generalize shrF K w.runs = s at *
          have hput := putR_mp w.y s M
          refine awp_region cx [] fun K hK => ?_
          simp [push_cast, hw, Row.row]
          repeat (refine And.intro (by clear hK; intros; first | omega | (simp_all; done) | (simp_all <;> omega)) ?_)
          refine hK _ ?_; clear hK K; refine Nav.imp ?_
          refine awp_region_draw cx mixed [(7, .p (encRuns s))] fun K hK => ?_
          simp [push_cast, c1, hput, Row.row]
          repeat (refine And.intro (by clear hK; intros; first | omega | (simp_all; done) | (simp_all <;> omega)) ?_)
          refine hK _ _ (by kernel_rfl) ?_; clear hK K; refine Nav.imp ?_
          refine awp_region cx [] fun K hK => ?_
          simp [push_cast, e0]
          repeat (refine And.intro (by clear hK; intros; first | omega | (simp_all; done) | (simp_all <;> omega)) ?_)
          refine hK _ ?_; clear hK K; refine Nav.imp ?_
          refine ⟨(i + 1, putL M w.y s), ⟨hlt, hnx.symm⟩, by simp only; omega, ?_⟩
          refine weak_of [(0, some 0), (1, some 1), (2, some 2), (3, some 3), (4, some 4)] rfl (by simp [upT, up, upL, push_cast]) (by simp [upH, upR, upL, up, push_cast]) (by simp [namesOk, push_cast]) (by simp [olds])
        · have hge : i = R.length := by simp at hb; omega
          subst hge
          rw [hMe] at hM
          subst hM
          refine awp_freeze 3 (mpRows M) rfl (by simp [push_cast]) fun K hK => ?_
          simp [push_cast, St.fz, fzT, fzH, fzO, fz, fzL, fzR, fzR_dr, fzR_app, fzR_set, fzL_map]
          refine hK _ ?_; clear hK K; refine Nav.imp ?_
          refine awp_region cx [] fun K hK => ?_
          simp [push_cast]
          repeat (refine And.intro (by clear hK; intros; first | omega | (simp_all; done) | (simp_all <;> omega)) ?_)
          refine hK _ ?_; clear hK K; refine Nav.imp ?_
          refine awp_loop (β := Nat × List Row) (fun s => ⟨63, [(1, .d (.int .i64 K)), (4, .ptr 1 0 0), (5, .ptr 2 0 0), (6, .ptr 4 0 0), (36, .d (encRows R)), (37, .d (.int .i64 R.length)), (38, .d (.int .i64 s.1))], [(1, some ⟨24, 1, [[.nl]]⟩), (2, some ⟨24, 1, [[.hs 3 0 s.2.length]]⟩), (3, some ⟨52, 2, dr (s.2.map Row.row)⟩), (4, some ⟨140, 2, [[.d (.mp (mpRows M)), .d (.fn (.func 103) [])]]⟩)], 5⟩) (fun s => s.1 ≤ R.length ∧ s.2 = mapR F (R.take s.1)) (fun s => R.length - s.1) (0, []) ?_ ⟨Nat.zero_le _, hF0.symm⟩ ?_
          · refine weak_of [(1, some 1), (2, some 2), (3, none), (4, some 4)] rfl (by simp [upT, up, upL, push_cast]) (by simp [upH, upR, upL, up, push_cast]) (by simp [namesOk, push_cast]) (by simp [olds])
          · rintro ⟨i, Z⟩ ⟨hi, hZ⟩
            simp only at hi hZ
            refine Nav.imp ?_
            refine awp_region cx [] fun K hK => ?_
            simp [push_cast]
            repeat (refine And.intro (by clear hK; intros; first | omega | (simp_all; done) | (simp_all <;> omega)) ?_)
            refine hK _ ?_; clear hK K; refine Nav.imp ?_
            refine awp_cond (b := decide ((i : Int) < R.length)) (by simp [push_cast]) (fun hb => ?_) (fun hb => ?_) <;> (refine Nav.imp ?_)
            · have hlt : i < R.length := by simpa using hb
              obtain ⟨w, hw⟩ := getq hlt
              have hwm := List.mem_of_getElem? hw
              have e0 := wrap_i64 (n := (i : Int) + 1) (by omega) (by omega)
              have hwb := (validR_at hv hw).1
              have c2 := wrow_ok fI rfl 103 (fun a b h1 h2 h3 h4 => intersect_ok a b h1 h2 h3 h4) M hMok w.y K (by omega) hK
              rw [← hFd w] at c2
              have hul := (hFok w).len
              have hnx := hFt i w hw
              rw [hFr, ← hZ] at hnx
              have hZl : Z.length ≤ 1000000 := by have := hFl i; rw [← hZ] at this; simp at this; omega
              have hZ32 : (Z.length + 1) * 32 ≤ 140737488355328 := by omega
              have hu16 : (0 + (F w).length) * 16 ≤ 140737488355328 := by omega
              generalize F w = u at *
              refine awp_region cx [] fun K hK => ?_
              simp [push_cast, hw, Row.row]
              repeat (refine And.intro (by clear hK; intros; first | omega | (simp_all; done) | (simp_all <;> omega)) ?_)
              refine hK _ ?_; clear hK K; refine Nav.imp ?_
              refine awp_region cx [(4, .p (encRuns u))] fun K hK => ?_
              simp [push_cast, c2, Row.row]
              repeat (refine And.intro (by clear hK; intros; first | omega | (simp_all; done) | (simp_all <;> omega)) ?_)
              refine hK _ ?_; clear hK K; refine Nav.imp ?_
              refine awp_region cx [] fun K hK => ?_
              simp [push_cast]
              repeat (refine And.intro (by clear hK; intros; first | omega | (simp_all; done) | (simp_all <;> omega)) ?_)
              refine hK _ ?_; clear hK K; refine Nav.imp ?_
              cases hu : u with
              | nil =>
                rw [hu] at hnx
                simp only [if_true, List.append_nil] at hnx
                refine awp_cond (b := false) (by simp [push_cast, hu]) (fun hb => ?_) (fun hb => ?_) <;> (refine Nav.imp ?_)
                · simp at hb
                · refine awp_region cx [] fun K hK => ?_
                  simp [push_cast, e0]
                  repeat (refine And.intro (by clear hK; intros; first | omega | (simp_all; done) | (simp_all <;> omega)) ?_)
                  refine hK _ ?_; clear hK K; refine Nav.imp ?_
                  refine ⟨(i + 1, Z), ⟨hlt, hnx.symm⟩, by simp only; omega, ?_⟩
                  refine weak_of [(1, some 1), (2, some 2), (3, some 3), (4, some 4)] rfl (by simp [upT, up, upL, push_cast]) (by simp [upH, upR, upL, up, push_cast]) (by simp [namesOk, push_cast]) (by simp [olds])
              | cons q u' =>
                have hne : ¬ u = [] := by rw [hu]; simp
                have hpos : 0 < u.length := by rw [hu]; simp
                rw [if_neg hne] at hnx
                rw [← hu]
                clear hu
                refine awp_cond (b := true) (by simp [push_cast, hpos]) (fun hb => ?_) (fun hb => ?_) <;> (refine Nav.imp ?_)
                · refine awp_region_draw cx mixed [] fun K hK => ?_
                  simp [push_cast, hZ32, hu16, Row.row]
                  repeat (refine And.intro (by clear hK; intros; first | omega | (simp_all; done) | (simp_all <;> omega)) ?_)
                  refine hK _ _ (by kernel_rfl) ?_; clear hK K; refine Nav.imp ?_
                  refine awp_freeze 25 (u.map Run.row) rfl (by simp [push_cast]) fun K hK => ?_
                  simp [push_cast, St.fz, fzT, fzH, fzO, fz, fzL, fzR, fzR_dr, fzR_app, fzR_set, fzL_map]
                  refine hK _ ?_; clear hK K; refine Nav.imp ?_
                  refine awp_region cx [] fun K hK => ?_
                  simp [push_cast, e0]
                  repeat (refine And.intro (by clear hK; intros; first | omega | (simp_all; done) | (simp_all <;> omega)) ?_)
                  refine hK _ ?_; clear hK K; refine Nav.imp ?_
                  refine ⟨(i + 1, Z ++ [⟨w.y, u⟩]), ⟨hlt, hnx.symm⟩, by simp only; omega, ?_⟩
                  refine weak_of [(1, some 1), (2, some 2), (3, some 28), (4, some 4)] rfl (by simp [upT, up, upL, push_cast, Row.row]) (by simp [upH, upR, upL, up, push_cast, Row.row]) (by simp [namesOk, push_cast]) (by simp [olds])
                · simp at hb
            · have hge : i = R.length := by simp at hb; omega
              subst hge
              rw [hFe] at hZ
              rw [← hZ]
              have ht2 : List.take Z.length (Z.map Row.row) = Z.map Row.row := List.take_of_length_le (by simp)
              refine awp_freeze 3 (Z.map Row.row) rfl (by simp [push_cast, Row.row, ht2]) fun K hK => ?_
              simp [push_cast, St.fz, fzT, fzH, fzO, fz, fzL, fzR, fzR_dr, fzR_app, fzR_set, fzL_map, Row.row, ht2]
              refine hK _ ?_; clear hK K; refine Nav.imp ?_
              refine awp_region cx [] fun K hK => ?_
              simp [push_cast]
              repeat (refine And.intro (by clear hK; intros; first | omega | (simp_all; done) | (simp_all <;> omega)) ?_)
              refine hK _ ?_; clear hK K; refine Nav.imp ?_
              simp [push_cast]
end Go.Proofs.YtagakfaiimaifaaGreat

set_option linter.unusedVariables false
set_option linter.unusedSimpArgs false
set_option maxRecDepth 100000
namespace Go.Proofs.YtagakfaiimaifaaGreat
open Go.Abs

theorem nb_prev {R : List Row} (hv : validR R = true) {i : Nat} {w v : Row} (hi : R[i]? = some w) (hm : v ∈ R) (h : v.y = w.y - 1) : 0 < i ∧ R[i - 1]? = some v := by
  obtain ⟨j, hj⟩ := List.mem_iff_getElem?.1 hm
  have hji : j < i := by
    apply Nat.lt_of_not_le
    intro hle
    by_cases e : i = j
    · subst e; rw [hi] at hj; cases hj; omega
    · have := rows_lt hv j i v w (by omega) hj hi; omega
  have : j = i - 1 := by
    by_cases e : j = i - 1
    · exact e
    · obtain ⟨u, hu⟩ := getq (show i - 1 < R.length by have := (List.getElem?_eq_some_iff.1 hi).1; omega)
      have h1 := rows_lt hv (i - 1) j u v (by omega) hu hj
      have h2 := rows_lt hv i (i - 1) w u (by omega) hi hu
      omega
  exact ⟨by omega, this ▸ hj⟩
theorem nb_next {R : List Row} (hv : validR R = true) {i : Nat} {w v : Row} (hi : R[i]? = some w) (hm : v ∈ R) (h : v.y = w.y + 1) : R[i + 1]? = some v := by
  obtain ⟨j, hj⟩ := List.mem_iff_getElem?.1 hm
  have hji : i < j := by
    apply Nat.lt_of_not_le
    intro hle
    by_cases e : i = j
    · subst e; rw [hi] at hj; cases hj; omega
    · have := rows_lt hv i j w v (by omega) hi hj; omega
  have : j = i + 1 := by
    by_cases e : j = i + 1
    · exact e
    · obtain ⟨u, hu⟩ := getq (show i + 1 < R.length by have := (List.getElem?_eq_some_iff.1 hj).1; omega)
      have h1 := rows_lt hv j (i + 1) v u (by omega) hj hu
      have h2 := rows_lt hv (i + 1) i u w (by omega) hu hi
      omega
  exact this ▸ hj
theorem apart_nil {l : List Run} (h : Apart l) (h2 : ∀ x, inR l x = false) : l = [] := apart_uniq h ⟨by simp, by simp⟩ fun y => by rw [h2]; rfl
theorem around_row {R : List Row} {x y : Int} (h : aroundC R 1 ⟨x, y⟩) (dy : Int) (h1 : -1 ≤ dy) (h2 : dy ≤ 1) : ∃ v ∈ R, v.y = y + dy := by
  obtain ⟨v, hv, e, _⟩ := mem_regCells.1 (h 0 dy (by simp) (by simp) (by simpa using h1) (by simpa using h2))
  exact ⟨v, hv, e.symm⟩
theorem ero_none {R : List Row} (hv : validR R = true) {i : Nat} {w : Row} (hi : R[i]? = some w) (h : ¬ ((∃ p, 0 < i ∧ R[i - 1]? = some p ∧ p.y = w.y - 1) ∧ ∃ n, R[i + 1]? = some n ∧ n.y = w.y + 1)) : eroF R 1 w = [] := by
  refine apart_nil (eroF_ok hv (by omega) w).1 fun x => ?_
  rw [Bool.eq_false_iff]
  intro hx
  have ha := (eroF_in hv (by omega) w x).1 hx
  obtain ⟨p, hp, ep⟩ := around_row ha (-1) (by omega) (by omega)
  obtain ⟨n, hn, en⟩ := around_row ha 1 (by omega) (by omega)
  obtain ⟨q1, q2⟩ := nb_prev hv hi hp (by omega)
  exact h ⟨⟨p, q1, q2, by omega⟩, ⟨n, nb_next hv hi hn (by omega), by omega⟩⟩
theorem ero_both {R : List Row} (hv : validR R = true) {i : Nat} {w p n : Row} (hi : R[i]? = some w) (hp : R[i - 1]? = some p) (hn : R[i + 1]? = some n) (ep : p.y = w.y - 1) (en : n.y = w.y + 1) : eroF R 1 w = sweep fI (sweep fI (shrK 1 w.runs) (shrK 1 p.runs)) (shrK 1 n.runs) ∧ rvalid (shrK 1 w.runs) = true ∧ rvalid (shrK 1 p.runs) = true ∧ rvalid (shrK 1 n.runs) = true ∧ rvalid (sweep fI (shrK 1 w.runs) (shrK 1 p.runs)) = true ∧ (sweep fI (shrK 1 w.runs) (shrK 1 p.runs)).length ≤ 8320 := by
  have hw' := List.mem_of_getElem? hi
  have hp' := List.mem_of_getElem? hp
  have hn' := List.mem_of_getElem? hn
  have ok : ∀ v ∈ R, OkL (shrK 1 v.runs) ∧ ∀ x, inR (shrK 1 v.runs) x = true ↔ ∀ d : Int, -1 ≤ d → d ≤ 1 → (⟨x + d, v.y⟩ : Cell) ∈ regCells R := fun v hvm => by
    obtain ⟨a1, a2⟩ := rowOf_apart hv v.y
    rw [rowOf_mem hv hvm] at a1 a2
    refine ⟨shrK_ok (K := 1) (by omega) a1 a2, fun x => ?_⟩
    rw [show (1 : Int) = ((1 : Nat) : Int) from rfl, shrK_all (K := 1) a1]
    constructor
    · intro h d h1 h2
      rw [rowOf_in hv, rowOf_mem hv hvm]
      exact h d (by simpa using h1) (by simpa using h2)
    · intro h d h1 h2
      have := h d (by simpa using h1) (by simpa using h2)
      rwa [rowOf_in hv, rowOf_mem hv hvm] at this
  obtain ⟨w1, w2⟩ := ok w hw'
  obtain ⟨p1, p2⟩ := ok p hp'
  obtain ⟨n1, n2⟩ := ok n hn'
  have s1 := sweep_facts (f := fI) rfl w1.rv p1.rv
  have r1 : rvalid (sweep fI (shrK 1 w.runs) (shrK 1 p.runs)) = true := sweep_valid rfl w1.rv p1.rv
  have s2 := sweep_facts (f := fI) rfl r1 n1.rv
  refine ⟨?_, w1.rv, p1.rv, n1.rv, r1, (w1.sweep rfl p1).len⟩
  refine apart_uniq (eroF_ok hv (by omega) w).1 s2.1 fun x => ?_
  rw [Bool.eq_iff_iff, eroF_in hv (by omega), s2.2, s1.2]
  simp only [fI, Bool.and_eq_true, w2, p2, n2]
  constructor
  · intro h
    refine ⟨⟨fun d h1 h2 => ?_, fun d h1 h2 => ?_⟩, fun d h1 h2 => ?_⟩
    · have := h d 0 (by simpa using h1) (by simpa using h2) (by simp) (by simp)
      simpa using this
    · have := h d (-1) (by simpa using h1) (by simpa using h2) (by simp) (by simp)
      rw [ep]
      exact this
    · have := h d 1 (by simpa using h1) (by simpa using h2) (by simp) (by simp)
      rw [en]
      exact this
  · rintro ⟨⟨h1, h2⟩, h3⟩ dx dy q1 q2 q3 q4
    have q1 : -1 ≤ dx := by simpa using q1
    have q2 : dx ≤ 1 := by simpa using q2
    have q3 : -1 ≤ dy := by simpa using q3
    have q4 : dy ≤ 1 := by simpa using q4
    have hdy : dy = -1 ∨ dy = 0 ∨ dy = 1 := by omega
    rcases hdy with rfl | rfl | rfl
    · have := h2 dx q1 q2
      rw [ep] at this
      exact this
    · have := h1 dx q1 q2
      simpa using this
    · have := h3 dx q1 q2
      rw [en] at this
      exact this
theorem shr_len {K : Int} {l : List Run} : (shrK K l).length ≤ l.length := flat_one_len (shrRun_len K) l

theorem reach20_ok : PC Tryz.prog 106 [.int .i64 1] (.p (.bool true)) := by
  refine pc_of_awp cx (fn := Tryz.f106) (c := _) Tryz.func106 rfl rfl (Nat.le_of_ble_eq_true rfl) ?_
  rw [Tryz.ntmps106]; refine Nav.imp ?_
  refine awp_region cx [] fun K hK => ?_
  simp [push_cast]
  repeat (refine And.intro (by clear hK; intros; first | omega | (simp_all; done) | (simp_all <;> omega)) ?_)
  refine hK _ ?_; clear hK K; refine Nav.imp ?_
  refine awp_region cx [] fun K hK => ?_
  simp [push_cast]
  repeat (refine And.intro (by clear hK; intros; first | omega | (simp_all; done) | (simp_all <;> omega)) ?_)
  refine hK _ ?_; clear hK K; refine Nav.imp ?_
  simp [push_cast]
end Go.Proofs.YtagakfaiimaifaaGreat

set_option linter.unusedVariables false
set_option linter.unusedSimpArgs false
namespace Go.Abs

def effY (P : Program) (f : FuncId) (c : XC) (ti : List (Nat × Nat)) (obj : Nat → Option Ob) (args : List AV) : Eff :=
  { val := dn (swp ti) c.r, wr := gone c.σ ++ back (swp ti) c.hp' ti,
    ob := (rnsOk c.σ c.as args ∧ hpOk obj c.σ c.hp ∧ nodupB (c.σ.map (·.2)) = true ∧ c.σ.map (·.1) = c.hp.map (·.1) ∧ nodupB (ti.map (·.1)) = true ∧ nodupB (ti.map (·.2)) = true) ∧ PX P f c.as c.hp c.pin c.hp' c.r }

/-- What a call leaves that makes objects with the names N. -/
def AfterN (g : G) (obj : Nat → Option Ob) (w : World) (N : Nat → Prop) (e : Eff) (v : Value) (w' : World) : Prop :=
  ∃ g', HRel g' (updL obj e.wr) w' ∧ Step g w g' w' ∧ Later g w g' w' ∧ (∀ k, g'.used k → g.used k ∨ N k) ∧ RepA g' w' e.val v

theorem y_sound {P : Program} {f : FuncId} {g : G} {obj : Nat → Option Ob} {w : World} (h : HRel g obj w) {c : XC} {ti : List (Nat × Nat)} {N : Nat → Prop} (hid : ∀ x, N x → ¬ g.used x) (hti : ∀ x j, find ti x = some j → N x ∨ ∃ i, (i, j) ∈ c.pin ∧ find c.σ i = some x) {args : List AV} {us : List Value} (hargs : RepAs g w args us) (hob : (effY P f c ti obj args).ob) :
    Calls P f us.toArray w fun e w' => ∃ v, e = .returned v ∧ AfterN g obj w N (effY P f c ti obj args) v w' := by
  obtain ⟨⟨ha, hhp, hσ0, hdom, ht10, ht20⟩, _, hpx⟩ := hob
  have hσ := nodup_of hσ0
  have ht1 := nodup_of ht10
  have ht2 := nodup_of ht20
  have hin : ∀ {i x}, find c.σ i = some x → (find c.hp i).isSome = true := fun {i x} hi => by
    have := find_key hi
    rw [hdom] at this
    obtain ⟨v, hv⟩ := find_some_of_key this
    rw [hv]; rfl
  let g0 : G := via g c.σ c.hp
  have hloc0 : ∀ i x, find c.σ i = some x → g0.loc i = g.loc x := fun i x hi => via_loc hi
  have hused0 : ∀ i x, find c.σ i = some x → g0.used i := fun i x hi => hin hi
  have hl0 : ∀ i L, g0.loc i = some L → ∃ x, find c.σ i = some x ∧ g.loc x = some L := fun i L hL => via_loc' hL
  have hH0 : HRel g0 (objL c.hp) w := via_rel h hhp hσ hdom
  refine (hpx g0 w us hH0 (fun _ hk => hk) (rnsOk_rep hused0 hloc0 (fun _ hb => hb) ha hargs)).mono fun e w' ⟨v, g1, he, hH1, hr1, hs1, hp1⟩ => ⟨v, he, ?_⟩
  have hown0 : ∀ b, g0.owns b → ∃ x, x ∈ c.σ.map (·.2) ∧ ∃ L, g.loc x = some L ∧ L.virt = false ∧ L.blk = b := by
    rintro b ⟨i, L, hL, hv, hb⟩
    obtain ⟨x, h1, h2⟩ := hl0 i L hL
    exact ⟨x, find_val h1, L, h2, hv, hb⟩
  have hkeep : ∀ x L, x ∉ c.σ.map (·.2) → g.loc x = some L → L.virt = false → ¬ g0.owns L.blk := by
    rintro x L hx hL hv ho
    obtain ⟨y, hy, M, hM, hvM, hb⟩ := hown0 _ ho
    have := h.inj y x M L hM hL hvM hv hb
    exact hx (this ▸ hy)
  let g2 : G := ⟨g1.ro, fun x => match find ti x with | some j => g1.loc j | none => if x ∈ c.σ.map (·.2) then none else g.loc x, fun x => g.used x ∨ find ti x ≠ none⟩
  have hg2t : ∀ x j, find ti x = some j → g2.loc x = g1.loc j := fun x j hx => by simp only [g2, hx]
  have hg2n : ∀ x, find ti x = none → g2.loc x = if x ∈ c.σ.map (·.2) then none else g.loc x := fun x hx => by simp only [g2, hx]
  have hτ : ∀ i x, find (swp ti) i = some x → find ti x = some i := fun i x hi => swp_find ht1 ht2 hi
  have hlater : Later g w g2 w' := by
    refine ⟨fun b hb => ⟨hs1.ro b hb, ?_⟩, fun x hx => .inl hx, fun x hx => ?_⟩
    · refine hs1.block b (h.ro b hb) fun ho => ?_
      obtain ⟨y, hy, M, hM, hvM, hbb⟩ := hown0 b ho
      exact ((h.live y M hM).2 hvM).2 (hbb ▸ hb)
    · cases hf : find ti x with
      | none =>
        rw [hg2n x hf]
        split
        · exact .inr rfl
        · exact .inl rfl
      | some j =>
        rcases hti x j hf with hN | ⟨i, h1, h2⟩
        · exact absurd hx (hid x hN)
        · left
          rw [hg2t x j hf, hp1 i j h1, hloc0 i x h2]
  have hobj2 : ∀ x, updL obj (effY P f c ti obj args).wr x = match find ti x with
      | some j => (find c.hp' j).map fun o => ⟨o.elem, o.m, dnR (swp ti) o.rows⟩
      | none => if x ∈ c.σ.map (·.2) then none else obj x := by
    intro x
    simp only [effY]
    rw [updL_append, updL_get (by rw [back_keys]; exact ht1), updL_get (by rw [gone_keys]; exact hσ), back_find, gone_find]
    cases find ti x with
    | some j => rfl
    | none => simp only [Option.map_none, Option.getD_none]; split <;> rfl
  refine ⟨g2, ⟨?_, ?_, ?_, ?_, hH1.ro⟩, ?_, hlater, ?_, ?_⟩
  · intro x o ho
    rw [hobj2] at ho
    cases hf : find ti x with
    | some j =>
      rw [hf] at ho
      simp only [Option.map_eq_some_iff] at ho
      obtain ⟨o1, ho1, rfl⟩ := ho
      obtain ⟨L, hL, hok⟩ := hH1.own j o1 ho1
      refine ⟨L, by rw [hg2t x j hf]; exact hL, hok.m, hok.pos, by simpa only [dnR_length] using hok.len, fun hv => by simp [hok.virt hv, dnR], fun hv => ?_, fun hv => ⟨(hok.ents hv).1, (hok.ents hv).2.imp fun es he => he.imp fun clock he => ⟨he.1, he.2.1, dnR_ents (fun i y hy => Or.inr (by rw [hτ i y hy]; simp)) (fun i y hy => hg2t y i (hτ i y hy)) (fun _ hb => hb) _ _ he.2.2⟩⟩⟩
      obtain ⟨cur, c1, c2, c3, c5⟩ := hok.cells hv
      refine ⟨cur, c1, c2, c3, fun k row hi => ?_⟩
      obtain ⟨r0, hr0, rfl⟩ := dnR_get _ _ k row hi
      obtain ⟨d1, d2⟩ := c5 k r0 hr0
      refine ⟨by rw [dnL_length]; exact d1, fun q av hq => ?_⟩
      obtain ⟨a0, ha0, rfl⟩ := dnL_get _ _ q av hq
      obtain ⟨u, q1, q2, q3⟩ := d2 q a0 ha0
      exact ⟨u, q1, q2, dn_rep (fun i y hy => Or.inr (by rw [hτ i y hy]; simp)) (fun i y hy => hg2t y i (hτ i y hy)) (fun _ hb => hb) _ _ q3⟩
    | none =>
      rw [hf] at ho
      simp only at ho
      split at ho
      · cases ho
      · rename_i hx
        obtain ⟨L, hL, hok⟩ := h.own x o ho
        exact ⟨L, by rw [hg2n x hf, if_neg hx]; exact hL, hok.later hlater fun hv => hs1.block _ ((h.live x L hL).2 hv).1 (hkeep x L hx hL hv)⟩
  · intro x hx
    rw [hobj2] at hx
    cases hf : find ti x with
    | some j =>
      rw [hf] at hx
      rw [hg2t x j hf]
      simp only [Option.map_eq_none_iff] at hx
      exact hH1.gone j hx
    | none =>
      rw [hf] at hx
      simp only at hx
      rw [hg2n x hf]
      split
      · rfl
      · rename_i hn; rw [if_neg hn] at hx; exact h.gone x hx
  · intro x L hL
    cases hf : find ti x with
    | some j =>
      rw [hg2t x j hf] at hL
      exact ⟨.inr (by rw [hf]; simp), (hH1.live j L hL).2⟩
    | none =>
      rw [hg2n x hf] at hL
      split at hL
      · cases hL
      · rename_i hx
        refine ⟨.inl (h.live x L hL).1, fun hv => ⟨Nat.lt_of_lt_of_le ((h.live x L hL).2 hv).1 hs1.size, fun hro => ?_⟩⟩
        rcases hs1.ro' _ hro with h1 | h1 | h1
        · exact ((h.live x L hL).2 hv).2 h1
        · have := ((h.live x L hL).2 hv).1; omega
        · exact hkeep x L hx hL hv h1
  · intro x y L L' hL hL' hv hv' hb
    have mix : ∀ x y L L', (∃ j, find ti x = some j) → find ti y = none → g2.loc x = some L → g2.loc y = some L' → L.virt = false → L'.virt = false → L.blk = L'.blk → False := by
      rintro x y L L' ⟨j, hx⟩ hy hL hL' hv hv' hb
      rw [hg2t x j hx] at hL
      rw [hg2n y hy] at hL'
      split at hL'
      · cases hL'
      · rename_i hny
        rcases hs1.own L.blk ⟨j, L, hL, hv, rfl⟩ with h1 | h1
        · have := ((h.live y L' hL').2 hv').1; omega
        · exact hkeep y L' hny hL' hv' (hb ▸ h1)
    cases hx : find ti x with
    | some j =>
      cases hy : find ti y with
      | some k =>
        rw [hg2t x j hx] at hL
        rw [hg2t y k hy] at hL'
        have := hH1.inj j k L L' hL hL' hv hv' hb
        subst this
        exact find_inj2 ht2 hx hy
      | none => exact (mix x y L L' ⟨j, hx⟩ hy hL hL' hv hv' hb).elim
    | none =>
      cases hy : find ti y with
      | some k => exact (mix y x L' L ⟨k, hy⟩ hx hL' hL hv' hv hb.symm).elim
      | none =>
        rw [hg2n x hx] at hL
        rw [hg2n y hy] at hL'
        split at hL
        · cases hL
        · split at hL'
          · cases hL'
          · exact h.inj x y L L' hL hL' hv hv' hb
  · refine ⟨hs1.os, hs1.tape, hs1.output, hs1.size, fun b hb hn => hs1.block b hb fun ho => hn ?_, ?_, fun b hb => hs1.ro b hb, fun b hb => ?_⟩
    · obtain ⟨x, _, L, h1, h2, h3⟩ := hown0 b ho
      exact ⟨x, L, h1, h2, h3⟩
    · rintro b ⟨x, L, hL, hv, hb⟩
      cases hf : find ti x with
      | some j =>
        rw [hg2t x j hf] at hL
        rcases hs1.own b ⟨j, L, hL, hv, hb⟩ with h1 | h1
        · exact .inl h1
        · obtain ⟨y, _, M, q1, q2, q3⟩ := hown0 b h1
          exact .inr ⟨y, M, q1, q2, q3⟩
      | none =>
        rw [hg2n x hf] at hL
        split at hL
        · cases hL
        · exact .inr ⟨x, L, hL, hv, hb⟩
    · rcases hs1.ro' b hb with h1 | h1 | h1
      · exact .inl h1
      · exact .inr (.inl h1)
      · obtain ⟨y, _, M, q1, q2, q3⟩ := hown0 b h1
        exact .inr (.inr ⟨y, M, q1, q2, q3⟩)
  · intro k hk
    rcases hk with hk | hk
    · exact .inl hk
    · cases hf : find ti k with
      | none => exact absurd hf hk
      | some j =>
        rcases hti k j hf with hN | ⟨i, h1, h2⟩
        · exact .inr hN
        · have h3 := hin h2
          obtain ⟨o, ho⟩ := Option.isSome_iff_exists.1 h3
          obtain ⟨x', o', q1, q2, _⟩ := hpOk_find hhp i o ho
          rw [h2] at q1
          cases q1
          obtain ⟨L, hL, _⟩ := h.own k o' q2
          exact .inl (h.live k L hL).1
  · exact dn_rep (fun i y hy => Or.inr (by rw [hτ i y hy]; simp)) (fun i y hy => hg2t y i (hτ i y hy)) (fun _ hb => hb) _ _ hr1

theorem wpT_sound2 {P : Program} {ty : TypeId → Option TI} (hc : Ctx P ty) {orc : List (Nat × Res)} {gs : List (Option Tmp)} {ops : Array Oper} (hgs : ∀ j : Nat, gs[j]? = (ops[j]?).map fun o : Oper => o.dst) {base nxt : Nat} {Q : Exit → Act → World → Prop} {K : St → Prop} {g0 : G} {w0 : World}
    {l2 : List Oper} {en n0 : Nat} (hQ : ∀ s g a w, s.nxt = nxt → s.n = n0 → Rel (· < base + en) g s.get s.obj s.n a w → Step g0 w0 g w → K s → wpList P ops Q l2 a w) :
    ∀ (l : List Oper) (i : Nat) (s : St) (g : G) (a : Act) (w : World), i + l.length = en → s.nxt = nxt → s.n = n0 → Rel (· < base + i) g s.get s.obj s.n a w → Step g0 w0 g w → wpT ty P orc gs base i l s K → wpList P ops Q (l ++ l2) a w
  | [], i, s, g, a, w, hle, hnx, hn0, h, hs, hk => hQ s g a w hnx hn0 (by simp at hle; rw [← hle]; exact h) hs hk
  | o :: rest, i, s, g, a, w, hle, hnx, hn0, h, hs, hk => by
    simp only [List.length_cons] at hle
    have hargs : RepAs g w (o.op.operands.toList.map s.eval) (o.op.operands.toList.map a.eval) := by
      refine RepAs.of_get (by simp) fun j av hj => ?_
      rw [List.getElem?_map] at hj ⊢
      cases hx : o.op.operands.toList[j]? with
      | none => rw [hx] at hj; cases hj
      | some x => rw [hx] at hj; cases hj; exact ⟨a.eval x, rfl, eval_rep h (fun _ => rfl) x⟩
    have relapp : ∀ (e : Eff) (g' : G) (a' : Act) (w' : World), Rel (fun k => k < base + i ∨ k = base + i) g' (putG s.get o.dst e.val) (updL s.obj e.wr) s.n a' w' → Rel (· < base + (i + 1)) g' (s.app o.dst e).get (s.app o.dst e).obj (s.app o.dst e).n a' w' := by
      intro e g' a' w' hr
      have hn : (s.app o.dst e).n = s.n := by unfold St.app St.put; cases o.dst <;> rfl
      rw [hn]
      exact ⟨hr.defers, hr.size, fun t => by rw [app_get]; exact hr.tmp t, fun id hu => by
        have := hr.used id hu
        show id < base + (i + 1)
        rcases this with hh | hh <;> omega, by
        have : (s.app o.dst e).obj = updL s.obj e.wr := funext (app_obj s o.dst e)
        rw [this]; exact hr.heap⟩
    have hnapp : ∀ e, (s.app o.dst e).nxt = nxt := fun e => by rw [← hnx]; unfold St.app St.put; cases o.dst <;> rfl
    have hna : ∀ e, (s.app o.dst e).n = s.n := fun e => by unfold St.app St.put; cases o.dst <;> rfl
    have hnput : ∀ v, (s.put o.dst v).nxt = nxt := fun v => by rw [← hnx]; unfold St.put; cases o.dst <;> rfl
    have hnn : ∀ v, (s.put o.dst v).n = s.n := fun v => by unfold St.put; cases o.dst <;> rfl
    have relput : ∀ (v : AV) (g' : G) (a' : Act) (w' : World) (U : Nat → Prop), (∀ k, U k → k < base + (i + 1)) → Rel U g' (putG s.get o.dst v) s.obj s.n a' w' → Rel (· < base + (i + 1)) g' (s.put o.dst v).get (s.put o.dst v).obj (s.put o.dst v).n a' w' := by
      intro v g' a' w' U hU hr
      rw [hnn]
      have := hr.congr (get' := (s.put o.dst v).get) (obj' := (s.put o.dst v).obj) (fun t => St.get_put s o.dst v t) (fun id => put_obj s o.dst v id)
      exact ⟨this.defers, this.size, this.tmp, fun k hk => hU k (this.used k hk), this.heap⟩
    have skipped : ∀ v, (∀ d, o.dst = some d → d < s.n) → RepA g w v undef → wpT ty P orc gs base (i + 1) rest (s.put o.dst v) K → wpList P ops Q (rest ++ l2) (a.put o.dst undef) w := by
      intro v hd hv hrest
      have hr := rel_put (U' := (· < base + i)) (dst := o.dst) (v := v) (u := undef) h h.heap ⟨fun b hb => ⟨hb, rfl⟩, fun _ hx => hx, fun _ _ => .inl rfl⟩ (fun k hk => h.used k hk) hv hd
      exact wpT_sound2 (nxt := nxt) hc hgs hQ rest (i + 1) _ g _ w (by omega) (hnput v) ((hnn v).trans hn0) (relput v g _ w _ (fun k hk => by omega) hr) hs hrest
    simp only [List.cons_append, wpList]
    unfold wpT at hk
    split at hk
    · rename_i hg
      have hw : Region.wanted o (yielded ops a.tmps) = true := by simp [Region.wanted, hg]
      rw [if_pos hw]
      left
      unfold doOp at hk
      split at hk
      · rename_i e he
        obtain ⟨hob, hd, hrest⟩ := hk
        exact op_step hc (nid := base + i) h (by simp) hargs he hob (fun d hd' => by rw [hd'] at hd; exact hd) fun g' a' w' hr hst =>
          wpT_sound2 (nxt := nxt) hc hgs hQ rest (i + 1) (s.app o.dst e) g' a' w' (by omega) (hnapp e) ((hna e).trans hn0) (relapp e g' a' w' hr) (hs.trans hst) hrest
      · exact hk.elim
    · rename_i j want hg
      split at hk
      · rename_i x hgv
        have hw := guard_wanted (a := a) hgs h.tmp hg hgv
        rw [hw]
        obtain ⟨hd, hk⟩ := hk
        have hd' : ∀ d, o.dst = some d → d < s.n := fun d hd' => by rw [hd'] at hd; exact hd
        split at hk
        · rename_i e he
          split at hk
          · rename_i hwr
            obtain ⟨hexec, hrest⟩ := hk
            cases x with
            | true =>
              rw [if_pos rfl]
              left
              obtain ⟨hso, hob⟩ := hexec rfl
              refine op_step hc (nid := base + i) h (by simp) (strips_repG hargs hso) he hob hd' fun g' a' w' hr hst => ?_
              rw [hwr] at hr
              exact wpT_sound2 (nxt := nxt) hc hgs hQ rest (i + 1) _ g' a' w' (by omega) (hnput _) ((hnn _).trans hn0) (relput _ g' a' w' _ (fun k hk => by rcases hk with hh | hh <;> omega) hr.opt) (hs.trans hst) hrest
            | false =>
              rw [if_neg (by simp)]
              exact skipped _ hd' (by simp [RepA]) hrest
          · obtain ⟨rfl, hso, hob, hrest⟩ := hk
            rw [if_pos rfl]
            left
            exact op_step hc (nid := base + i) h (by simp) (strips_repG hargs hso) he hob hd' fun g' a' w' hr hst =>
              wpT_sound2 (nxt := nxt) hc hgs hQ rest (i + 1) (s.app o.dst e) g' a' w' (by omega) (hnapp e) ((hna e).trans hn0) (relapp e g' a' w' hr) (hs.trans hst) hrest
        · obtain ⟨rfl, hrest⟩ := hk
          rw [if_neg (by simp)]
          exact skipped _ hd' (by simp [RepA]) hrest
      · exact hk.elim


/-- The new names of a call. -/
def freshOk (lo n : Nat) : List (Nat × Nat) → Prop
  | [] => True
  | (x, _) :: r => (lo ≤ x ∧ x < lo + n) ∧ freshOk lo n r
theorem freshOk_find {lo n x j : Nat} : ∀ {l : List (Nat × Nat)}, freshOk lo n l → find l x = some j → lo ≤ x ∧ x < lo + n
  | [], _, h => by simp [find] at h
  | (y, k) :: r, hl, h => by
    simp only [freshOk] at hl
    simp only [find] at h
    split at h
    · rename_i e; rw [← e]; exact hl.1
    · exact freshOk_find hl.2 h
theorem find_append' {α : Type} (x : Nat) : ∀ (a b : List (Nat × α)), find (a ++ b) x = (find a x).or (find b x)
  | [], b => by simp [find]
  | (y, k) :: r, b => by
    simp only [List.cons_append, find]
    split
    · rfl
    · exact find_append' x r b

/-- A REGION IN THE TEXT's ORDER with one call that makes m more objects than one. -/
theorem awp_region2 {P : Program} {ty : TypeId → Option TI} (hc : Ctx P ty) (orc : List (Nat × Res)) {id : Nat} {l pre post : List Oper} {o : Oper} (hl : l = pre ++ o :: post) (hg : o.guard = none) {cl : Call} {fo : Operand} (ho : o.op = .call cl) (hcal : cl.callee = .value fo) (m : Nat) (c : XC) (fr : List (Nat × Nat)) {Q : Exit → St → Prop} {s : St}
    (h : ∀ K : St → Prop, (∀ s', Q .normal s' → K s') → wpT ty P orc (l.map (·.dst)) s.nxt 0 pre { s with nxt := s.nxt + l.length + m } fun s1 =>
      match calleeA (s1.eval fo) with
      | some q => freshOk (s.nxt + pre.length) (m + 1) fr ∧ (effY P q.1 c (fr ++ pinT c.σ c.pin) s1.obj (cl.args.toList.map s1.eval ++ q.2)).ob ∧ (match o.dst with | some d => d < s1.n | none => True) ∧
          wpT ty P orc (l.map (·.dst)) (s.nxt + m) (pre.length + 1) post (s1.app o.dst (effY P q.1 c (fr ++ pinT c.σ c.pin) s1.obj (cl.args.toList.map s1.eval ++ q.2))) K
      | none => False) : AWp P (.region id l.toArray false) Q s := by
  intro g a w hr
  refine wp_region ?_
  have hgs : ∀ j : Nat, (l.map (·.dst))[j]? = (l.toArray[j]?).map fun o : Oper => o.dst := by intro j; simp
  have hlen : l.length = pre.length + 1 + post.length := by rw [hl]; simp; omega
  have hh := h _ fun _ hq => hq
  have key : wpList P l.toArray (fun e a' w' => ∃ s' g', RelS s' g' a' w' ∧ Step g w g' w' ∧ Q e s') l a w := by
    have h2 := wpT_sound2 (P := P) hc (orc := orc) (gs := l.map (·.dst)) (ops := l.toArray) hgs (base := s.nxt) (nxt := s.nxt + l.length + m)
      (Q := fun e a' w' => ∃ s' g', RelS s' g' a' w' ∧ Step g w g' w' ∧ Q e s') (g0 := g) (w0 := w) (l2 := o :: post) (en := pre.length) (n0 := s.n) (K := fun s1 =>
        match calleeA (s1.eval fo) with
        | some q => freshOk (s.nxt + pre.length) (m + 1) fr ∧ (effY P q.1 c (fr ++ pinT c.σ c.pin) s1.obj (cl.args.toList.map s1.eval ++ q.2)).ob ∧ (match o.dst with | some d => d < s1.n | none => True) ∧
            wpT ty P orc (l.map (·.dst)) (s.nxt + m) (pre.length + 1) post (s1.app o.dst (effY P q.1 c (fr ++ pinT c.σ c.pin) s1.obj (cl.args.toList.map s1.eval ++ q.2))) fun s' => Q .normal s'
        | none => False) ?_ pre 0 { s with nxt := s.nxt + l.length + m } g a w (by simp) rfl rfl ⟨hr.defers, hr.size, hr.tmp, fun id hu => by have := hr.used id hu; simpa using this, hr.heap⟩ (Step.refl g w) hh
    · rw [← hl] at h2; exact h2
    · intro s1 g1 a1 w1 hnx hn0 hrel hst hk
      simp only [wpList]
      have hw : Region.wanted o (yielded l.toArray a1.tmps) = true := by simp [Region.wanted, hg]
      rw [if_pos hw]
      left
      have hev : ∀ x : Operand, RepA g1 w1 (s1.eval x) (a1.eval x) := fun x => eval_rep hrel (fun _ => rfl) x
      cases hq : calleeA (s1.eval fo) with
      | none => rw [hq] at hk; exact hk.elim
      | some q =>
        rw [hq] at hk
        obtain ⟨hfr, hob, hd, hrest⟩ := hk
        obtain ⟨k, caps⟩ := q
        have hargs : RepAs g1 w1 (cl.args.toList.map s1.eval) (cl.args.toList.map a1.eval) := by
          refine RepAs.of_get (by simp) fun j av hj => ?_
          rw [List.getElem?_map] at hj ⊢
          cases hx : cl.args.toList[j]? with
          | none => rw [hx] at hj; cases hj
          | some x => rw [hx] at hj; cases hj; exact ⟨a1.eval x, rfl, hev x⟩
        have hf : ∃ cs : List Value, a1.eval fo = .func (.func k) #[] cs.toArray ∧ RepAs g1 w1 caps cs := by
          have hfv := hev fo
          unfold calleeA at hq
          split at hq
          · rename_i heq
            cases hq
            rw [heq] at hfv
            simp only [RepA, RepD] at hfv
            obtain ⟨cs, h1, h2⟩ := hfv
            exact ⟨cs, h1, RepAs.of_ds h2⟩
          · rename_i heq
            cases hq
            rw [heq] at hfv
            simp only [RepA] at hfv
            exact hfv
          · cases hq
        obtain ⟨cs, hcs, hrc⟩ := hf
        obtain ⟨fn, hfn, hname, hbody⟩ := hob.2.1
        have hrun : (execOp a1.eval o).run P w1 = .ok (.enter k ((cl.args.toList.map a1.eval) ++ cs).toArray) w1 := by
          unfold execOp
          simp only [ho, resolve, hcal, Deferred.ofValue, hcs, Sem.run_bind, Sem.run_pure, Result.andThen_ok, invoke, callFunc, run_program, hfn, hname, hbody, Bool.false_eq_true, if_false]
          congr 2
          simp
        have hys := y_sound (N := fun x => s.nxt + pre.length ≤ x ∧ x < s.nxt + pre.length + (m + 1)) hrel.heap (fun x hx hu => by have := hrel.used x hu; omega) (c := c) (ti := fr ++ pinT c.σ c.pin) (fun x j hxj => by
          rw [find_append'] at hxj
          cases hfx : find fr x with
          | some j' => exact .inl (freshOk_find hfr hfx)
          | none =>
            rw [hfx] at hxj
            exact .inr (pinT_find hxj)) (hargs.append hrc) hob
        refine does_calls hrun hys _ _ fun v w2 hA => ?_
        obtain ⟨g2, k1, k2, k3, k4, k5⟩ := hA
        have hput := rel_put (U' := fun x => x < s.nxt + m + (pre.length + 1)) (dst := o.dst) hrel k1 k3 (fun x hx => by
          rcases k4 x hx with hx | hx
          · have := hrel.used x hx; omega
          · omega) k5 (fun d hd' => by rw [hd'] at hd; exact hd)
        have hn : (s1.app o.dst (effY P k c (fr ++ pinT c.σ c.pin) s1.obj (cl.args.toList.map s1.eval ++ caps))).n = s1.n := by unfold St.app St.put; cases o.dst <;> rfl
        have hnx' : (s1.app o.dst (effY P k c (fr ++ pinT c.σ c.pin) s1.obj (cl.args.toList.map s1.eval ++ caps))).nxt = s.nxt + l.length + m := by rw [← hnx]; unfold St.app St.put; cases o.dst <;> rfl
        refine wpT_sound (P := P) hc (orc := orc) (gs := l.map (·.dst)) (ops := l.toArray) hgs (base := s.nxt + m) (nxt := s.nxt + l.length + m) (K := fun s' => Q .normal s') (g0 := g) (w0 := w)
          (fun s' g' a' w' h1 h2 h3 => ⟨s', g', h1, h2, h3⟩) post (pre.length + 1) _ g2 _ w2 (by omega) hnx' ?_ (hst.trans k2) hrest
        rw [hn]
        exact ⟨hput.defers, hput.size, fun t => by rw [app_get]; exact hput.tmp t, hput.used, by
          have : (s1.app o.dst (effY P k c (fr ++ pinT c.σ c.pin) s1.obj (cl.args.toList.map s1.eval ++ caps))).obj = updL s1.obj (effY P k c (fr ++ pinT c.σ c.pin) s1.obj (cl.args.toList.map s1.eval ++ caps)).wr := funext (app_obj s1 o.dst _)
          rw [this]; exact hput.heap⟩
  have := wpOps_eq_wpList (P := P) (ops := l.toArray) (Q := fun e a' w' => ∃ s' g', RelS s' g' a' w' ∧ Step g w g' w' ∧ Q e s') l 0 (by intro j; simp)
  rw [show List.range l.toArray.size = List.range' 0 l.length by simp [List.range_eq_range'], this]
  exact key
end Go.Abs

set_option linter.unusedVariables false
set_option linter.unusedSimpArgs false
namespace Go.Abs
/-! Numbers told apart by instances (an exit that passes a block). -/
instance fls_l {n : Nat} : Fls (Nat.beq 0 (n + 1)) := ⟨rfl⟩
instance fls_r {n : Nat} : Fls (Nat.beq (n + 1) 0) := ⟨rfl⟩
instance fls_s {m n : Nat} [h : Fls (Nat.beq m n)] : Fls (Nat.beq (m + 1) (n + 1)) := ⟨h.h⟩


theorem run_append_room_at {P : Program} (w : World) (t ty e : TypeId) (i : TypeInfo) (ht : P.underlying t = some (.slice e)) (hi : P.info? e = some i)
    (g oo sLen sCap : Nat) (cur : Array Value) (hg : w.heap[g]? = some (.cells cur e (0, 0)))
    (a : Addr) (m c : Nat) (news : List Value) (hl : news.length = m * i.size) (hnews : ∀ j u, news[j]? = some u → w.cell? (a.add j) = some u) (h1 : ∀ u ∈ news, u.oneCell' = true)
    (hroom : sLen + m ≤ sCap) (hfit : oo + sLen * i.size + news.length ≤ cur.size) :
    (Builtin.append_ #[t, t] ty #[.slice (some ⟨g, oo, none⟩) sLen sCap, .slice (some a) m c]).run P w =
      .ok (.slice (some ⟨g, oo, none⟩) (sLen + m) sCap) (w.setRow g (cur.toList.take (oo + sLen * i.size) ++ news ++ cur.toList.drop (oo + sLen * i.size + news.length)).toArray) := by
  have hf := run_firstCells_some (P := P) w i.size m a m c news hl hnews
  have hst := run_storeCells_at P g (oo + sLen * i.size) e news 0 cur w hg (by simpa using hfit) h1
  simp only [Nat.add_zero] at hst
  simp [Builtin.append_, run_underlying ht, sizeOf, typeInfo, hi, Builtin.lenOf, hroom, hf, Addr.add_lit, hst]

/-- What may come of it. -/
def offOut (off : Nat) (rows r2 : List (List AV)) (q : Nat × List (List AV)) : Prop := q = (off, rows ++ r2) ∨ q = (0, rows.drop off ++ r2)

theorem append_off_sound {P : Program} {t e ty : TypeId} {ti te : TI} (ht : TOk P t ti) (hk : ti.kind = .slice e) (he : TOk P e te) (hpos : 0 < te.size) (hbpos : 0 < te.bytes) {g : G} {obj : Nat → Option Ob} {w : World} (h : HRel g obj w) {nid : Nat} (hid : ¬ g.used nid)
    {id off len : Nat} {o : Ob} {x : AV} {vs vx : Value} {r2 : List (List AV)} {p2 : Prop} (hs : RepA g w (.hs id off len) vs) (hx : RepA g w x vx) (ho : obj id = some o) (hm : o.m = te.size) (hel : o.elem = e) (hfull : o.rows.length = off + len)
    (hsrc : srcRows obj te.size x = some (r2, p2)) (hp2 : p2) (hr0 : 0 < r2.length) (hb : (len + r2.length) * te.bytes ≤ 140737488355328) :
    ∃ v w', (Builtin.append_ #[t, t] ty #[vs, vx]).run P w = .ok v w' ∧ ∃ q, offOut off o.rows r2 q ∧
      After g obj w nid { val := .hs nid q.1 (len + r2.length), wr := [(id, none), (nid, some ⟨e, te.size, q.2⟩)] } v w' := by
  by_cases hoff : off = 0
  · subst hoff
    have hlen : o.rows.length = len := by omega
    have htk : o.rows.take len = o.rows := List.take_of_length_le (by omega)
    have hd : dstRows obj e te.size (.hs id 0 len) = some (o.rows, [(id, none)], len ≤ o.rows.length) := by
      simp [dstRows, ho, hm, hel, htk]
    obtain ⟨v, w', hrun, hA⟩ := append_sound (ty := ty) ht hk he hpos hbpos h hid hs hx hd (by omega) hsrc hp2 (by rw [hlen]; exact hb)
    refine ⟨v, w', hrun, (0, o.rows ++ r2), .inl rfl, ?_⟩
    rw [hlen] at hA
    exact hA
  obtain ⟨i, z, hi, hsz, hby, hz, hzc, hzs, hzo⟩ := he.info
  have hu : P.underlying t = some (.slice e) := by have := ht.kind; rw [hk] at this; exact this
  have h63 : len + r2.length ≤ maxLen := by
    have : len + r2.length ≤ (len + r2.length) * te.bytes := Nat.le_mul_of_pos_right _ hbpos
    simp only [maxLen]; omega
  obtain ⟨b, o2, c, news, rfl, hnl, hc, hnr⟩ : ∃ b o2 c flat, vx = .slice (some ⟨b, o2, none⟩) r2.length c ∧ flat.length = r2.length * te.size ∧ CellsAt w b o2 flat ∧ RowsRep g w te.size r2 flat := by
    rcases src_sound h hsrc hp2 hx with ⟨hv, _⟩ | hv
    · rw [hv] at hr0; simp at hr0
    · exact hv
  have hnews : ∀ j u, news[j]? = some u → w.cell? ((⟨b, o2, none⟩ : Addr).add j) = some u := fun j u hj => by rw [Addr.add_lit]; exact (hc j u hj).1
  obtain ⟨L, hL, hok⟩ := h.own id o ho
  have hne : nid ≠ id := fun e' => hid (e' ▸ (h.live id L hL).1)
  simp only [RepA] at hs
  rcases hs.2 L hL with ⟨hv, h0, _⟩ | ⟨hv, hle, hvs⟩
  · exfalso
    have := hok.virt hv
    rw [this] at hfull
    simp only [List.length_nil] at hfull
    omega
  · obtain ⟨cur, hc1, hc2, hc3, hc5⟩ := hok.cells hv
    have hmL : L.m = te.size := by rw [hok.m, hm]
    have hcap : off + len ≤ L.cap := by have := hok.len hv.2; omega
    have hvs' : vs = .slice (some ⟨L.blk, off * te.size, none⟩) len (L.cap - off) := by rw [hvs, hmL]
    have hin : ∀ n, n ≤ L.cap → n * te.size ≤ cur.size := fun n hn => by rw [hc2, hmL]; exact Nat.mul_le_mul_right _ hn
    rw [hel] at hc1
    by_cases hroom : len + r2.length ≤ L.cap - off
    · -- in place
      have hfit : off * te.size + len * te.size + news.length ≤ cur.size := by
        rw [hnl, ← Nat.add_mul, ← Nat.add_mul]; exact hin _ (by omega)
      have hrun := run_append_room_at (P := P) w t ty e i hu hi L.blk (off * te.size) len (L.cap - off) cur hc1 ⟨b, o2, none⟩ r2.length c news (by rw [hsz]; exact hnl) hnews hc.one hroom (by rw [hsz]; exact hfit)
      rw [hsz] at hrun
      rw [hvs']
      refine ⟨_, _, hrun, (off, o.rows ++ r2), .inl rfl, ?_⟩
      have hold : (cur.toList.take (off * te.size + len * te.size)).length = o.rows.length * te.size := by
        rw [hfull, Nat.add_mul, List.length_take, Array.length_toList]
        have := hin (off + len) hcap
        rw [Nat.add_mul] at this; omega
      have hr1 : RowsRep g w te.size o.rows (cur.toList.take (off * te.size + len * te.size)) := by
        intro k row hk'
        obtain ⟨a1, a2⟩ := hc5 k row hk'
        refine ⟨by rw [a1, hmL], fun j av hj => ?_⟩
        obtain ⟨u, q1, q2, q3⟩ := a2 j av hj
        refine ⟨u, ?_, q2, q3⟩
        have hjm : j < te.size := by rw [← hmL, ← a1]; exact (List.getElem?_eq_some_iff.1 hj).1
        have hkl : k < off + len := by rw [← hfull]; exact (List.getElem?_eq_some_iff.1 hk').1
        have hlt : k * te.size + j < off * te.size + len * te.size := by
          have := Nat.mul_le_mul_right te.size (show k + 1 ≤ off + len from hkl)
          rw [Nat.succ_mul, Nat.add_mul] at this
          omega
        rw [List.getElem?_take, if_pos hlt, ← hmL]
        simpa using q1
      obtain ⟨g', a1, a2, a3, a4, a5, a6⟩ := HRel.write (w' := w.setRow L.blk (cur.toList.take (off * te.size + len * te.size) ++ news ++ cur.toList.drop (off * te.size + len * te.size + news.length)).toArray) (cap := L.cap) (B := L.blk) h hL hv (.inr hid) ⟨e, te.size, o.rows ++ r2⟩
        (cur.toList.take (off * te.size + len * te.size) ++ news ++ cur.toList.drop (off * te.size + len * te.size + news.length)).toArray rfl ⟨rfl, Nat.le_refl _⟩ rfl (by simp [World.setRow]) (fun b _ hb => setRow_other w L.blk b _ hb) (.inl rfl) (setRow_heap w L.blk cur _ e _ hc1) hmL.symm hok.pos
        (by simp only [List.size_toArray, List.length_append, List.length_take, List.length_drop, Array.length_toList]; rw [← hmL] at hfit ⊢; omega)
        (by simp only [List.length_append]; omega) hc3 (fun e' => absurd e' hne)
        (fun k row hk' => by
          obtain ⟨c1, c2⟩ := (hr1.append hold hnr) k row hk'
          refine ⟨by rw [c1, hmL], fun j av hj => ?_⟩
          obtain ⟨u, q1, q2, q3⟩ := c2 j av hj
          refine ⟨u, ?_, q2, q3⟩
          rw [hmL, List.getElem?_toArray, List.getElem?_append_left (List.getElem?_eq_some_iff.1 q1).1]
          exact q1)
      refine ⟨g', by simpa [updL] using a4, a5, a6, fun k hk' => by rw [a2] at hk'; exact hk', ?_⟩
      simp only [RepA]
      refine ⟨⟨by rw [a2]; exact .inr rfl, by trivial⟩, fun M hM => ?_⟩
      rw [a1] at hM; cases hM
      exact .inr ⟨⟨rfl, rfl⟩, by simp only; omega, by simp only [hmL]⟩
    · -- to a row of its own
      have hxl : ((cur.toList.drop (off * te.size)).take (len * te.size)).length = len * te.size := by
        rw [List.length_take, List.length_drop, Array.length_toList]
        have := hin (off + len) hcap
        rw [Nat.add_mul] at this; omega
      have holds : ∀ j v, ((cur.toList.drop (off * te.size)).take (len * te.size))[j]? = some v → w.cell? ((⟨L.blk, off * te.size, none⟩ : Addr).add j) = some v := fun j v hj => by
        rw [Addr.add_lit, cell_of_row w L.blk _ cur e (0, 0) hc1]
        rw [List.getElem?_take] at hj
        split at hj
        · rw [List.getElem?_drop] at hj; simpa using hj
        · cases hj
      have hrun := run_append_grow (P := P) w t ty e i z hu hi hz ⟨L.blk, off * te.size, none⟩ len (L.cap - off) _ (by rw [hsz]; exact hxl) holds ⟨b, o2, none⟩ r2.length c news (by rw [hsz]; exact hnl) hnews (by omega) (by simp only [maxLen] at h63; omega) (growslice_fits (by omega) (by rw [hby]; exact hb))
      rw [hvs']
      refine ⟨_, _, hrun, (0, o.rows.drop off ++ r2), .inr rfl, ?_⟩
      have hge := grownCap_ge w (len + r2.length) (L.cap - off) e
      have hcm := grownCap_le_maxLen w (len + r2.length) (L.cap - off) e h63
      generalize grownCap w (len + r2.length) (L.cap - off) e = N at *
      have hdl : (o.rows.drop off).length = len := by rw [List.length_drop]; omega
      have hr1 : RowsRep g w te.size (o.rows.drop off) ((cur.toList.drop (off * te.size)).take (len * te.size)) := by
        intro k row hk'
        have hkl : k < len := by have := (List.getElem?_eq_some_iff.1 hk').1; omega
        rw [List.getElem?_drop] at hk'
        obtain ⟨a1, a2⟩ := hc5 _ row hk'
        refine ⟨by rw [a1, hmL], fun j av hj => ?_⟩
        obtain ⟨u, q1, q2, q3⟩ := a2 j av hj
        refine ⟨u, ?_, q2, q3⟩
        have hjm : j < te.size := by rw [← hmL, ← a1]; exact (List.getElem?_eq_some_iff.1 hj).1
        have hlt : k * te.size + j < len * te.size := by
          have := Nat.mul_le_mul_right te.size (show k + 1 ≤ len from hkl)
          rw [Nat.succ_mul] at this
          omega
        rw [List.getElem?_take, if_pos hlt, List.getElem?_drop]
        rw [hmL, Nat.add_mul] at q1
        rw [← Nat.add_assoc]
        simpa using q1
      obtain ⟨g1, b1, b2, b3, b4, b5, b6⟩ := h.drop id
      have hall : RowsRep g1 w te.size (o.rows.drop off ++ r2) ((cur.toList.drop (off * te.size)).take (len * te.size) ++ news) := by
        intro k row hk'
        obtain ⟨c1, c2⟩ := (hr1.append (by rw [hxl, hdl]) hnr) k row hk'
        refine ⟨c1, fun j av hj => ?_⟩
        obtain ⟨u, q1, q2, q3⟩ := c2 j av hj
        exact ⟨u, q1, q2, RepA.later b6 av u q3⟩
      have hcellN : (w.drew.alloc (.cells (((cur.toList.drop (off * te.size)).take (len * te.size)).toArray ++ news.toArray ++ Builtin.zeroCells z.cells (N - (len + r2.length))) e)).heap[w.heap.size]? = some (.cells (((cur.toList.drop (off * te.size)).take (len * te.size)).toArray ++ news.toArray ++ Builtin.zeroCells z.cells (N - (len + r2.length))) e (0, 0)) := heap_alloc_new w.drew _
      obtain ⟨g', a1, a2, a3, a4, a5, a6⟩ := HRel.new (w' := w.drew.alloc (.cells (((cur.toList.drop (off * te.size)).take (len * te.size)).toArray ++ news.toArray ++ Builtin.zeroCells z.cells (N - (len + r2.length))) e)) (B := w.heap.size) (cap := N) b4 (id := nid) (by rw [b1]; exact hid)
        ⟨e, te.size, o.rows.drop off ++ r2⟩ (((cur.toList.drop (off * te.size)).take (len * te.size)).toArray ++ news.toArray ++ Builtin.zeroCells z.cells (N - (len + r2.length))) rfl ⟨rfl, Nat.le_succ _⟩ rfl (Nat.le_refl _) (Array.getElem?_eq_some_iff.1 hcellN).1
        (fun k hk' => Go.heap_alloc_old w.drew _ hk') hcellN hpos
        (by simp only [Array.size_append, List.size_toArray, size_zeroCells, hzs, hxl, hnl, ← Nat.add_mul]; congr 1; omega)
        (by simp only [List.length_append, hdl]; omega) hcm
        (fun k row hk' => by
          obtain ⟨c1, c2⟩ := hall k row hk'
          refine ⟨c1, fun j av hj => ?_⟩
          obtain ⟨u, q1, q2, q3⟩ := c2 j av hj
          refine ⟨u, ?_, q2, q3⟩
          have hlt := (List.getElem?_eq_some_iff.1 q1).1
          have hlt2 : k * te.size + j < (((cur.toList.drop (off * te.size)).take (len * te.size)).toArray ++ news.toArray).size := by simpa using hlt
          rw [Array.getElem?_append_left hlt2, ← q1, ← Array.getElem?_toList]
          simp only [Array.toList_append])
      refine ⟨g', by simpa [updL] using a4, b5.trans a5, ?_, fun k hk' => by rw [a2, b1] at hk'; exact hk', ?_⟩
      · exact ⟨fun b hb => by
          have := a6.fut b (by rw [b2]; exact hb)
          exact this, fun k hk => a6.used k (by rw [b1]; exact hk), fun k hk => by
          have h1 := a6.loc k (by rw [b1]; exact hk)
          rw [b3] at h1
          by_cases e' : k = id
          · simp only [e', if_true] at h1 ⊢
            right
            rcases h1 with h1 | h1 <;> exact h1
          · simpa [e'] using h1⟩
      · exact rep_hs (L := ⟨w.heap.size, te.size, N, false, false⟩) (by rw [a2]; exact .inr rfl) a1 ⟨rfl, rfl⟩ hge

/-- A REGION IN THE TEXT's ORDER that appends to a slice which begins within its row. -/
theorem awp_region_app {P : Program} {ty : TypeId → Option TI} (hc : Ctx P ty) (orc : List (Nat × Res)) {id : Nat} {l : List Oper} (pre post : List Oper) (o : Oper) (hl : l = pre ++ o :: post) (hg : o.guard = none) {cl : Call} (ho : o.op = .call cl) (hcal : cl.callee = .builtin .append) {t e : TypeId} {ti te : TI} {ox oy : Operand}
    (hat : cl.argTypes = #[t, t]) (hargs0 : cl.args = #[ox, oy]) {d : Tmp} (hdst : o.dst = some d) (hti : ty t = some ti) (hk : ti.kind = .slice e) (hte : ty e = some te) (hpos : 0 < te.size) (hbpos : 0 < te.bytes)
    (idq off len : Nat) (rows r2 : List (List AV)) {Q : Exit → St → Prop} {s : St}
    (h : ∀ K : St → Prop, (∀ s', Q .normal s' → K s') → wpT ty P orc (l.map (·.dst)) s.nxt 0 pre { s with nxt := s.nxt + l.length } fun s1 =>
      s1.eval ox = .hs idq off len ∧ s1.obj idq = some ⟨e, te.size, rows⟩ ∧ rows.length = off + len ∧ (∃ p2, srcRows s1.obj te.size (s1.eval oy) = some (r2, p2) ∧ p2) ∧ 0 < r2.length ∧ (len + r2.length) * te.bytes ≤ 140737488355328 ∧ d < s1.n ∧
      ∀ q, offOut off rows r2 q → wpT ty P orc (l.map (·.dst)) s.nxt (pre.length + 1) post (s1.app (some d) { val := .hs (s.nxt + pre.length) q.1 (len + r2.length), wr := [(idq, none), (s.nxt + pre.length, some ⟨e, te.size, q.2⟩)] }) K) : AWp P (.region id l.toArray false) Q s := by
  intro g a w hr
  refine wp_region ?_
  have hgs : ∀ j : Nat, (l.map (·.dst))[j]? = (l.toArray[j]?).map fun o : Oper => o.dst := by intro j; simp
  have hlen : l.length = pre.length + 1 + post.length := by rw [hl]; simp; omega
  have hh := h _ fun _ hq => hq
  have key : wpList P l.toArray (fun e a' w' => ∃ s' g', RelS s' g' a' w' ∧ Step g w g' w' ∧ Q e s') l a w := by
    have h2 := wpT_sound2 (P := P) hc (orc := orc) (gs := l.map (·.dst)) (ops := l.toArray) hgs (base := s.nxt) (nxt := s.nxt + l.length)
      (Q := fun e a' w' => ∃ s' g', RelS s' g' a' w' ∧ Step g w g' w' ∧ Q e s') (g0 := g) (w0 := w) (l2 := o :: post) (en := pre.length) (n0 := s.n) (K := fun s1 =>
        s1.eval ox = .hs idq off len ∧ s1.obj idq = some ⟨e, te.size, rows⟩ ∧ rows.length = off + len ∧ (∃ p2, srcRows s1.obj te.size (s1.eval oy) = some (r2, p2) ∧ p2) ∧ 0 < r2.length ∧ (len + r2.length) * te.bytes ≤ 140737488355328 ∧ d < s1.n ∧
        ∀ q, offOut off rows r2 q → wpT ty P orc (l.map (·.dst)) s.nxt (pre.length + 1) post (s1.app (some d) { val := .hs (s.nxt + pre.length) q.1 (len + r2.length), wr := [(idq, none), (s.nxt + pre.length, some ⟨e, te.size, q.2⟩)] }) fun s' => Q .normal s') ?_ pre 0 { s with nxt := s.nxt + l.length } g a w (by simp) rfl rfl ⟨hr.defers, hr.size, hr.tmp, fun id hu => by have := hr.used id hu; simpa using this, hr.heap⟩ (Step.refl g w) hh
    · rw [← hl] at h2; exact h2
    · intro s1 g1 a1 w1 hnx hn0 hrel hst hkk
      simp only [wpList]
      have hw : Region.wanted o (yielded l.toArray a1.tmps) = true := by simp [Region.wanted, hg]
      rw [if_pos hw]
      left
      have hev : ∀ x : Operand, RepA g1 w1 (s1.eval x) (a1.eval x) := fun x => eval_rep hrel (fun _ => rfl) x
      obtain ⟨k1, k2, k3, ⟨p2, k4, k5⟩, k6, k7, k8, k9⟩ := hkk
      have r1 := hev ox
      rw [k1] at r1
      have r3 := hev oy
      have hidn : ¬ g1.used (s.nxt + pre.length) := fun hu => by have := hrel.used _ hu; omega
      obtain ⟨v, w2, hrun, q, hO, hA⟩ := append_off_sound (ty := 0) (hc.ok t ti hti) hk (hc.ok e te hte) hpos hbpos hrel.heap hidn r1 r3 k2 rfl rfl k3 k4 k5 k6 k7
      have hexec : (execOp a1.eval o).run P w1 = .ok (.value v) w2 := by
        have hb : ∀ ty' cs, builtin .append cl.argTypes ty' cs (cl.args.map a1.eval) = (do pure (.value (← Builtin.append_ #[t, t] 0 #[a1.eval ox, a1.eval oy]))) := fun ty' cs => by
          have hca : cl.args.map a1.eval = #[a1.eval ox, a1.eval oy] := by rw [hargs0]; simp
          simp only [builtin, hat, hca]
          rfl
        simp only [execOp, ho, resolve, hcal, pure_bind, invoke, hb, Sem.run_bind, hrun, Result.andThen_ok, Sem.run_pure]
      refine does_value hexec hA _ _ fun v' w' hA' => ?_
      obtain ⟨g2, j1, j2, j3, j4, j5⟩ := hA'
      have hrest := k9 q hO
      have hput := rel_put (U' := fun x => x < s.nxt + (pre.length + 1)) (dst := o.dst) hrel j1 j3 (fun x hx => by
        rcases j4 x hx with hx | hx
        · have := hrel.used x hx; omega
        · omega) j5 (fun d' hd' => by rw [hdst] at hd'; cases hd'; exact k8)
      rw [hdst] at hput
      rw [hdst]
      have hn : (s1.app (some d) { val := .hs (s.nxt + pre.length) q.1 (len + r2.length), wr := [(idq, none), (s.nxt + pre.length, some ⟨e, te.size, q.2⟩)] }).n = s1.n := rfl
      have hnx' : (s1.app (some d) { val := .hs (s.nxt + pre.length) q.1 (len + r2.length), wr := [(idq, none), (s.nxt + pre.length, some ⟨e, te.size, q.2⟩)] }).nxt = s.nxt + l.length := by rw [← hnx]; rfl
      refine wpT_sound (P := P) hc (orc := orc) (gs := l.map (·.dst)) (ops := l.toArray) hgs (base := s.nxt) (nxt := s.nxt + l.length) (K := fun s' => Q .normal s') (g0 := g) (w0 := w)
        (fun s' g' a' w' h1 h2 h3 => ⟨s', g', h1, h2, h3⟩) post (pre.length + 1) _ g2 _ w' (by omega) hnx' ?_ (hst.trans j2) hrest
      rw [hn]
      exact ⟨hput.defers, hput.size, fun t => by rw [app_get]; exact hput.tmp t, hput.used, by
        have : (s1.app (some d) { val := .hs (s.nxt + pre.length) q.1 (len + r2.length), wr := [(idq, none), (s.nxt + pre.length, some ⟨e, te.size, q.2⟩)] }).obj = updL s1.obj [(idq, none), (s.nxt + pre.length, some ⟨e, te.size, q.2⟩)] := funext (app_obj s1 (some d) _)
        rw [this]; exact hput.heap⟩
  have := wpOps_eq_wpList (P := P) (ops := l.toArray) (Q := fun e a' w' => ∃ s' g', RelS s' g' a' w' ∧ Step g w g' w' ∧ Q e s') l 0 (by intro j; simp)
  rw [show List.range l.toArray.size = List.range' 0 l.length by simp [List.range_eq_range'], this]
  exact key

/-! ### The last element is cut off: what is left may stand at the row's end, without room. -/
theorem cut_sound {P : Program} {ty : TypeId → Option TI} (hc : Ctx P ty) {t e : TypeId} {ti te : TI} (hti : ty t = some ti) (hk : ti.kind = .slice e) (hte : ty e = some te) (hpos : 0 < te.size) {g : G} {obj : Nat → Option Ob} {w : World} (h : HRel g obj w) {nid : Nat} (hid : ¬ g.used nid)
    {o : Oper} {a : Act} {ox ol : Operand} (ho : o.op = .slice t ox (some ol) none none) {id off len : Nat} {ob : Ob} {k : IntKind} (hx : RepA g w (.hs id off len) (a.eval ox)) (hl : a.eval ol = .int k (len : Int)) (hob : obj id = some ob) (hm : ob.m = te.size) (hlen : 0 < len) :
    ∃ v, (execOp a.eval o).run P w = .ok (.value v) w ∧ (After g obj w nid { val := .hs id (off + len) 0 } v w ∨ After g obj w nid { val := .hs nid 0 0, wr := [(id, none), (nid, some ⟨e, te.size, []⟩)] } v w) := by
  have hu := kind_slice (hc.ok t ti hti) hk
  obtain ⟨L, hL, hok⟩ := h.own id ob hob
  have hmL : L.m = te.size := by rw [hok.m, hm]
  have hne : nid ≠ id := fun e' => hid (e' ▸ (h.live id L hL).1)
  simp only [RepA] at hx
  rcases hx.2 L hL with ⟨_, _, h0, _⟩ | ⟨hv, hle, hxv⟩
  · omega
  have hrun : (execOp a.eval o).run P w = .ok (.value (.slice (if L.cap - off = len then some (⟨L.blk, off * L.m, none⟩ : Addr) else (some (⟨L.blk, off * L.m, none⟩ : Addr)).map (·.add (len * te.size))) (len - len) (L.cap - off - len))) w := by
    have hb := sliceBounds_run (P := P) (w := w) (len := len) (cap := L.cap - off) (lo := some (.int k (len : Int))) (hi := none) (l := len) (h := len) (.inr ⟨k, rfl⟩) (.inl ⟨rfl, rfl⟩) (by omega) (Int.le_refl _) (Int.le_refl _) (by omega)
    simp only [Int.toNat_natCast] at hb
    simp only [execOp, ho, hxv, hl, Sem.run_bind, Instr.sliceAt, run_underlying hu, Result.andThen_ok, Instr.slice, Option.map_some, Option.map_none, hb, (hc.ok e te hte).sizeOf, Sem.run_pure]
  rw [Nat.sub_self] at hrun
  refine ⟨_, hrun, ?_⟩
  by_cases hcap : L.cap - off = len
  · right
    rw [if_pos hcap, hcap, Nat.sub_self]
    obtain ⟨g1, b1, b2, b3, b4, b5, b6⟩ := h.drop id
    obtain ⟨g', a1, a2, a3, a4, a5, a6⟩ := b4.newVirt (id := nid) (by rw [b1]; exact hid) e te.size hpos
    refine ⟨g', by simpa [updL] using a4, b5.trans a5, ?_, fun x hx' => by rw [a2, b1] at hx'; exact hx', ?_⟩
    · exact ⟨fun b hb => by
        have := a6.fut b (by rw [b2]; exact hb)
        exact this, fun x hx' => a6.used x (by rw [b1]; exact hx'), fun x hx' => by
        have h1 := a6.loc x (by rw [b1]; exact hx')
        rw [b3] at h1
        by_cases e' : x = id
        · simp only [e', if_true] at h1 ⊢
          right
          rcases h1 with h1 | h1 <;> exact h1
        · simpa [e'] using h1⟩
    · simp only [RepA]
      refine ⟨⟨by rw [a2]; exact .inr rfl, rfl⟩, fun M hM => ?_⟩
      rw [a1] at hM; cases hM
      exact .inl ⟨by trivial, by trivial, by trivial, _, rfl⟩
  · left
    rw [if_neg hcap]
    refine After.same h ?_
    simp only [RepA]
    refine ⟨⟨hx.1.1, rfl⟩, fun M hM => ?_⟩
    rw [hL] at hM; cases hM
    refine .inr ⟨hv, by omega, ?_⟩
    simp only [Option.map_some, add_addr, hmL, Nat.add_mul]
    congr 1
    omega

/-- A REGION IN THE TEXT's ORDER that cuts off all that a slice holds. -/
theorem awp_region_cut {P : Program} {ty : TypeId → Option TI} (hc : Ctx P ty) (orc : List (Nat × Res)) {id : Nat} {l : List Oper} (pre post : List Oper) (o : Oper) (hl : l = pre ++ o :: post) (hg : o.guard = none) {t e : TypeId} {ti te : TI} {ox ol : Operand}
    (ho : o.op = .slice t ox (some ol) none none) {d : Tmp} (hdst : o.dst = some d) (hti : ty t = some ti) (hk : ti.kind = .slice e) (hte : ty e = some te) (hpos : 0 < te.size)
    (idq off len : Nat) {Q : Exit → St → Prop} {s : St}
    (h : ∀ K : St → Prop, (∀ s', Q .normal s' → K s') → wpT ty P orc (l.map (·.dst)) s.nxt 0 pre { s with nxt := s.nxt + l.length } fun s1 =>
      s1.eval ox = .hs idq off len ∧ (∃ k, s1.eval ol = .d (.int k (len : Int))) ∧ (∃ ob, s1.obj idq = some ob ∧ ob.m = te.size) ∧ 0 < len ∧ d < s1.n ∧
      wpT ty P orc (l.map (·.dst)) s.nxt (pre.length + 1) post (s1.app (some d) { val := .hs idq (off + len) 0 }) K ∧
      wpT ty P orc (l.map (·.dst)) s.nxt (pre.length + 1) post (s1.app (some d) { val := .hs (s.nxt + pre.length) 0 0, wr := [(idq, none), (s.nxt + pre.length, some ⟨e, te.size, []⟩)] }) K) : AWp P (.region id l.toArray false) Q s := by
  intro g a w hr
  refine wp_region ?_
  have hgs : ∀ j : Nat, (l.map (·.dst))[j]? = (l.toArray[j]?).map fun o : Oper => o.dst := by intro j; simp
  have hlen : l.length = pre.length + 1 + post.length := by rw [hl]; simp; omega
  have hh := h _ fun _ hq => hq
  have key : wpList P l.toArray (fun e a' w' => ∃ s' g', RelS s' g' a' w' ∧ Step g w g' w' ∧ Q e s') l a w := by
    have h2 := wpT_sound2 (P := P) hc (orc := orc) (gs := l.map (·.dst)) (ops := l.toArray) hgs (base := s.nxt) (nxt := s.nxt + l.length)
      (Q := fun e a' w' => ∃ s' g', RelS s' g' a' w' ∧ Step g w g' w' ∧ Q e s') (g0 := g) (w0 := w) (l2 := o :: post) (en := pre.length) (n0 := s.n) (K := fun s1 =>
        s1.eval ox = .hs idq off len ∧ (∃ k, s1.eval ol = .d (.int k (len : Int))) ∧ (∃ ob, s1.obj idq = some ob ∧ ob.m = te.size) ∧ 0 < len ∧ d < s1.n ∧
        wpT ty P orc (l.map (·.dst)) s.nxt (pre.length + 1) post (s1.app (some d) { val := .hs idq (off + len) 0 }) (fun s' => Q .normal s') ∧
        wpT ty P orc (l.map (·.dst)) s.nxt (pre.length + 1) post (s1.app (some d) { val := .hs (s.nxt + pre.length) 0 0, wr := [(idq, none), (s.nxt + pre.length, some ⟨e, te.size, []⟩)] }) fun s' => Q .normal s') ?_ pre 0 { s with nxt := s.nxt + l.length } g a w (by simp) rfl rfl ⟨hr.defers, hr.size, hr.tmp, fun id hu => by have := hr.used id hu; simpa using this, hr.heap⟩ (Step.refl g w) hh
    · rw [← hl] at h2; exact h2
    · intro s1 g1 a1 w1 hnx hn0 hrel hst hkk
      simp only [wpList]
      have hw : Region.wanted o (yielded l.toArray a1.tmps) = true := by simp [Region.wanted, hg]
      rw [if_pos hw]
      left
      have hev : ∀ x : Operand, RepA g1 w1 (s1.eval x) (a1.eval x) := fun x => eval_rep hrel (fun _ => rfl) x
      obtain ⟨k1, ⟨kk, k2⟩, ⟨ob, k3, k4⟩, k5, k6, k7, k8⟩ := hkk
      have r1 := hev ox
      rw [k1] at r1
      have r2 := hev ol
      rw [k2] at r2
      simp only [RepA, RepD] at r2
      have hidn : ¬ g1.used (s.nxt + pre.length) := fun hu => by have := hrel.used _ hu; omega
      obtain ⟨v, hrun, hA⟩ := cut_sound hc hti hk hte hpos hrel.heap hidn ho r1 r2 k3 k4 k5
      have fin : ∀ (ef : Eff), After g1 s1.obj w1 (s.nxt + pre.length) ef v w1 → wpT ty P orc (l.map (·.dst)) s.nxt (pre.length + 1) post (s1.app (some d) ef) (fun s' => Q .normal s') → o.wp P a1 w1 (fun a' w' => wpList P l.toArray (fun e a' w' => ∃ s' g', RelS s' g' a' w' ∧ Step g w g' w' ∧ Q e s') post a' w') (fun e a' w' => ∃ s' g', RelS s' g' a' w' ∧ Step g w g' w' ∧ Q e s') := by
        intro ef hA hrest
        refine does_value hrun hA _ _ fun v' w' hA' => ?_
        obtain ⟨g2, j1, j2, j3, j4, j5⟩ := hA'
        have hput := rel_put (U' := fun x => x < s.nxt + (pre.length + 1)) (dst := o.dst) hrel j1 j3 (fun x hx => by
          rcases j4 x hx with hx | hx
          · have := hrel.used x hx; omega
          · omega) j5 (fun d' hd' => by rw [hdst] at hd'; cases hd'; exact k6)
        rw [hdst] at hput
        rw [hdst]
        have hn : (s1.app (some d) ef).n = s1.n := rfl
        have hnx' : (s1.app (some d) ef).nxt = s.nxt + l.length := by rw [← hnx]; rfl
        refine wpT_sound (P := P) hc (orc := orc) (gs := l.map (·.dst)) (ops := l.toArray) hgs (base := s.nxt) (nxt := s.nxt + l.length) (K := fun s' => Q .normal s') (g0 := g) (w0 := w)
          (fun s' g' a' w' h1 h2 h3 => ⟨s', g', h1, h2, h3⟩) post (pre.length + 1) _ g2 _ w' (by omega) hnx' ?_ (hst.trans j2) hrest
        rw [hn]
        exact ⟨hput.defers, hput.size, fun t => by rw [app_get]; exact hput.tmp t, hput.used, by
          have : (s1.app (some d) ef).obj = updL s1.obj ef.wr := funext (app_obj s1 (some d) _)
          rw [this]; exact hput.heap⟩
      rcases hA with hA | hA
      · exact fin _ hA k7
      · exact fin _ hA k8
  have := wpOps_eq_wpList (P := P) (ops := l.toArray) (Q := fun e a' w' => ∃ s' g', RelS s' g' a' w' ∧ Step g w g' w' ∧ Q e s') l 0 (by intro j; simp)
  rw [show List.range l.toArray.size = List.range' 0 l.length by simp [List.range_eq_range'], this]
  exact key
end Go.Abs

set_option linter.unusedVariables false
set_option linter.unusedSimpArgs false
set_option maxRecDepth 100000
namespace Go.Proofs.YtagakfaiimaifaaGreat
open Go.Abs

set_option maxHeartbeats 16000000 in
theorem erode20_ok (R : List Row) (hv : validR R = true) : PC Tryz.prog 67 [.agg (regRow R), .int .i64 1] (.p (.agg (regRow (eroR R 1)))) := by
  have hR := small_valid hv
  have c1 := validR_ok R hR
  rw [hv] at c1
  have c2 := reach20_ok
  have hres : eroR R 1 = mapR (eroF R 1) R := by
    unfold eroR
    rw [if_pos (by simp [reachB, hv])]; rfl
  have hall : mapR (eroF R 1) (R.take R.length) = eroR R 1 := by rw [List.take_length, hres]
  have hXl := fun k => mapR_len (eroF R 1) (R.take k)
  have hsr := fun (w : Row) (hw : w ∈ R) => shrink6_ok w.runs (by have := valid_runs hv hw; omega) (fine_rv (row_fine hv hw).2)
  have hrl := fun (w : Row) (hw : w ∈ R) => valid_runs hv hw
  have hel := fun w => (eroF_ok hv (show 1 ≤ 64 by omega) w).len
  have hRl := hR.1
  generalize eroR R 1 = W at *
  clear hres
  refine pc_of_awp cx (fn := Tryz.f67) (c := _) Tryz.func67 rfl rfl (Nat.le_of_ble_eq_true rfl) ?_
  rw [Tryz.ntmps67]; refine Nav.imp ?_
  refine awp_region cx [] fun K hK => ?_
  simp [push_cast]
  repeat (refine And.intro (by clear hK; intros; first | omega | (simp_all; done) | (simp_all <;> omega)) ?_)
  refine hK _ ?_; clear hK K; refine Nav.imp ?_
  refine awp_region cx [(1, .p (.bool true)), (5, .p (.bool true))] fun K hK => ?_
  simp [push_cast, c1, c2]
  repeat (refine And.intro (by clear hK; intros; first | omega | (simp_all; done) | (simp_all <;> omega)) ?_)
  refine hK _ ?_; clear hK K; refine Nav.imp ?_
  refine awp_cond (b := false) (by simp [push_cast]) (fun hb => ?_) (fun hb => ?_) <;> (refine Nav.imp ?_)
  · simp at hb
  · refine awp_region cx [] fun K hK => ?_
    simp [push_cast]
    repeat (refine And.intro (by clear hK; intros; first | omega | (simp_all; done) | (simp_all <;> omega)) ?_)
    refine hK _ ?_; clear hK K; refine Nav.imp ?_
    refine awp_region cx [] fun K hK => ?_
    simp [push_cast]
    repeat (refine And.intro (by clear hK; intros; first | omega | (simp_all; done) | (simp_all <;> omega)) ?_)
    refine hK _ ?_; clear hK K; refine Nav.imp ?_
    refine awp_loop (β := Nat × List Row) (fun s => ⟨117, [(1, .d (.int .i64 1)), (2, .ptr 0 0 0), (4, .ptr 1 0 0), (5, .ptr 2 0 0), (20, .d (encRows R)), (21, .d (.int .i64 R.length)), (22, .d (.int .i64 s.1))], [(0, some ⟨24, 1, [(regRow R).map .d]⟩), (1, some ⟨24, 1, [[.nl]]⟩), (2, some ⟨24, 1, [[.hs 3 0 s.2.length]]⟩), (3, some ⟨52, 2, dr (s.2.map Row.row)⟩)], 4⟩) (fun s => s.1 ≤ R.length ∧ s.2 = mapR (eroF R 1) (R.take s.1)) (fun s => R.length - s.1) (0, []) ?_ ⟨Nat.zero_le _, rfl⟩ ?_
    · refine weak_of [(0, some 0), (1, some 1), (2, some 10), (3, none)] rfl (by simp [upT, up, upL, push_cast]) (by simp [upH, upR, upL, up, push_cast]) (by simp [namesOk, push_cast]) (by simp [olds])
    · rintro ⟨i, X⟩ ⟨hi, hX⟩
      simp only at hi hX
      have hXn := hXl i
      rw [← hX, List.length_take] at hXn
      refine Nav.imp ?_
      refine awp_region cx [] fun K hK => ?_
      simp [push_cast]
      repeat (refine And.intro (by clear hK; intros; first | omega | (simp_all; done) | (simp_all <;> omega)) ?_)
      refine hK _ ?_; clear hK K; refine Nav.imp ?_
      refine awp_cond (b := decide ((i : Int) < R.length)) (by simp [push_cast]) (fun hb => ?_) (fun hb => ?_) <;> (refine Nav.imp ?_)
      · have hlt : i < R.length := by simpa using hb
        obtain ⟨w, hw⟩ := getq hlt
        have hwm := List.mem_of_getElem? hw
        have e0 := wrap_i64 (n := (i : Int) + 1) (by omega) (by omega)
        have e1 := wrap_i64 (n := (i : Int) - 1) (by omega) (by omega)
        have hnx := mapR_take (F := eroF R 1) hw
        rw [← hX] at hnx
        have c3 := hsr w hwm
        have hwy := (row_fine hv hwm).1
        have hnone := @ero_none R hv i w hw
        have hboth := fun p n => @ero_both R hv i w p n hw
        have hgl := hel w
        have hrowm : mapRow (eroF R 1) w = if eroF R 1 w = [] then [] else [⟨w.y, eroF R 1 w⟩] := rfl
        rw [hrowm] at hnx
        generalize eroF R 1 w = g at *
        have h32 : (X.length + 1) * 32 ≤ 140737488355328 := by omega
        obtain ⟨y, L⟩ := w
        simp only at c3 hwy hnone hboth
        have w1 := wrap_i64 (n := y - 1) (by omega) (by omega)
        have w2 := wrap_i64 (n := y + 1) (by omega) (by omega)
        have hbn : g = [] → mapR (eroF R 1) (R.take (i + 1)) = X := fun h => by rw [hnx, if_pos h, List.append_nil]
        have hby : g ≠ [] → mapR (eroF R 1) (R.take (i + 1)) = X ++ [⟨y, g⟩] := fun h => by rw [hnx, if_neg h]
        clear hnx hrowm
        refine awp_region cx [] fun K hK => ?_
        simp [push_cast, hw, Row.row]
        repeat (refine And.intro (by clear hK; intros; first | omega | (simp_all; done) | (simp_all <;> omega)) ?_)
        refine hK _ ?_; clear hK K; refine Nav.imp ?_
        refine awp_region cx [(3, .p (encRuns (shrK 1 L)))] fun K hK => ?_
        simp [push_cast, c3, Row.row]
        repeat (refine And.intro (by clear hK; intros; first | omega | (simp_all; done) | (simp_all <;> omega)) ?_)
        refine hK _ ?_; clear hK K; refine Nav.imp ?_
        refine awp_region cx [] fun K hK => ?_
        simp [push_cast]
        repeat (refine And.intro (by clear hK; intros; first | omega | (simp_all; done) | (simp_all <;> omega)) ?_)
        refine hK _ ?_; clear hK K; refine Nav.imp ?_
        refine awp_loop (β := Nat × List Run) (fun s => ⟨117, [(1, .d (.int .i64 1)), (2, .ptr 0 0 0), (4, .ptr 1 0 0), (5, .ptr 2 0 0), (6, .d (.int .i64 i)), (7, .ptr 4 0 0), (8, .d (encRuns s.2)), (9, .d (.int .i64 s.1)), (20, .d (encRows R)), (21, .d (.int .i64 R.length)), (22, .d (.int .i64 i))], [(0, some ⟨24, 1, [(regRow R).map .d]⟩), (1, some ⟨24, 1, [[.nl]]⟩), (2, some ⟨24, 1, [[.hs 3 0 X.length]]⟩), (3, some ⟨52, 2, dr (X.map Row.row)⟩), (4, some ⟨52, 2, [(Row.row ⟨y, L⟩).map .d]⟩)], 5⟩) (fun s => (s.1 = 1 ∧ s.2 = shrK 1 L) ∨ (s.1 = 2 ∧ s.2 = g)) (fun s => 2 - s.1) (1, shrK 1 L) ?_ (.inl ⟨rfl, rfl⟩) ?_
        · refine weak_of [(0, some 0), (1, some 1), (2, some 2), (3, some 3), (4, some 8)] rfl (by simp [upT, up, upL, push_cast, Row.row]) (by simp [upH, upR, upL, up, push_cast, Row.row]) (by simp [namesOk, push_cast]) (by simp [olds])
        · rintro ⟨d, l⟩ hdl
          simp only at hdl
          refine Nav.imp ?_
          rcases hdl with ⟨rfl, rfl⟩ | ⟨rfl, rfl⟩
          · refine awp_region cx [] fun K hK => ?_
            simp [push_cast]
            repeat (refine And.intro (by clear hK; intros; first | omega | (simp_all; done) | (simp_all <;> omega)) ?_)
            refine hK _ ?_; clear hK K; refine Nav.imp ?_
            refine awp_cond (b := true) (by simp [push_cast]) (fun hb => ?_) (fun hb => ?_) <;> (refine Nav.imp ?_)
            · by_cases hi0 : i = 0
              · have hg := hnone fun h => by obtain ⟨⟨p, q, _⟩, _⟩ := h; omega
                subst hi0
                by_cases hn1 : 0 + 1 < R.length
                · obtain ⟨n, hn⟩ := getq hn1
                  obtain ⟨ny, nL⟩ := n
                  have hn1' : 1 < R.length := hn1
                  have hn2 : ¬ R.length ≤ 1 := by omega
                  have hn' : R[1]? = some ⟨ny, nL⟩ := hn
                  refine awp_region_draw cx mixed [] fun K hK => ?_
                  simp [push_cast, hw, hn', hn1', hn2, w1, w2, Row.row]
                  repeat (refine And.intro (by clear hK; intros; first | omega | (simp_all; done) | (simp_all <;> omega)) ?_)
                  refine hK _ _ (by kernel_rfl) ?_; clear hK K; refine Nav.imp ?_
                  refine awp_cond (b := true) (by simp [push_cast]) (fun hb => ?_) (fun hb => ?_) <;> (refine Nav.imp ?_)
                  · refine awp_region cx [] fun K hK => ?_
                    simp [push_cast]
                    repeat (refine And.intro (by clear hK; intros; first | omega | (simp_all; done) | (simp_all <;> omega)) ?_)
                    refine hK _ ?_; clear hK K; refine Nav.imp ?_
                    refine awp_region cx [] fun K hK => ?_
                    simp [push_cast]
                    repeat (refine And.intro (by clear hK; intros; first | omega | (simp_all; done) | (simp_all <;> omega)) ?_)
                    refine hK _ ?_; clear hK K; refine Nav.imp ?_
                    refine awp_cond (b := false) (by simp [push_cast]) (fun hb => ?_) (fun hb => ?_) <;> (refine Nav.imp ?_)
                    · simp at hb
                    · refine awp_region cx [] fun K hK => ?_
                      simp [push_cast, e0]
                      repeat (refine And.intro (by clear hK; intros; first | omega | (simp_all; done) | (simp_all <;> omega)) ?_)
                      refine hK _ ?_; clear hK K; refine Nav.imp ?_
                      refine ⟨(0 + 1, X), ⟨hlt, (hbn hg).symm⟩, by simp only; omega, ?_⟩
                      refine weak_of [(0, some 0), (1, some 1), (2, some 2), (3, some 3)] rfl (by simp [upT, up, upL, push_cast]) (by simp [upH, upR, upL, up, push_cast]) (by simp [namesOk, push_cast]) (by simp [olds])
                  · simp at hb
                · have hn2 : R.length ≤ 1 := by omega
                  have hn' : R[1]? = none := List.getElem?_eq_none hn2
                  refine awp_region_draw cx mixed [] fun K hK => ?_
                  simp [push_cast, hw, hn', hn2, w1, w2, Row.row]
                  repeat (refine And.intro (by clear hK; intros; first | omega | (simp_all; done) | (simp_all <;> omega)) ?_)
                  refine hK _ _ (by kernel_rfl) ?_; clear hK K; refine Nav.imp ?_
                  refine awp_cond (b := true) (by simp [push_cast]) (fun hb => ?_) (fun hb => ?_) <;> (refine Nav.imp ?_)
                  · refine awp_region cx [] fun K hK => ?_
                    simp [push_cast]
                    repeat (refine And.intro (by clear hK; intros; first | omega | (simp_all; done) | (simp_all <;> omega)) ?_)
                    refine hK _ ?_; clear hK K; refine Nav.imp ?_
                    refine awp_region cx [] fun K hK => ?_
                    simp [push_cast]
                    repeat (refine And.intro (by clear hK; intros; first | omega | (simp_all; done) | (simp_all <;> omega)) ?_)
                    refine hK _ ?_; clear hK K; refine Nav.imp ?_
                    refine awp_cond (b := false) (by simp [push_cast]) (fun hb => ?_) (fun hb => ?_) <;> (refine Nav.imp ?_)
                    · simp at hb
                    · refine awp_region cx [] fun K hK => ?_
                      simp [push_cast, e0]
                      repeat (refine And.intro (by clear hK; intros; first | omega | (simp_all; done) | (simp_all <;> omega)) ?_)
                      refine hK _ ?_; clear hK K; refine Nav.imp ?_
                      refine ⟨(0 + 1, X), ⟨hlt, (hbn hg).symm⟩, by simp only; omega, ?_⟩
                      refine weak_of [(0, some 0), (1, some 1), (2, some 2), (3, some 3)] rfl (by simp [upT, up, upL, push_cast]) (by simp [upH, upR, upL, up, push_cast]) (by simp [namesOk, push_cast]) (by simp [olds])
                  · simp at hb
              · obtain ⟨p, hp⟩ := getq (show i - 1 < R.length by omega)
                have hi1 : ¬ (i : Int) - 1 < 0 := by omega
                have hi2 : (0 : Int) ≤ (i : Int) - 1 := by omega
                have hi3 : (i : Int) - 1 < (R.length : Int) := by omega
                have hi4 : ((i : Int) - 1).toNat = i - 1 := by omega
                have hi5 : 1 ≤ i := by omega
                have hi6 : ¬ i < 1 := by omega
                have hpc := hsr p (List.mem_of_getElem? hp)
                have hpl := hrl p (List.mem_of_getElem? hp)
                have hbp := hboth p
                by_cases ep : p.y = y - 1
                · by_cases hn1 : i + 1 < R.length
                  · obtain ⟨n, hn⟩ := getq hn1
                    have hnc := hsr n (List.mem_of_getElem? hn)
                    have hnl := hrl n (List.mem_of_getElem? hn)
                    have hn2 : ¬ R.length ≤ i + 1 := by omega
                    have hn3 : ((i : Int) + 1).toNat = i + 1 := by omega
                    have hn4 : (0 : Int) ≤ (i : Int) + 1 := by omega
                    have hn5 : (i : Int) + 1 < (R.length : Int) := by omega
                    have hn6 : ¬ (R.length : Int) ≤ (i : Int) + 1 := by omega
                    by_cases en : n.y = y + 1
                    · obtain ⟨hg, r1, r2, r3, r4, l4⟩ := hbp n hp hn ep en
                      have l1 := @shr_len 1 L
                      have l2 := @shr_len 1 p.runs
                      have l3 := @shr_len 1 n.runs
                      have hLl := hrl _ hwm
                      simp only at hLl
                      have d1 := intersect6_ok (shrK 1 L) (shrK 1 p.runs) (by omega) (by omega) r1 r2
                      have d2 := intersect6_ok (sweep fI (shrK 1 L) (shrK 1 p.runs)) (shrK 1 n.runs) (by omega) (by omega) r4 r3
                      rw [← hg] at d2
                      obtain ⟨py, pL⟩ := p
                      obtain ⟨ny, nL⟩ := n
                      simp only at ep en hpc hnc d1 d2
                      subst ep en
                      clear hboth hbp hnone hg
                      refine awp_region_draw cx mixed [] fun K hK => ?_
                      simp [push_cast, e0, e1, w1, w2, hi1, hi2, hi3, hi4, hi5, hi6, hp, hn, hn2, hn3, hn4, hn5, hn6, Row.row]
                      repeat (refine And.intro (by clear hK; intros; first | omega | (simp_all; done) | (simp_all <;> omega)) ?_)
                      refine hK _ _ (by kernel_rfl) ?_; clear hK K; refine Nav.imp ?_
                      refine awp_cond (b := false) (by simp [push_cast, hi6, hn2]) (fun hb => ?_) (fun hb => ?_) <;> (refine Nav.imp ?_)
                      · simp at hb
                      · refine awp_region cx [(10, .p (encRuns (shrK 1 pL))), (11, .p (encRuns (sweep fI (shrK 1 L) (shrK 1 pL))))] fun K hK => ?_
                        simp [push_cast, hpc, d1, e1, hi2, hi3, hi4, hi5, hp, Row.row]
                        repeat (refine And.intro (by clear hK; intros; first | omega | (simp_all; done) | (simp_all <;> omega)) ?_)
                        refine hK _ ?_; clear hK K; refine Nav.imp ?_
                        refine awp_region cx [(10, .p (encRuns (shrK 1 nL))), (11, .p (encRuns g))] fun K hK => ?_
                        simp [push_cast, hnc, d2, e0, hn3, hn4, hn5, hn1, hn, Row.row]
                        repeat (refine And.intro (by clear hK; intros; first | omega | (simp_all; done) | (simp_all <;> omega)) ?_)
                        refine hK _ ?_; clear hK K; refine Nav.imp ?_
                        refine awp_region cx [] fun K hK => ?_
                        simp [push_cast]
                        repeat (refine And.intro (by clear hK; intros; first | omega | (simp_all; done) | (simp_all <;> omega)) ?_)
                        refine hK _ ?_; clear hK K; refine Nav.imp ?_
                        refine ⟨(2, g), .inr ⟨rfl, rfl⟩, by simp, ?_⟩
                        refine weak_of [(0, some 0), (1, some 1), (2, some 2), (3, some 3), (4, some 4)] rfl (by simp [upT, up, upL, push_cast, Row.row]) (by simp [upH, upR, upL, up, push_cast, Row.row]) (by simp [namesOk, push_cast]) (by simp [olds])
                    · have hg := hnone fun h => by
                        obtain ⟨_, n2, q1, q2⟩ := h
                        rw [hn] at q1; cases q1; exact en q2
                      obtain ⟨py, pL⟩ := p
                      obtain ⟨ny, nL⟩ := n
                      simp only at ep en
                      refine awp_region_draw cx mixed [] fun K hK => ?_
                      simp [push_cast, e0, e1, w1, w2, hi1, hi2, hi3, hi4, hi5, hi6, hp, hn, hn2, hn3, hn4, hn5, hn6, ep, en, Row.row]
                      repeat (refine And.intro (by clear hK; intros; first | omega | (simp_all; done) | (simp_all <;> omega)) ?_)
                      refine hK _ _ (by kernel_rfl) ?_; clear hK K; refine Nav.imp ?_
                      refine awp_cond (b := true) (by simp [push_cast, hi6, hn2, en]) (fun hb => ?_) (fun hb => ?_) <;> (refine Nav.imp ?_)
                      · refine awp_region cx [] fun K hK => ?_
                        simp [push_cast]
                        repeat (refine And.intro (by clear hK; intros; first | omega | (simp_all; done) | (simp_all <;> omega)) ?_)
                        refine hK _ ?_; clear hK K; refine Nav.imp ?_
                        refine awp_region cx [] fun K hK => ?_
                        simp [push_cast]
                        repeat (refine And.intro (by clear hK; intros; first | omega | (simp_all; done) | (simp_all <;> omega)) ?_)
                        refine hK _ ?_; clear hK K; refine Nav.imp ?_
                        refine awp_cond (b := false) (by simp [push_cast]) (fun hb => ?_) (fun hb => ?_) <;> (refine Nav.imp ?_)
                        · simp at hb
                        · refine awp_region cx [] fun K hK => ?_
                          simp [push_cast, e0]
                          repeat (refine And.intro (by clear hK; intros; first | omega | (simp_all; done) | (simp_all <;> omega)) ?_)
                          refine hK _ ?_; clear hK K; refine Nav.imp ?_
                          refine ⟨(i + 1, X), ⟨hlt, (hbn hg).symm⟩, by simp only; omega, ?_⟩
                          refine weak_of [(0, some 0), (1, some 1), (2, some 2), (3, some 3)] rfl (by simp [upT, up, upL, push_cast]) (by simp [upH, upR, upL, up, push_cast]) (by simp [namesOk, push_cast]) (by simp [olds])
                      · simp at hb
                  · have hn2 : R.length ≤ i + 1 := by omega
                    have hn6 : (R.length : Int) ≤ (i : Int) + 1 := by omega
                    have hg := hnone fun h => by
                      obtain ⟨_, n2, q1, q2⟩ := h
                      have := (List.getElem?_eq_some_iff.1 q1).1; omega
                    obtain ⟨py, pL⟩ := p
                    simp only at ep
                    refine awp_region_draw cx mixed [] fun K hK => ?_
                    simp [push_cast, e0, e1, w1, hi1, hi2, hi3, hi4, hi5, hi6, hp, hn2, hn6, ep, Row.row]
                    repeat (refine And.intro (by clear hK; intros; first | omega | (simp_all; done) | (simp_all <;> omega)) ?_)
                    refine hK _ _ (by kernel_rfl) ?_; clear hK K; refine Nav.imp ?_
                    refine awp_cond (b := true) (by simp [push_cast, hi6, hn2]) (fun hb => ?_) (fun hb => ?_) <;> (refine Nav.imp ?_)
                    · refine awp_region cx [] fun K hK => ?_
                      simp [push_cast]
                      repeat (refine And.intro (by clear hK; intros; first | omega | (simp_all; done) | (simp_all <;> omega)) ?_)
                      refine hK _ ?_; clear hK K; refine Nav.imp ?_
                      refine awp_region cx [] fun K hK => ?_
                      simp [push_cast]
                      repeat (refine And.intro (by clear hK; intros; first | omega | (simp_all; done) | (simp_all <;> omega)) ?_)
                      refine hK _ ?_; clear hK K; refine Nav.imp ?_
                      refine awp_cond (b := false) (by simp [push_cast]) (fun hb => ?_) (fun hb => ?_) <;> (refine Nav.imp ?_)
                      · simp at hb
                      · refine awp_region cx [] fun K hK => ?_
                        simp [push_cast, e0]
                        repeat (refine And.intro (by clear hK; intros; first | omega | (simp_all; done) | (simp_all <;> omega)) ?_)
                        refine hK _ ?_; clear hK K; refine Nav.imp ?_
                        refine ⟨(i + 1, X), ⟨hlt, (hbn hg).symm⟩, by simp only; omega, ?_⟩
                        refine weak_of [(0, some 0), (1, some 1), (2, some 2), (3, some 3)] rfl (by simp [upT, up, upL, push_cast]) (by simp [upH, upR, upL, up, push_cast]) (by simp [namesOk, push_cast]) (by simp [olds])
                    · simp at hb
                · have hg := hnone fun h => by
                    obtain ⟨⟨p2, _, q1, q2⟩, _⟩ := h
                    rw [hp] at q1; cases q1; exact ep q2
                  obtain ⟨py, pL⟩ := p
                  simp only at ep
                  by_cases hn1 : i + 1 < R.length
                  · obtain ⟨n, hn⟩ := getq hn1
                    obtain ⟨ny, nL⟩ := n
                    have hn2 : ¬ R.length ≤ i + 1 := by omega
                    have hn3 : ((i : Int) + 1).toNat = i + 1 := by omega
                    have hn4 : (0 : Int) ≤ (i : Int) + 1 := by omega
                    have hn5 : (i : Int) + 1 < (R.length : Int) := by omega
                    have hn6 : ¬ (R.length : Int) ≤ (i : Int) + 1 := by omega
                    refine awp_region_draw cx mixed [] fun K hK => ?_
                    simp [push_cast, e0, e1, w1, w2, hi1, hi2, hi3, hi4, hi5, hi6, hp, ep, hn, hn2, hn3, hn4, hn5, hn6, Row.row]
                    repeat (refine And.intro (by clear hK; intros; first | omega | (simp_all; done) | (simp_all <;> omega)) ?_)
                    refine hK _ _ (by kernel_rfl) ?_; clear hK K; refine Nav.imp ?_
                    refine awp_cond (b := true) (by simp [push_cast, hi6, ep]) (fun hb => ?_) (fun hb => ?_) <;> (refine Nav.imp ?_)
                    · refine awp_region cx [] fun K hK => ?_
                      simp [push_cast]
                      repeat (refine And.intro (by clear hK; intros; first | omega | (simp_all; done) | (simp_all <;> omega)) ?_)
                      refine hK _ ?_; clear hK K; refine Nav.imp ?_
                      refine awp_region cx [] fun K hK => ?_
                      simp [push_cast]
                      repeat (refine And.intro (by clear hK; intros; first | omega | (simp_all; done) | (simp_all <;> omega)) ?_)
                      refine hK _ ?_; clear hK K; refine Nav.imp ?_
                      refine awp_cond (b := false) (by simp [push_cast]) (fun hb => ?_) (fun hb => ?_) <;> (refine Nav.imp ?_)
                      · simp at hb
                      · refine awp_region cx [] fun K hK => ?_
                        simp [push_cast, e0]
                        repeat (refine And.intro (by clear hK; intros; first | omega | (simp_all; done) | (simp_all <;> omega)) ?_)
                        refine hK _ ?_; clear hK K; refine Nav.imp ?_
                        refine ⟨(i + 1, X), ⟨hlt, (hbn hg).symm⟩, by simp only; omega, ?_⟩
                        refine weak_of [(0, some 0), (1, some 1), (2, some 2), (3, some 3)] rfl (by simp [upT, up, upL, push_cast]) (by simp [upH, upR, upL, up, push_cast]) (by simp [namesOk, push_cast]) (by simp [olds])
                    · simp at hb
                  · have hn2 : R.length ≤ i + 1 := by omega
                    have hn3 : ((i : Int) + 1).toNat = i + 1 := by omega
                    have hn6 : (R.length : Int) ≤ (i : Int) + 1 := by omega
                    have hn : R[i + 1]? = none := List.getElem?_eq_none hn2
                    refine awp_region_draw cx mixed [] fun K hK => ?_
                    simp [push_cast, e0, e1, w1, w2, hi1, hi2, hi3, hi4, hi5, hi6, hp, ep, hn, hn2, hn3, hn6, Row.row]
                    repeat (refine And.intro (by clear hK; intros; first | omega | (simp_all; done) | (simp_all <;> omega)) ?_)
                    refine hK _ _ (by kernel_rfl) ?_; clear hK K; refine Nav.imp ?_
                    refine awp_cond (b := true) (by simp [push_cast, hi6, ep]) (fun hb => ?_) (fun hb => ?_) <;> (refine Nav.imp ?_)
                    · refine awp_region cx [] fun K hK => ?_
                      simp [push_cast]
                      repeat (refine And.intro (by clear hK; intros; first | omega | (simp_all; done) | (simp_all <;> omega)) ?_)
                      refine hK _ ?_; clear hK K; refine Nav.imp ?_
                      refine awp_region cx [] fun K hK => ?_
                      simp [push_cast]
                      repeat (refine And.intro (by clear hK; intros; first | omega | (simp_all; done) | (simp_all <;> omega)) ?_)
                      refine hK _ ?_; clear hK K; refine Nav.imp ?_
                      refine awp_cond (b := false) (by simp [push_cast]) (fun hb => ?_) (fun hb => ?_) <;> (refine Nav.imp ?_)
                      · simp at hb
                      · refine awp_region cx [] fun K hK => ?_
                        simp [push_cast, e0]
                        repeat (refine And.intro (by clear hK; intros; first | omega | (simp_all; done) | (simp_all <;> omega)) ?_)
                        refine hK _ ?_; clear hK K; refine Nav.imp ?_
                        refine ⟨(i + 1, X), ⟨hlt, (hbn hg).symm⟩, by simp only; omega, ?_⟩
                        refine weak_of [(0, some 0), (1, some 1), (2, some 2), (3, some 3)] rfl (by simp [upT, up, upL, push_cast]) (by simp [upH, upR, upL, up, push_cast]) (by simp [namesOk, push_cast]) (by simp [olds])
                    · simp at hb
            · simp at hb
          · refine awp_region cx [] fun K hK => ?_
            simp [push_cast]
            repeat (refine And.intro (by clear hK; intros; first | omega | (simp_all; done) | (simp_all <;> omega)) ?_)
            refine hK _ ?_; clear hK K; refine Nav.imp ?_
            refine awp_cond (b := false) (by simp [push_cast]) (fun hb => ?_) (fun hb => ?_) <;> (refine Nav.imp ?_)
            · simp at hb
            · cases l with
              | nil =>
                refine awp_region cx [] fun K hK => ?_
                simp [push_cast]
                repeat (refine And.intro (by clear hK; intros; first | omega | (simp_all; done) | (simp_all <;> omega)) ?_)
                refine hK _ ?_; clear hK K; refine Nav.imp ?_
                refine awp_cond (b := false) (by simp [push_cast]) (fun hb => ?_) (fun hb => ?_) <;> (refine Nav.imp ?_)
                · simp at hb
                · refine awp_region cx [] fun K hK => ?_
                  simp [push_cast, e0]
                  repeat (refine And.intro (by clear hK; intros; first | omega | (simp_all; done) | (simp_all <;> omega)) ?_)
                  refine hK _ ?_; clear hK K; refine Nav.imp ?_
                  refine ⟨(i + 1, X), ⟨hlt, (hbn rfl).symm⟩, by simp only; omega, ?_⟩
                  refine weak_of [(0, some 0), (1, some 1), (2, some 2), (3, some 3)] rfl (by simp [upT, up, upL, push_cast]) (by simp [upH, upR, upL, up, push_cast]) (by simp [namesOk, push_cast]) (by simp [olds])
              | cons q l =>
                have hy2 := hby (by simp)
                generalize hql : q :: l = m at *
                have hm0 : 0 < m.length := by rw [← hql]; simp
                refine awp_region cx [] fun K hK => ?_
                simp [push_cast, hm0]
                repeat (refine And.intro (by clear hK; intros; first | omega | (simp_all; done) | (simp_all <;> omega)) ?_)
                refine hK _ ?_; clear hK K; refine Nav.imp ?_
                refine awp_cond (b := true) (by simp [push_cast, hm0]) (fun hb => ?_) (fun hb => ?_) <;> (refine Nav.imp ?_)
                · refine awp_region cx [] fun K hK => ?_
                  simp [push_cast, h32, Row.row]
                  repeat (refine And.intro (by clear hK; intros; first | omega | (simp_all; done) | (simp_all <;> omega)) ?_)
                  refine hK _ ?_; clear hK K; refine Nav.imp ?_
                  refine awp_region cx [] fun K hK => ?_
                  simp [push_cast, e0]
                  repeat (refine And.intro (by clear hK; intros; first | omega | (simp_all; done) | (simp_all <;> omega)) ?_)
                  refine hK _ ?_; clear hK K; refine Nav.imp ?_
                  refine ⟨(i + 1, X ++ [⟨y, m⟩]), ⟨hlt, hy2.symm⟩, by simp only; omega, ?_⟩
                  refine weak_of [(0, some 0), (1, some 1), (2, some 2), (3, some 18)] rfl (by simp [upT, up, upL, push_cast, Row.row]) (by simp [upH, upR, upL, up, push_cast, Row.row]) (by simp [namesOk, push_cast]) (by simp [olds])
                · simp at hb
      · have hie : i = R.length := by simp at hb; omega
        subst hie
        rw [hall] at hX
        subst hX
        refine awp_freeze 3 (X.map Row.row) rfl (by simp [push_cast]) fun K hK => ?_
        simp [push_cast, St.fz, fzT, fzH, fzO, fz, fzL, fzR, fzR_dr, fzR_app, fzR_set, fzL_map]
        refine hK _ ?_; clear hK K; refine Nav.imp ?_
        refine awp_region cx [] fun K hK => ?_
        simp [push_cast]
        repeat (refine And.intro (by clear hK; intros; first | omega | (simp_all; done) | (simp_all <;> omega)) ?_)
        refine hK _ ?_; clear hK K; refine Nav.imp ?_
        simp [push_cast]
end Go.Proofs.YtagakfaiimaifaaGreat

set_option linter.unusedVariables false
set_option linter.unusedSimpArgs false
set_option maxRecDepth 100000
namespace Go.Proofs.YtagakfaiimaifaaGreat
open Go.Abs

/-! The reference: cells in their order. -/
def bef (a b : Cell) : Bool := decide (a.y < b.y) || (decide (a.y = b.y) && decide (a.x < b.x))
theorem bef_leY {a b : Cell} (h : bef a b = false) : leY b a = true := by simp [bef, leY] at *; omega
theorem leY_bef {a b : Cell} (h : bef a b = true) : leY a b = true := by simp [bef, leY] at *; omega
theorem leY_trans {a b c : Cell} (h1 : leY a b = true) (h2 : leY b c = true) : leY a c = true := by simp [leY] at *; omega

theorem inRange_ok (c : Cell) : PC Tryz.prog 96 [.agg c.row] (.p (.bool (onG c))) := by
  obtain ⟨x, y⟩ := c
  refine pc_of_awp cx (fn := Tryz.f96) (c := _) Tryz.func96 rfl rfl (Nat.le_of_ble_eq_true rfl) ?_
  rw [Tryz.ntmps96]; refine Nav.imp ?_
  refine awp_region cx [] fun K hK => ?_
  simp [push_cast]
  repeat (refine And.intro (by clear hK; intros; first | omega | (simp_all; done) | (simp_all <;> omega)) ?_)
  refine hK _ ?_; clear hK K; refine Nav.imp ?_
  refine awp_region cx [] fun K hK => ?_
  simp [push_cast]
  repeat (refine And.intro (by clear hK; intros; first | omega | (simp_all; done) | (simp_all <;> omega)) ?_)
  refine hK _ ?_; clear hK K; refine Nav.imp ?_
  simp [push_cast, onG, Bool.and_assoc]

theorem before_ok (a b : Cell) : PC Tryz.prog 148 [.agg a.row, .agg b.row] (.p (.bool (bef a b))) := by
  obtain ⟨x, y⟩ := a
  obtain ⟨x', y'⟩ := b
  refine pc_of_awp cx (fn := Tryz.f148) (c := _) Tryz.func148 rfl rfl (Nat.le_of_ble_eq_true rfl) ?_
  rw [Tryz.ntmps148]; refine Nav.imp ?_
  refine awp_region cx [] fun K hK => ?_
  simp [push_cast]
  repeat (refine And.intro (by clear hK; intros; first | omega | (simp_all; done) | (simp_all <;> omega)) ?_)
  refine hK _ ?_; clear hK K; refine Nav.imp ?_
  refine awp_region cx [] fun K hK => ?_
  simp [push_cast]
  repeat (refine And.intro (by clear hK; intros; first | omega | (simp_all; done) | (simp_all <;> omega)) ?_)
  refine hK _ ?_; clear hK K; refine Nav.imp ?_
  simp [push_cast, bef]
  rfl

/-- Cell c, at place k, is on its way down into the first i cells. -/
def InsAt (l : List Cell) (i : Nat) (Z : List Cell) (k : Nat) : Prop :=
  ∃ (P : List Cell) (c : Cell) (Q T : List Cell), Z = P ++ c :: (Q ++ T) ∧ P.length = k ∧ P.length + Q.length = i ∧ Z.Perm l ∧ ((P ++ Q).Pairwise fun a b => leY a b = true) ∧ ∀ q ∈ Q, leY c q = true
def UpTo (l : List Cell) (i : Nat) (Z : List Cell) : Prop := Z.Perm l ∧ ((Z.take i).Pairwise fun a b => leY a b = true)

theorem insAt_start {l Z : List Cell} {i : Nat} (h : UpTo l i Z) (hi : i < Z.length) : InsAt l i Z i := by
  refine ⟨Z.take i, Z[i], [], Z.drop (i + 1), ?_, by simp; omega, by simp; omega, h.1, by simpa using h.2, by simp⟩
  conv => lhs; rw [← List.take_append_drop i Z, List.drop_eq_getElem_cons hi]
  simp
theorem insAt_end {l Z : List Cell} {i k : Nat} (h : InsAt l i Z k) (hk : k = 0 ∨ ∃ c p, Z[k]? = some c ∧ Z[k - 1]? = some p ∧ bef c p = false) : UpTo l (i + 1) Z := by
  obtain ⟨P, c, Q, T, rfl, hP, hQ, hp, hs, hq⟩ := h
  refine ⟨hp, ?_⟩
  have e : (P ++ c :: (Q ++ T)).take (i + 1) = P ++ c :: Q := by
    rw [show P ++ c :: (Q ++ T) = (P ++ c :: Q) ++ T from by simp, List.take_left' (by simp; omega)]
  rw [e]
  rw [List.pairwise_append] at hs ⊢
  refine ⟨hs.1, List.pairwise_cons.2 ⟨hq, hs.2.1⟩, fun a ha b hb => ?_⟩
  rcases List.mem_cons.1 hb with rfl | hb
  · rcases hk with hk | ⟨c', p, h1, h2, h3⟩
    · rw [hk] at hP
      rw [List.length_eq_zero_iff.1 hP] at ha
      cases ha
    · have hc : c' = b := by
        rw [List.getElem?_append_right (by omega), hP, Nat.sub_self] at h1
        exact (Option.some.inj h1).symm
      subst hc
      rcases List.eq_nil_or_concat P with rfl | ⟨P', p', rfl⟩
      · cases ha
      · rw [List.concat_eq_append] at *
        have hpp : p' = p := by
          rw [List.append_assoc, List.getElem?_append_right (by simp at hP; omega)] at h2
          simp at hP
          rw [show k - 1 - P'.length = 0 from by omega] at h2
          exact Option.some.inj h2
        subst hpp
        have h4 := bef_leY h3
        rcases List.mem_append.1 ha with ha | ha
        · exact leY_trans ((List.pairwise_append.1 hs.1).2.2 a ha p' (by simp)) h4
        · simp at ha; subst ha; exact h4
  · exact hs.2.2 a ha b hb
theorem insAt_next {l Z : List Cell} {i k : Nat} {c p : Cell} (h : InsAt l i Z (k + 1)) (hc : Z[k + 1]? = some c) (hp : Z[k]? = some p) (hb : bef c p = true) : InsAt l i ((Z.set (k + 1) p).set k c) k := by
  obtain ⟨P, c', Q, T, rfl, hP, hQ, hperm, hs, hq⟩ := h
  rcases List.eq_nil_or_concat P with rfl | ⟨P', p', rfl⟩
  · simp at hP
  · rw [List.concat_eq_append] at *
    simp at hP
    have hcc : c' = c := by
      rw [List.getElem?_append_right (by simp; omega)] at hc
      simp [hP] at hc
      exact hc
    have hpp : p' = p := by
      rw [List.append_assoc, List.getElem?_append_right (by omega)] at hp
      simp [hP] at hp
      exact hp
    subst hcc hpp
    have e : (((P' ++ [p']) ++ c' :: (Q ++ T)).set (k + 1) p').set k c' = P' ++ c' :: ((p' :: Q) ++ T) := by
      subst hP
      simp
    rw [e]
    refine ⟨P', c', p' :: Q, T, rfl, hP, by simp at hQ ⊢; omega, ?_, ?_, ?_⟩
    · refine List.Perm.trans ?_ hperm
      simp only [List.append_assoc, List.singleton_append, List.cons_append]
      exact List.Perm.append_left _ (List.Perm.swap _ _ _)
    · simpa using hs
    · intro q hqm
      rcases List.mem_cons.1 hqm with rfl | hqm
      · exact leY_bef hb
      · exact hq q hqm
theorem upTo_end {l Z : List Cell} {i : Nat} (h : UpTo l i Z) (hi : Z.length ≤ i) : Z = sortY l := by
  rw [show i = Z.length + (i - Z.length) from by omega] at h
  have h2 := h.2
  rw [List.take_of_length_le (by omega)] at h2
  exact sortedY_uniq (h.1.trans (sortY_perm l).symm) h2 (sortY_le l)
theorem upTo_start (l : List Cell) : UpTo l 1 l := by
  refine ⟨List.Perm.refl l, ?_⟩
  cases l with
  | nil => simp
  | cons a l => simp

set_option maxHeartbeats 1000000 in
theorem sorted_ok (l : List Cell) (hl : l.length ≤ 1000000) : PC Tryz.prog 97 [encCells l] (.p (encCells (sortY l))) := by
  have h16 : l.length * 16 ≤ 140737488355328 := by omega
  refine pc_of_awp cx (fn := Tryz.f97) (c := _) Tryz.func97 rfl rfl (Nat.le_of_ble_eq_true rfl) ?_
  rw [Tryz.ntmps97]; refine Nav.imp ?_
  refine awp_region cx [] fun K hK => ?_
  simp [push_cast]
  repeat (refine And.intro (by clear hK; intros; first | omega | (simp_all; done) | (simp_all <;> omega)) ?_)
  refine hK _ ?_; clear hK K; refine Nav.imp ?_
  refine awp_region cx [] fun K hK => ?_
  simp [push_cast, h16]
  repeat (refine And.intro (by clear hK; intros; first | omega | (simp_all; done) | (simp_all <;> omega)) ?_)
  refine hK _ ?_; clear hK K; refine Nav.imp ?_
  refine awp_region cx [] fun K hK => ?_
  simp [push_cast]
  repeat (refine And.intro (by clear hK; intros; first | omega | (simp_all; done) | (simp_all <;> omega)) ?_)
  refine hK _ ?_; clear hK K; refine Nav.imp ?_
  refine awp_loop (β := Nat × List Cell) (fun b => ⟨51, [(3, .hs 0 0 b.2.length), (4, .d (.int .i64 b.1))], [(0, some ⟨62, 2, dr (b.2.map Cell.row)⟩)], 1⟩) (fun b => UpTo l b.1 b.2 ∧ 0 < b.1 ∧ b.1 ≤ 1000001) (fun b => l.length - b.1) (1, l) ?_ ⟨upTo_start l, by omega, by omega⟩ ?_
  · refine weak_of [(0, some 3)] rfl (by simp [upT, up, upL, push_cast]) (by simp [upH, upR, upL, up, push_cast]) (by simp [namesOk, push_cast]) (by simp [olds])
  · rintro ⟨i, Z⟩ ⟨hZ, hi, hib⟩
    simp only at hZ hi hib
    have hZl : Z.length = l.length := hZ.1.length_eq
    refine Nav.imp ?_
    refine awp_region cx [] fun K hK => ?_
    simp [push_cast]
    repeat (refine And.intro (by clear hK; intros; first | omega | (simp_all; done) | (simp_all <;> omega)) ?_)
    refine hK _ ?_; clear hK K; refine Nav.imp ?_
    refine awp_cond (b := decide ((i : Int) < Z.length)) (by simp [push_cast]) (fun hb => ?_) (fun hb => ?_) <;> (refine Nav.imp ?_)
    · have hlt : i < Z.length := by simpa using hb
      have e0 := wrap_i64 (n := (i : Int) + 1) (by omega) (by omega)
      refine awp_region cx [] fun K hK => ?_
      simp [push_cast]
      repeat (refine And.intro (by clear hK; intros; first | omega | (simp_all; done) | (simp_all <;> omega)) ?_)
      refine hK _ ?_; clear hK K; refine Nav.imp ?_
      refine awp_loop (β := Nat × List Cell) (fun b => ⟨51, [(3, .hs 0 0 b.2.length), (4, .d (.int .i64 i)), (5, .d (.int .i64 b.1))], [(0, some ⟨62, 2, dr (b.2.map Cell.row)⟩)], 1⟩) (fun b => InsAt l i b.2 b.1) (fun b => b.1) (i, Z) ?_ (insAt_start hZ hlt) ?_
      · refine weak_of [(0, some 0)] rfl (by simp [upT, up, upL, push_cast]) (by simp [upH, upR, upL, up, push_cast]) (by simp [namesOk, push_cast]) (by simp [olds])
      · rintro ⟨k, Y⟩ hY
        simp only at hY
        have hYl : Y.length = l.length := by obtain ⟨P, c, Q, T, _, _, _, h, _⟩ := hY; exact h.length_eq
        have hki : k ≤ i := by obtain ⟨P, c, Q, T, _, h1, h2, _⟩ := hY; omega
        refine Nav.imp ?_
        obtain ⟨c, hc⟩ : ∃ c, Y[k]? = some c := getq (by omega)
        cases k with
        | zero =>
          refine awp_region_draw cx mixed [(12, .skip)] fun K hK => ?_
          simp [push_cast, hc]
          repeat (refine And.intro (by clear hK; intros; first | omega | (simp_all; done) | (simp_all <;> omega)) ?_)
          refine hK _ _ (by kernel_rfl) ?_; clear hK K; refine Nav.imp ?_
          refine awp_cond (b := false) (by simp [push_cast]) (fun hb => ?_) (fun hb => ?_) <;> (refine Nav.imp ?_)
          · simp at hb
          · refine awp_region cx [] fun K hK => ?_
            simp [push_cast, e0]
            repeat (refine And.intro (by clear hK; intros; first | omega | (simp_all; done) | (simp_all <;> omega)) ?_)
            refine hK _ ?_; clear hK K; refine Nav.imp ?_
            refine ⟨(i + 1, Y), ⟨insAt_end hY (.inl rfl), by simp only; omega, by simp only; omega⟩, by simp only; omega, ?_⟩
            refine weak_of [(0, some 0)] rfl (by simp [upT, up, upL, push_cast]) (by simp [upH, upR, upL, up, push_cast]) (by simp [namesOk, push_cast]) (by simp [olds])
        | succ k =>
          obtain ⟨p, hp⟩ : ∃ c, Y[k]? = some c := getq (by omega)
          have c1 := before_ok c p
          generalize hbf : bef c p = bb at c1
          have e1 := wrap_i64 (n := ((k + 1 : Nat) : Int) - 1) (by omega) (by omega)
          have e2 : (((k + 1 : Nat) : Int) - 1) = k := by omega
          rw [e2] at e1
          have e3 : (((k + 1 : Nat) : Int) - 1).toNat = k := by omega
          have e4 : (0 : Int) < (k : Int) + 1 := by omega
          refine awp_region_draw cx mixed [(12, .p (.bool bb))] fun K hK => ?_
          simp [push_cast, hc, hp, c1, e1, e2, e3, e4]
          repeat (refine And.intro (by clear hK; intros; first | omega | (simp_all; done) | (simp_all <;> omega)) ?_)
          refine hK _ _ (by kernel_rfl) ?_; clear hK K; refine Nav.imp ?_
          refine awp_cond (b := bb) (by simp [push_cast]) (fun hb => ?_) (fun hb => ?_) <;> (refine Nav.imp ?_)
          · rw [hb] at hbf
            have hnx := insAt_next hY hc hp hbf
            obtain ⟨Y1, hY1⟩ : ∃ Y1, Y1 = Y.set (k + 1) p := ⟨_, rfl⟩
            have hr1 : (dr (Y.map Cell.row)).set (k + 1) [.d (.int .i64 p.x), .d (.int .i64 p.y)] = dr (Y1.map Cell.row) := by rw [hY1]; simp [dr, List.map_set]
            have hk1 : Y1[k]? = some p := by rw [hY1, List.getElem?_set_ne (by omega)]; exact hp
            rw [← hY1] at hnx
            have hl1 : Y1.length = Y.length := by rw [hY1]; simp
            obtain ⟨Y2, hY2⟩ : ∃ Y2, Y2 = Y1.set k c := ⟨_, rfl⟩
            have hr2 : (dr (Y1.map Cell.row)).set k [.d (.int .i64 c.x), .d (.int .i64 c.y)] = dr (Y2.map Cell.row) := by rw [hY2]; simp [dr, List.map_set]
            rw [← hY2] at hnx
            have hl2 : Y2.length = Y.length := by rw [hY2]; simp [hl1]
            clear hY1 hY2
            refine awp_region cx [] fun K hK => ?_
            simp [push_cast, hc]
            repeat (refine And.intro (by clear hK; intros; first | omega | (simp_all; done) | (simp_all <;> omega)) ?_)
            refine hK _ ?_; clear hK K; refine Nav.imp ?_
            refine awp_region cx [] fun K hK => ?_
            simp [push_cast, hp, hc, e1, e2, e3, hr1]
            repeat (refine And.intro (by clear hK; intros; first | omega | (simp_all; done) | (simp_all <;> omega)) ?_)
            refine hK _ ?_; clear hK K; refine Nav.imp ?_
            rw [← hl1]
            refine awp_region cx [] fun K hK => ?_
            simp [push_cast, e1, e2, hk1, hr2]
            repeat (refine And.intro (by clear hK; intros; first | omega | (simp_all; done) | (simp_all <;> omega)) ?_)
            refine hK _ ?_; clear hK K; refine Nav.imp ?_
            rw [hl1, ← hl2]
            refine awp_region cx [] fun K hK => ?_
            simp [push_cast, e1, e2]
            repeat (refine And.intro (by clear hK; intros; first | omega | (simp_all; done) | (simp_all <;> omega)) ?_)
            refine hK _ ?_; clear hK K; refine Nav.imp ?_
            refine ⟨(k, Y2), hnx, by simp only; omega, ?_⟩
            refine weak_of [(0, some 0)] rfl (by simp [upT, up, upL, push_cast]) (by simp [upH, upR, upL, up, push_cast]) (by simp [namesOk, push_cast]) (by simp [olds])
          · rw [hb] at hbf
            refine awp_region cx [] fun K hK => ?_
            simp [push_cast, e0]
            repeat (refine And.intro (by clear hK; intros; first | omega | (simp_all; done) | (simp_all <;> omega)) ?_)
            refine hK _ ?_; clear hK K; refine Nav.imp ?_
            refine ⟨(i + 1, Y), ⟨insAt_end hY (.inr ⟨c, p, hc, hp, hbf⟩), by simp only; omega, by simp only; omega⟩, by simp only; omega, ?_⟩
            refine weak_of [(0, some 0)] rfl (by simp [upT, up, upL, push_cast]) (by simp [upH, upR, upL, up, push_cast]) (by simp [namesOk, push_cast]) (by simp [olds])
    · have hge : l.length ≤ i := by simp at hb; omega
      have hs := upTo_end hZ (by omega)
      subst hs
      generalize sortY l = Z at *
      refine awp_region cx [] fun K hK => ?_
      simp [push_cast]
      repeat (refine And.intro (by clear hK; intros; first | omega | (simp_all; done) | (simp_all <;> omega)) ?_)
      refine hK _ ?_; clear hK K; refine Nav.imp ?_
      have ht : List.take Z.length (Z.map Cell.row) = Z.map Cell.row := List.take_of_length_le (by simp)
      simp [push_cast, ht]
end Go.Proofs.YtagakfaiimaifaaGreat
