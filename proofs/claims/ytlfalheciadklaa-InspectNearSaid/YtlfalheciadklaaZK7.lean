/-
  Texts of this seat put together: K7.
-/
import Derived.Test.YtlfalheciadklaaJ11
import Derived.Test.YtlfalheciadklaaJ9
set_option linter.unusedVariables false
set_option linter.unusedSimpArgs false
set_option maxRecDepth 100000
namespace Go.Proofs.Ytlfalheciadklaa
open Go.Abs Go.ChangeShapes Go.WideShapes Go.ChangeAt Go.RowKit

theorem miss_bey {S M : List Row} {k : Nat} (h1 : validR S = true) (h2 : validR M = true) (hk : k ≤ 64) : missR S M k = [] ↔ beyR S M k = [] := by
  have hm : missB S M k = true := by unfold missB; simp [h1, h2]; omega
  obtain ⟨a1, a2⟩ := miss_facts hm
  obtain ⟨b1, b2⟩ := bey_facts h1 h2 k
  rw [Int.toNat_natCast] at a2
  constructor
  · intro h
    exact valid_empty b1 fun c hc => by
      have := (a2 c).2 ((b2 c).1 hc)
      rw [h] at this; simp [regCells] at this
  · intro h
    exact valid_empty a1 fun c hc => by
      have := (b2 c).2 ((a2 c).1 hc)
      rw [h] at this; simp [regCells] at this
theorem miss_far {S M : List Row} {k m : Nat} (h1 : validR S = true) (h2 : validR M = true) (hk : k ≤ 64) (hm : FarAt S M m) : missR S M k = [] ↔ m ≤ k := by
  rw [miss_bey h1 h2 hk]
  constructor
  · intro h
    by_cases q : m ≤ k
    · exact q
    · exact absurd h (hm.2.1 k (by omega))
  · intro h; exact hm.2.2 k h (by omega)

set_option maxHeartbeats 4000000 in
theorem inspectnear_ok (S M : List Row) (k : Int) (hS : bigR S) (hM : bigR M) : PC Try.prog 8 [.agg (regRow S), .agg (regRow M), .int .i64 k] (.p (.bool true)) := by
  have c0 := awake56_ok
  have c1 := heavy56_ok S hS
  have c2 := heavy56_ok M hM
  have c5 := validR_big S hS
  have c6 := validR_big M hM
  cases h1 : heavyB S with
  | true =>
    rw [h1] at c1
    refine pc_of_awp cx (fn := Try.f8) (c := _) Try.func8 rfl rfl (Nat.le_of_ble_eq_true rfl) ?_
    rw [Try.ntmps8]; refine Nav.imp ?_
    refine awp_region cx [] fun K hK => ?_
    simp [push_cast]
    repeat (refine And.intro (by clear hK; intros; first | omega | (simp_all; done) | (simp_all <;> omega)) ?_)
    refine hK _ ?_; clear hK K; refine Nav.imp ?_
    refine awp_region cx [(1, .p (.bool true)), (4, .skip), (8, .skip), (13, .skip)] fun K hK => ?_
    simp [push_cast, c1]
    repeat (refine And.intro (by clear hK; intros; first | omega | (simp_all; done) | (simp_all <;> omega)) ?_)
    refine hK _ ?_; clear hK K; refine Nav.imp ?_
    refine awp_cond (b := true) (by simp [push_cast]) (fun hb => ?_) (fun hb => ?_) <;> (refine Nav.imp ?_)
    · refine awp_region cx [(0, .p (.bool true))] fun K hK => ?_
      simp [push_cast, c0]
      repeat (refine And.intro (by clear hK; intros; first | omega | (simp_all; done) | (simp_all <;> omega)) ?_)
      refine hK _ ?_; clear hK K; refine Nav.imp ?_
      simp [push_cast]
    · simp at hb
  | false =>
  rw [h1] at c1
  cases h2 : heavyB M with
  | true =>
    rw [h2] at c2
    refine pc_of_awp cx (fn := Try.f8) (c := _) Try.func8 rfl rfl (Nat.le_of_ble_eq_true rfl) ?_
    rw [Try.ntmps8]; refine Nav.imp ?_
    refine awp_region cx [] fun K hK => ?_
    simp [push_cast]
    repeat (refine And.intro (by clear hK; intros; first | omega | (simp_all; done) | (simp_all <;> omega)) ?_)
    refine hK _ ?_; clear hK K; refine Nav.imp ?_
    refine awp_region cx [(1, .p (.bool false)), (4, .p (.bool true)), (8, .skip), (13, .skip)] fun K hK => ?_
    simp [push_cast, c1, c2]
    repeat (refine And.intro (by clear hK; intros; first | omega | (simp_all; done) | (simp_all <;> omega)) ?_)
    refine hK _ ?_; clear hK K; refine Nav.imp ?_
    refine awp_cond (b := true) (by simp [push_cast]) (fun hb => ?_) (fun hb => ?_) <;> (refine Nav.imp ?_)
    · refine awp_region cx [(0, .p (.bool true))] fun K hK => ?_
      simp [push_cast, c0]
      repeat (refine And.intro (by clear hK; intros; first | omega | (simp_all; done) | (simp_all <;> omega)) ?_)
      refine hK _ ?_; clear hK K; refine Nav.imp ?_
      simp [push_cast]
    · simp at hb
  | false =>
  rw [h2] at c2
  cases h5 : validR S with
  | false =>
    rw [h5] at c5
    refine pc_of_awp cx (fn := Try.f8) (c := _) Try.func8 rfl rfl (Nat.le_of_ble_eq_true rfl) ?_
    rw [Try.ntmps8]; refine Nav.imp ?_
    refine awp_region cx [] fun K hK => ?_
    simp [push_cast]
    repeat (refine And.intro (by clear hK; intros; first | omega | (simp_all; done) | (simp_all <;> omega)) ?_)
    refine hK _ ?_; clear hK K; refine Nav.imp ?_
    refine awp_region cx [(1, .p (.bool false)), (4, .p (.bool false)), (8, .p (.bool false)), (13, .skip)] fun K hK => ?_
    simp [push_cast, c1, c2, c5]
    repeat (refine And.intro (by clear hK; intros; first | omega | (simp_all; done) | (simp_all <;> omega)) ?_)
    refine hK _ ?_; clear hK K; refine Nav.imp ?_
    refine awp_cond (b := true) (by simp [push_cast]) (fun hb => ?_) (fun hb => ?_) <;> (refine Nav.imp ?_)
    · refine awp_region cx [(0, .p (.bool true))] fun K hK => ?_
      simp [push_cast, c0]
      repeat (refine And.intro (by clear hK; intros; first | omega | (simp_all; done) | (simp_all <;> omega)) ?_)
      refine hK _ ?_; clear hK K; refine Nav.imp ?_
      simp [push_cast]
    · simp at hb
  | true =>
  rw [h5] at c5
  cases h6 : validR M with
  | false =>
    rw [h6] at c6
    refine pc_of_awp cx (fn := Try.f8) (c := _) Try.func8 rfl rfl (Nat.le_of_ble_eq_true rfl) ?_
    rw [Try.ntmps8]; refine Nav.imp ?_
    refine awp_region cx [] fun K hK => ?_
    simp [push_cast]
    repeat (refine And.intro (by clear hK; intros; first | omega | (simp_all; done) | (simp_all <;> omega)) ?_)
    refine hK _ ?_; clear hK K; refine Nav.imp ?_
    refine awp_region cx [(1, .p (.bool false)), (4, .p (.bool false)), (8, .p (.bool true)), (13, .p (.bool false))] fun K hK => ?_
    simp [push_cast, c1, c2, c5, c6]
    repeat (refine And.intro (by clear hK; intros; first | omega | (simp_all; done) | (simp_all <;> omega)) ?_)
    refine hK _ ?_; clear hK K; refine Nav.imp ?_
    refine awp_cond (b := true) (by simp [push_cast]) (fun hb => ?_) (fun hb => ?_) <;> (refine Nav.imp ?_)
    · refine awp_region cx [(0, .p (.bool true))] fun K hK => ?_
      simp [push_cast, c0]
      repeat (refine And.intro (by clear hK; intros; first | omega | (simp_all; done) | (simp_all <;> omega)) ?_)
      refine hK _ ?_; clear hK K; refine Nav.imp ?_
      simp [push_cast]
    · simp at hb
  | true =>
  rw [h6] at c6
  have hMs := small_valid h6
  have hMl := hMs.1
  by_cases hne : M = []
  · subst hne
    refine pc_of_awp cx (fn := Try.f8) (c := _) Try.func8 rfl rfl (Nat.le_of_ble_eq_true rfl) ?_
    rw [Try.ntmps8]; refine Nav.imp ?_
    refine awp_region cx [] fun K hK => ?_
    simp [push_cast]
    repeat (refine And.intro (by clear hK; intros; first | omega | (simp_all; done) | (simp_all <;> omega)) ?_)
    refine hK _ ?_; clear hK K; refine Nav.imp ?_
    refine awp_region cx [(1, .p (.bool false)), (4, .p (.bool false)), (8, .p (.bool true)), (13, .p (.bool true))] fun K hK => ?_
    simp [push_cast, c1, c2, c5, c6]
    repeat (refine And.intro (by clear hK; intros; first | omega | (simp_all; done) | (simp_all <;> omega)) ?_)
    refine hK _ ?_; clear hK K; refine Nav.imp ?_
    refine awp_cond (b := true) (by simp [push_cast]) (fun hb => ?_) (fun hb => ?_) <;> (refine Nav.imp ?_)
    · refine awp_region cx [(0, .p (.bool true))] fun K hK => ?_
      simp [push_cast, c0]
      repeat (refine And.intro (by clear hK; intros; first | omega | (simp_all; done) | (simp_all <;> omega)) ?_)
      refine hK _ ?_; clear hK K; refine Nav.imp ?_
      simp [push_cast]
    · simp at hb
  have hM0 : ¬ M.length = 0 := by simpa using hne
  have hM1 : ¬ (M.length : Int) = 0 := by omega
  by_cases h7 : k < 0
  · refine pc_of_awp cx (fn := Try.f8) (c := _) Try.func8 rfl rfl (Nat.le_of_ble_eq_true rfl) ?_
    rw [Try.ntmps8]; refine Nav.imp ?_
    refine awp_region cx [] fun K hK => ?_
    simp [push_cast]
    repeat (refine And.intro (by clear hK; intros; first | omega | (simp_all; done) | (simp_all <;> omega)) ?_)
    refine hK _ ?_; clear hK K; refine Nav.imp ?_
    refine awp_region cx [(1, .p (.bool false)), (4, .p (.bool false)), (8, .p (.bool true)), (13, .p (.bool true))] fun K hK => ?_
    simp [push_cast, c1, c2, c5, c6, h7, hne, hM0, hM1]
    repeat (refine And.intro (by clear hK; intros; first | omega | (simp_all; done) | (simp_all <;> omega)) ?_)
    refine hK _ ?_; clear hK K; refine Nav.imp ?_
    refine awp_cond (b := true) (by simp [push_cast, h7, hne, hM0, hM1]) (fun hb => ?_) (fun hb => ?_) <;> (refine Nav.imp ?_)
    · refine awp_region cx [(0, .p (.bool true))] fun K hK => ?_
      simp [push_cast, c0]
      repeat (refine And.intro (by clear hK; intros; first | omega | (simp_all; done) | (simp_all <;> omega)) ?_)
      refine hK _ ?_; clear hK K; refine Nav.imp ?_
      simp [push_cast]
    · simp at hb
  by_cases h8 : 64 < k
  · refine pc_of_awp cx (fn := Try.f8) (c := _) Try.func8 rfl rfl (Nat.le_of_ble_eq_true rfl) ?_
    rw [Try.ntmps8]; refine Nav.imp ?_
    refine awp_region cx [] fun K hK => ?_
    simp [push_cast]
    repeat (refine And.intro (by clear hK; intros; first | omega | (simp_all; done) | (simp_all <;> omega)) ?_)
    refine hK _ ?_; clear hK K; refine Nav.imp ?_
    refine awp_region cx [(1, .p (.bool false)), (4, .p (.bool false)), (8, .p (.bool true)), (13, .p (.bool true))] fun K hK => ?_
    simp [push_cast, c1, c2, c5, c6, h7, h8, hne, hM0, hM1]
    repeat (refine And.intro (by clear hK; intros; first | omega | (simp_all; done) | (simp_all <;> omega)) ?_)
    refine hK _ ?_; clear hK K; refine Nav.imp ?_
    refine awp_cond (b := true) (by simp [push_cast, h7, h8, hne, hM0, hM1]) (fun hb => ?_) (fun hb => ?_) <;> (refine Nav.imp ?_)
    · refine awp_region cx [(0, .p (.bool true))] fun K hK => ?_
      simp [push_cast, c0]
      repeat (refine And.intro (by clear hK; intros; first | omega | (simp_all; done) | (simp_all <;> omega)) ?_)
      refine hK _ ?_; clear hK K; refine Nav.imp ?_
      simp [push_cast]
    · simp at hb
  obtain ⟨K, rfl⟩ : ∃ K : Nat, k = K := ⟨k.toNat, by omega⟩
  obtain ⟨m, hm⟩ := far_ex h5 h6
  have hmf := miss_far h5 h6 (k := K) (by omega) hm
  have d1 := missing_ok S M (K : Int) hS hM
  have d2 := far_ok S M h5 h6 (heavy_facts h2).1 hne m hm
  have hlm := (small_valid (miss_valid S M K)).1
  generalize missR S M (K : Int) = A at *
  by_cases hA : A = []
  · have hmk := hmf.1 hA
    subst hA
    refine pc_of_awp cx (fn := Try.f8) (c := _) Try.func8 rfl rfl (Nat.le_of_ble_eq_true rfl) ?_
    rw [Try.ntmps8]; refine Nav.imp ?_
    refine awp_region cx [] fun K hK => ?_
    simp [push_cast]
    repeat (refine And.intro (by clear hK; intros; first | omega | (simp_all; done) | (simp_all <;> omega)) ?_)
    refine hK _ ?_; clear hK K; refine Nav.imp ?_
    refine awp_region cx [(1, .p (.bool false)), (4, .p (.bool false)), (8, .p (.bool true)), (13, .p (.bool true))] fun K hK => ?_
    simp [push_cast, c1, c2, c5, c6, h7, h8, hne, hM0, hM1]
    repeat (refine And.intro (by clear hK; intros; first | omega | (simp_all; done) | (simp_all <;> omega)) ?_)
    refine hK _ ?_; clear hK K; refine Nav.imp ?_
    refine awp_cond (b := false) (by simp [push_cast, h7, h8, hne, hM0, hM1]) (fun hb => ?_) (fun hb => ?_) <;> (refine Nav.imp ?_)
    · simp at hb
    · refine awp_region cx [(3, .p (.agg (regRow [])))] fun K hK => ?_
      simp [push_cast, d1]
      repeat (refine And.intro (by clear hK; intros; first | omega | (simp_all; done) | (simp_all <;> omega)) ?_)
      refine hK _ ?_; clear hK K; refine Nav.imp ?_
      refine awp_region cx [(3, .p (.int .i64 m)), (8, .p (.bool true))] fun K hK => ?_
      simp [push_cast, c0, d2, hmk]
      repeat (refine And.intro (by clear hK; intros; first | omega | (simp_all; done) | (simp_all <;> omega)) ?_)
      refine hK _ ?_; clear hK K; refine Nav.imp ?_
      simp [push_cast]
  · have hmk : ¬ m ≤ K := fun h => hA (hmf.2 h)
    have hA0 : ¬ A.length = 0 := by simpa using hA
    have hA1 : ¬ (A.length : Int) = 0 := by omega
    have hmk2 : K < m := by omega
    refine pc_of_awp cx (fn := Try.f8) (c := _) Try.func8 rfl rfl (Nat.le_of_ble_eq_true rfl) ?_
    rw [Try.ntmps8]; refine Nav.imp ?_
    refine awp_region cx [] fun K hK => ?_
    simp [push_cast]
    repeat (refine And.intro (by clear hK; intros; first | omega | (simp_all; done) | (simp_all <;> omega)) ?_)
    refine hK _ ?_; clear hK K; refine Nav.imp ?_
    refine awp_region cx [(1, .p (.bool false)), (4, .p (.bool false)), (8, .p (.bool true)), (13, .p (.bool true))] fun K hK => ?_
    simp [push_cast, c1, c2, c5, c6, h7, h8, hne, hM0, hM1]
    repeat (refine And.intro (by clear hK; intros; first | omega | (simp_all; done) | (simp_all <;> omega)) ?_)
    refine hK _ ?_; clear hK K; refine Nav.imp ?_
    refine awp_cond (b := false) (by simp [push_cast, h7, h8, hne, hM0, hM1]) (fun hb => ?_) (fun hb => ?_) <;> (refine Nav.imp ?_)
    · simp at hb
    · refine awp_region cx [(3, .p (.agg (regRow A)))] fun K hK => ?_
      simp [push_cast, d1, hA, hA0, hA1]
      repeat (refine And.intro (by clear hK; intros; first | omega | (simp_all; done) | (simp_all <;> omega)) ?_)
      refine hK _ ?_; clear hK K; refine Nav.imp ?_
      refine awp_region cx [(3, .p (.int .i64 m)), (8, .p (.bool true))] fun K hK => ?_
      simp [push_cast, c0, d2, hmk, hmk2, hA]
      repeat (refine And.intro (by clear hK; intros; first | omega | (simp_all; done) | (simp_all <;> omega)) ?_)
      refine hK _ ?_; clear hK K; refine Nav.imp ?_
      simp [push_cast, hA]

set_option maxRecDepth 100000 in
theorem inspectNear_lifted (os : Os) (started : os.Started) (H : Type) (enc : TypeId × Value → H) :
    ReturnsInHanded {} Try.checked os 8 .any (Rows.inspectNearSpec.pre6 enc Try.prog Try.f8 Rows.inspectNearRow.domain false) (Rows.inspectNearSpec.post enc Try.prog Try.f8 false true false false) := by
  refine returnsInHanded_of_change (C := Try.checked) own started (by kernel_rfl) Try.func8
    (ChangeSpec.witness6 (enc := enc) (C := Try.checked) false ⟨#[], #[zeroReg, zeroReg, .int .i64 0], []⟩ 8 (by kernel_rfl) (by kernel_rfl) (by kernel_rfl) (by kernel_rfl)) ?_
  intro W base args ds gs before hval hW _ _
  exact law_contract rfl (fun ds h => by match ds, h with | [a0, a1, a2], _ => rfl) laidOut (by simp only [Try.params8]; intro t ht; simp at ht; rcases ht with rfl | rfl <;> exact ⟨by kernel_rfl, of_decide_eq_true (by kernel_rfl)⟩) (by kernel_rfl) rfl Try.underlying4
    (fun xs hx => by
      simp only [Try.params8, hasVs] at hx
      obtain ⟨x0, r0, rfl, h0, x1, r1, rfl, h1, x2, r2, rfl, h2, rfl⟩ := hx
      obtain ⟨⟨S, hS⟩, rfl⟩ := arg_regionB h0
      obtain ⟨⟨M, hM⟩, rfl⟩ := arg_regionB h1
      obtain ⟨k, rfl⟩ := arg_int h2
      exact inspectnear_ok S M k hS hM) W base args ds gs before hval hW

theorem inspectNear_holds : Rows.InspectNearSaid :=
  OpenClaim.holds_of_wide 8 Try.f8 rfl rfl rfl rfl rfl rfl rfl ⟨rfl, rfl, rfl, rfl, rfl⟩ rfl rfl rfl rfl rfl (by kernel_rfl) Try.func8 (by kernel_rfl)
    (of_decide_eq_true (by kernel_rfl)) (by unfold Func.isWrapper; first | (rw [if_pos (by decide +kernel)]; kernel_rfl) | (rw [if_neg (by decide +kernel)]; exact ⟨rfl, rfl⟩))
    (fun os started H enc _ => inspectNear_lifted os started H enc)

end Go.Proofs.Ytlfalheciadklaa
