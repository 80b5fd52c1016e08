/-
  Texts of this seat put together: K6.
-/
import Derived.Test.YtlfalheciadklaaJ9
import Derived.Test.YtlfalheciadklaaJ10
set_option linter.unusedVariables false
set_option linter.unusedSimpArgs false
set_option maxRecDepth 100000
namespace Go.Proofs.Ytlfalheciadklaa
open Go.Abs Go.ChangeShapes Go.WideShapes Go.ChangeAt Go.RowKit

theorem nearP_cells {R : List Row} (hv : validR R = true) {K : Nat} {y x : Int} : nearP R K y x ↔ ∃ c ∈ regCells R, c.y - K ≤ y ∧ y ≤ c.y + K ∧ c.x - K ≤ x ∧ x ≤ c.x + K := by
  constructor
  · rintro ⟨w, hw, h1, h2, r, hr, h3, h4⟩
    have hrb := (fine_apart.1 (row_fine hv hw).2).2.1.1 r hr
    by_cases q : x < r.a
    · exact ⟨⟨r.a, w.y⟩, mem_regCells.2 ⟨w, hw, rfl, r, hr, by simp, hrb⟩, h1, h2, by simp only; omega, by simp only; omega⟩
    · by_cases q2 : x < r.b
      · exact ⟨⟨x, w.y⟩, mem_regCells.2 ⟨w, hw, rfl, r, hr, by simp only; omega, q2⟩, h1, h2, by simp only; omega, by simp only; omega⟩
      · exact ⟨⟨r.b - 1, w.y⟩, mem_regCells.2 ⟨w, hw, rfl, r, hr, by simp only; omega, by simp only; omega⟩, h1, h2, by simp only; omega, by simp only; omega⟩
  · rintro ⟨c, hc, h1, h2, h3, h4⟩
    obtain ⟨w, hw, hy, r, hr, h5, h6⟩ := mem_regCells.1 hc
    exact ⟨w, hw, by omega, by omega, r, hr, by omega, by omega⟩
theorem within_of {a b : List Row} (ha : validR a = true) (hb : validR b = true) (h : ∀ c, c ∈ regCells a → c ∈ regCells b) : withinB a b = true := by
  have : opR fD a b = [] := valid_empty (opR_valid rfl a b) fun c hc => by
    rw [opD_iff ha hb] at hc
    exact hc.2 (h c hc.1)
  unfold withinB
  rw [ha, hb, this]; rfl
theorem miss_mono {S M M' : List Row} {k k' : Int} (h1 : missB S M k = true) (h2 : missB S M' k' = true) (hk : ∀ y x, nearP M k.toNat y x → nearP M' k'.toNat y x) : withinB (missR S M' k') (missR S M k) = true := by
  obtain ⟨a1, a2⟩ := miss_facts h1
  obtain ⟨b1, b2⟩ := miss_facts h2
  refine within_of b1 a1 fun c hc => ?_
  rw [b2] at hc
  rw [a2]
  exact ⟨hc.1, fun hn => hc.2 (hk _ _ hn)⟩
theorem miss_self {S : List Row} (hv : validR S = true) {k : Int} (hk : 0 ≤ k ∧ k ≤ 64) : missR S S k = [] := by
  have hm : missB S S k = true := by unfold missB; simp [hv, hk.1, hk.2]
  obtain ⟨a1, a2⟩ := miss_facts hm
  refine valid_empty a1 fun c hc => ?_
  rw [a2] at hc
  exact hc.2 ((nearP_cells hv).2 ⟨c, hc.1, by omega, by omega, by omega, by omega⟩)

set_option maxHeartbeats 4000000 in
theorem inspectless_ok (S M O : List Row) (k : Int) (hS : bigR S) (hM : bigR M) (hO : bigR O) : PC Try.prog 6 [.agg (regRow S), .agg (regRow M), .agg (regRow O), .int .i64 k] (.p (.bool true)) := by
  have c0 := awake56_ok
  have c1 := heavy56_ok S hS
  have c2 := heavy56_ok M hM
  have c3 := heavy56_ok O hO
  have c4 := validR_big O hO
  have c5 := validR_big S hS
  have c6 := validR_big M hM
  cases h1 : heavyB S with
  | true =>
    rw [h1] at c1
    refine pc_of_awp cx (fn := Try.f6) (c := _) Try.func6 rfl rfl (Nat.le_of_ble_eq_true rfl) ?_
    rw [Try.ntmps6]; refine Nav.imp ?_
    refine awp_region cx [] fun K hK => ?_
    simp [push_cast]
    repeat (refine And.intro (by clear hK; intros; first | omega | (simp_all; done) | (simp_all <;> omega)) ?_)
    refine hK _ ?_; clear hK K; refine Nav.imp ?_
    refine awp_region cx [(1, .p (.bool true)), (4, .skip), (8, .skip), (12, .skip), (17, .skip), (22, .skip)] fun K hK => ?_
    simp [push_cast, c1]
    repeat (refine And.intro (by clear hK; intros; first | omega | (simp_all; done) | (simp_all <;> omega)) ?_)
    refine hK _ ?_; clear hK K; refine Nav.imp ?_
    refine awp_cond (b := true) (by simp [push_cast]) (fun hb => ?_) (fun hb => ?_) <;> (refine Nav.imp ?_)
    · refine awp_region cx [(0, .p (.bool true))] fun K hK => ?_
      simp [push_cast, c0]
      repeat (refine And.intro (by clear hK; intros; first | omega | (simp_all; done) | (simp_all <;> omega)) ?_)
      refine hK _ ?_; clear hK K; refine Nav.imp ?_
      simp [push_cast]
    · simp at hb
  | false =>
  rw [h1] at c1
  cases h2 : heavyB M with
  | true =>
    rw [h2] at c2
    refine pc_of_awp cx (fn := Try.f6) (c := _) Try.func6 rfl rfl (Nat.le_of_ble_eq_true rfl) ?_
    rw [Try.ntmps6]; refine Nav.imp ?_
    refine awp_region cx [] fun K hK => ?_
    simp [push_cast]
    repeat (refine And.intro (by clear hK; intros; first | omega | (simp_all; done) | (simp_all <;> omega)) ?_)
    refine hK _ ?_; clear hK K; refine Nav.imp ?_
    refine awp_region cx [(1, .p (.bool false)), (4, .p (.bool true)), (8, .skip), (12, .skip), (17, .skip), (22, .skip)] fun K hK => ?_
    simp [push_cast, c1, c2]
    repeat (refine And.intro (by clear hK; intros; first | omega | (simp_all; done) | (simp_all <;> omega)) ?_)
    refine hK _ ?_; clear hK K; refine Nav.imp ?_
    refine awp_cond (b := true) (by simp [push_cast]) (fun hb => ?_) (fun hb => ?_) <;> (refine Nav.imp ?_)
    · refine awp_region cx [(0, .p (.bool true))] fun K hK => ?_
      simp [push_cast, c0]
      repeat (refine And.intro (by clear hK; intros; first | omega | (simp_all; done) | (simp_all <;> omega)) ?_)
      refine hK _ ?_; clear hK K; refine Nav.imp ?_
      simp [push_cast]
    · simp at hb
  | false =>
  rw [h2] at c2
  cases h3 : heavyB O with
  | true =>
    rw [h3] at c3
    refine pc_of_awp cx (fn := Try.f6) (c := _) Try.func6 rfl rfl (Nat.le_of_ble_eq_true rfl) ?_
    rw [Try.ntmps6]; refine Nav.imp ?_
    refine awp_region cx [] fun K hK => ?_
    simp [push_cast]
    repeat (refine And.intro (by clear hK; intros; first | omega | (simp_all; done) | (simp_all <;> omega)) ?_)
    refine hK _ ?_; clear hK K; refine Nav.imp ?_
    refine awp_region cx [(1, .p (.bool false)), (4, .p (.bool false)), (8, .p (.bool true)), (12, .skip), (17, .skip), (22, .skip)] fun K hK => ?_
    simp [push_cast, c1, c2, c3]
    repeat (refine And.intro (by clear hK; intros; first | omega | (simp_all; done) | (simp_all <;> omega)) ?_)
    refine hK _ ?_; clear hK K; refine Nav.imp ?_
    refine awp_cond (b := true) (by simp [push_cast]) (fun hb => ?_) (fun hb => ?_) <;> (refine Nav.imp ?_)
    · refine awp_region cx [(0, .p (.bool true))] fun K hK => ?_
      simp [push_cast, c0]
      repeat (refine And.intro (by clear hK; intros; first | omega | (simp_all; done) | (simp_all <;> omega)) ?_)
      refine hK _ ?_; clear hK K; refine Nav.imp ?_
      simp [push_cast]
    · simp at hb
  | false =>
  rw [h3] at c3
  cases h4 : validR O with
  | false =>
    rw [h4] at c4
    refine pc_of_awp cx (fn := Try.f6) (c := _) Try.func6 rfl rfl (Nat.le_of_ble_eq_true rfl) ?_
    rw [Try.ntmps6]; refine Nav.imp ?_
    refine awp_region cx [] fun K hK => ?_
    simp [push_cast]
    repeat (refine And.intro (by clear hK; intros; first | omega | (simp_all; done) | (simp_all <;> omega)) ?_)
    refine hK _ ?_; clear hK K; refine Nav.imp ?_
    refine awp_region cx [(1, .p (.bool false)), (4, .p (.bool false)), (8, .p (.bool false)), (12, .p (.bool false)), (17, .skip), (22, .skip)] fun K hK => ?_
    simp [push_cast, c1, c2, c3, c4]
    repeat (refine And.intro (by clear hK; intros; first | omega | (simp_all; done) | (simp_all <;> omega)) ?_)
    refine hK _ ?_; clear hK K; refine Nav.imp ?_
    refine awp_cond (b := true) (by simp [push_cast]) (fun hb => ?_) (fun hb => ?_) <;> (refine Nav.imp ?_)
    · refine awp_region cx [(0, .p (.bool true))] fun K hK => ?_
      simp [push_cast, c0]
      repeat (refine And.intro (by clear hK; intros; first | omega | (simp_all; done) | (simp_all <;> omega)) ?_)
      refine hK _ ?_; clear hK K; refine Nav.imp ?_
      simp [push_cast]
    · simp at hb
  | true =>
  rw [h4] at c4
  cases h5 : validR S with
  | false =>
    rw [h5] at c5
    refine pc_of_awp cx (fn := Try.f6) (c := _) Try.func6 rfl rfl (Nat.le_of_ble_eq_true rfl) ?_
    rw [Try.ntmps6]; refine Nav.imp ?_
    refine awp_region cx [] fun K hK => ?_
    simp [push_cast]
    repeat (refine And.intro (by clear hK; intros; first | omega | (simp_all; done) | (simp_all <;> omega)) ?_)
    refine hK _ ?_; clear hK K; refine Nav.imp ?_
    refine awp_region cx [(1, .p (.bool false)), (4, .p (.bool false)), (8, .p (.bool false)), (12, .p (.bool true)), (17, .p (.bool false)), (22, .skip)] fun K hK => ?_
    simp [push_cast, c1, c2, c3, c4, c5]
    repeat (refine And.intro (by clear hK; intros; first | omega | (simp_all; done) | (simp_all <;> omega)) ?_)
    refine hK _ ?_; clear hK K; refine Nav.imp ?_
    refine awp_cond (b := true) (by simp [push_cast]) (fun hb => ?_) (fun hb => ?_) <;> (refine Nav.imp ?_)
    · refine awp_region cx [(0, .p (.bool true))] fun K hK => ?_
      simp [push_cast, c0]
      repeat (refine And.intro (by clear hK; intros; first | omega | (simp_all; done) | (simp_all <;> omega)) ?_)
      refine hK _ ?_; clear hK K; refine Nav.imp ?_
      simp [push_cast]
    · simp at hb
  | true =>
  rw [h5] at c5
  cases h6 : validR M with
  | false =>
    rw [h6] at c6
    refine pc_of_awp cx (fn := Try.f6) (c := _) Try.func6 rfl rfl (Nat.le_of_ble_eq_true rfl) ?_
    rw [Try.ntmps6]; refine Nav.imp ?_
    refine awp_region cx [] fun K hK => ?_
    simp [push_cast]
    repeat (refine And.intro (by clear hK; intros; first | omega | (simp_all; done) | (simp_all <;> omega)) ?_)
    refine hK _ ?_; clear hK K; refine Nav.imp ?_
    refine awp_region cx [(1, .p (.bool false)), (4, .p (.bool false)), (8, .p (.bool false)), (12, .p (.bool true)), (17, .p (.bool true)), (22, .p (.bool false))] fun K hK => ?_
    simp [push_cast, c1, c2, c3, c4, c5, c6]
    repeat (refine And.intro (by clear hK; intros; first | omega | (simp_all; done) | (simp_all <;> omega)) ?_)
    refine hK _ ?_; clear hK K; refine Nav.imp ?_
    refine awp_cond (b := true) (by simp [push_cast]) (fun hb => ?_) (fun hb => ?_) <;> (refine Nav.imp ?_)
    · refine awp_region cx [(0, .p (.bool true))] fun K hK => ?_
      simp [push_cast, c0]
      repeat (refine And.intro (by clear hK; intros; first | omega | (simp_all; done) | (simp_all <;> omega)) ?_)
      refine hK _ ?_; clear hK K; refine Nav.imp ?_
      simp [push_cast]
    · simp at hb
  | true =>
  rw [h6] at c6
  by_cases h7 : k < 0
  · refine pc_of_awp cx (fn := Try.f6) (c := _) Try.func6 rfl rfl (Nat.le_of_ble_eq_true rfl) ?_
    rw [Try.ntmps6]; refine Nav.imp ?_
    refine awp_region cx [] fun K hK => ?_
    simp [push_cast]
    repeat (refine And.intro (by clear hK; intros; first | omega | (simp_all; done) | (simp_all <;> omega)) ?_)
    refine hK _ ?_; clear hK K; refine Nav.imp ?_
    refine awp_region cx [(1, .p (.bool false)), (4, .p (.bool false)), (8, .p (.bool false)), (12, .p (.bool true)), (17, .p (.bool true)), (22, .p (.bool true))] fun K hK => ?_
    simp [push_cast, c1, c2, c3, c4, c5, c6, h7]
    repeat (refine And.intro (by clear hK; intros; first | omega | (simp_all; done) | (simp_all <;> omega)) ?_)
    refine hK _ ?_; clear hK K; refine Nav.imp ?_
    refine awp_cond (b := true) (by simp [push_cast, h7]) (fun hb => ?_) (fun hb => ?_) <;> (refine Nav.imp ?_)
    · refine awp_region cx [(0, .p (.bool true))] fun K hK => ?_
      simp [push_cast, c0]
      repeat (refine And.intro (by clear hK; intros; first | omega | (simp_all; done) | (simp_all <;> omega)) ?_)
      refine hK _ ?_; clear hK K; refine Nav.imp ?_
      simp [push_cast]
    · simp at hb
  by_cases h8 : 64 ≤ k
  · refine pc_of_awp cx (fn := Try.f6) (c := _) Try.func6 rfl rfl (Nat.le_of_ble_eq_true rfl) ?_
    rw [Try.ntmps6]; refine Nav.imp ?_
    refine awp_region cx [] fun K hK => ?_
    simp [push_cast]
    repeat (refine And.intro (by clear hK; intros; first | omega | (simp_all; done) | (simp_all <;> omega)) ?_)
    refine hK _ ?_; clear hK K; refine Nav.imp ?_
    refine awp_region cx [(1, .p (.bool false)), (4, .p (.bool false)), (8, .p (.bool false)), (12, .p (.bool true)), (17, .p (.bool true)), (22, .p (.bool true))] fun K hK => ?_
    simp [push_cast, c1, c2, c3, c4, c5, c6, h7, h8]
    repeat (refine And.intro (by clear hK; intros; first | omega | (simp_all; done) | (simp_all <;> omega)) ?_)
    refine hK _ ?_; clear hK K; refine Nav.imp ?_
    refine awp_cond (b := true) (by simp [push_cast, h7, h8]) (fun hb => ?_) (fun hb => ?_) <;> (refine Nav.imp ?_)
    · refine awp_region cx [(0, .p (.bool true))] fun K hK => ?_
      simp [push_cast, c0]
      repeat (refine And.intro (by clear hK; intros; first | omega | (simp_all; done) | (simp_all <;> omega)) ?_)
      refine hK _ ?_; clear hK K; refine Nav.imp ?_
      simp [push_cast]
    · simp at hb
  have e1 := wrap_i64 (n := k + 1) (by omega) (by omega)
  have m1 : missB S M k = true := by unfold missB; simp [h5, h6]; omega
  have m2 : missB S M (k + 1) = true := by unfold missB; simp [h5, h6]; omega
  obtain ⟨u1, u2⟩ := opR_facts (f := fU) rfl h6 h4
  have m3 : missB S (opR fU M O) k = true := by unfold missB; simp [h5, u1]; omega
  have w1 : withinB (missR S M (k + 1)) (missR S M k) = true := miss_mono m1 m2 fun y x hn => by
    obtain ⟨c, hc, q⟩ := (nearP_cells h6).1 hn
    exact (nearP_cells h6).2 ⟨c, hc, by omega, by omega, by omega, by omega⟩
  have w2 : withinB (missR S (opR fU M O) k) (missR S M k) = true := miss_mono m1 m3 fun y x hn => by
    obtain ⟨c, hc, q⟩ := (nearP_cells h6).1 hn
    exact (nearP_cells u1).2 ⟨c, (opU_iff h6 h4 c).2 (.inl hc), q⟩
  have w3 : withinB (missR S M k) S = true := within_of (miss_facts m1).1 h5 fun c hc => ((miss_facts m1).2 c).1 hc |>.1
  have v1 := big_of (small_valid (miss_valid S M k))
  have v2 := big_of (small_valid (miss_valid S M (k + 1)))
  have v3 := big_of (small_valid (miss_valid S (opR fU M O) k))
  have d1 := missing_ok S M k hS hM
  have d2 := missing_ok S M (k + 1) hS hM
  have d3 := unionR_big M O hM hO
  have d4 := missing_ok S (opR fU M O) k hS (big_of (small_valid u1))
  have d5 := withinR_big _ _ v2 v1
  have d6 := withinR_big _ _ v3 v1
  have d7 := withinR_big _ S v1 hS
  have d8 := missing_ok S S k hS hS
  rw [w1] at d5
  rw [w2] at d6
  rw [w3] at d7
  rw [miss_self h5 ⟨by omega, by omega⟩] at d8
  clear w1 w2 w3 v1 v2 v3 m1 m2 m3 u1 u2
  generalize missR S M k = A at *
  generalize missR S M (k + 1) = B at *
  generalize missR S (opR fU M O) k = C at *
  generalize opR fU M O = U at *
  refine pc_of_awp cx (fn := Try.f6) (c := _) Try.func6 rfl rfl (Nat.le_of_ble_eq_true rfl) ?_
  rw [Try.ntmps6]; refine Nav.imp ?_
  refine awp_region cx [] fun K hK => ?_
  simp [push_cast]
  repeat (refine And.intro (by clear hK; intros; first | omega | (simp_all; done) | (simp_all <;> omega)) ?_)
  refine hK _ ?_; clear hK K; refine Nav.imp ?_
  refine awp_region cx [(1, .p (.bool false)), (4, .p (.bool false)), (8, .p (.bool false)), (12, .p (.bool true)), (17, .p (.bool true)), (22, .p (.bool true))] fun K hK => ?_
  simp [push_cast, c1, c2, c3, c4, c5, c6, h7, h8]
  repeat (refine And.intro (by clear hK; intros; first | omega | (simp_all; done) | (simp_all <;> omega)) ?_)
  refine hK _ ?_; clear hK K; refine Nav.imp ?_
  refine awp_cond (b := false) (by simp [push_cast, h7, h8]) (fun hb => ?_) (fun hb => ?_) <;> (refine Nav.imp ?_)
  · simp at hb
  · refine awp_region cx [(3, .p (.agg (regRow A)))] fun K hK => ?_
    simp [push_cast, d1]
    repeat (refine And.intro (by clear hK; intros; first | omega | (simp_all; done) | (simp_all <;> omega)) ?_)
    refine hK _ ?_; clear hK K; refine Nav.imp ?_
    refine awp_region cx [(4, .p (.agg (regRow B)))] fun K hK => ?_
    simp [push_cast, d2, e1]
    repeat (refine And.intro (by clear hK; intros; first | omega | (simp_all; done) | (simp_all <;> omega)) ?_)
    refine hK _ ?_; clear hK K; refine Nav.imp ?_
    refine awp_region_draw cx mixed [(3, .p (.agg (regRow U))), (5, .p (.agg (regRow C)))] fun K hK => ?_
    simp [push_cast, d3, d4]
    repeat (refine And.intro (by clear hK; intros; first | omega | (simp_all; done) | (simp_all <;> omega)) ?_)
    refine hK _ _ (by kernel_rfl) ?_; clear hK K; refine Nav.imp ?_
    refine awp_region cx [(2, .p (.bool true)), (6, .p (.bool true)), (11, .p (.bool true)), (17, .p (.agg (regRow []))), (23, .p (.bool true))] fun K hK => ?_
    simp [push_cast, c0, d5, d6, d7, d8]
    repeat (refine And.intro (by clear hK; intros; first | omega | (simp_all; done) | (simp_all <;> omega)) ?_)
    refine hK _ ?_; clear hK K; refine Nav.imp ?_
    simp [push_cast]

set_option maxRecDepth 100000 in
theorem inspectLess_lifted (os : Os) (started : os.Started) (H : Type) (enc : TypeId × Value → H) :
    ReturnsInHanded {} Try.checked os 6 .any (Rows.inspectLessSpec.pre6 enc Try.prog Try.f6 Rows.inspectLessRow.domain false) (Rows.inspectLessSpec.post enc Try.prog Try.f6 false true false false) := by
  refine returnsInHanded_of_change (C := Try.checked) own started (by kernel_rfl) Try.func6
    (ChangeSpec.witness6 (enc := enc) (C := Try.checked) false ⟨#[], #[zeroReg, zeroReg, zeroReg, .int .i64 0], []⟩ 8 (by kernel_rfl) (by kernel_rfl) (by kernel_rfl) (by kernel_rfl)) ?_
  intro W base args ds gs before hval hW _ _
  exact law_contract rfl (fun ds h => by match ds, h with | [a0, a1, a2, a3], _ => rfl) laidOut (by simp only [Try.params6]; intro t ht; simp at ht; rcases ht with rfl | rfl <;> exact ⟨by kernel_rfl, of_decide_eq_true (by kernel_rfl)⟩) (by kernel_rfl) rfl Try.underlying4
    (fun xs hx => by
      simp only [Try.params6, hasVs] at hx
      obtain ⟨x0, r0, rfl, h0, x1, r1, rfl, h1, x2, r2, rfl, h2, x3, r3, rfl, h3, rfl⟩ := hx
      obtain ⟨⟨S, hS⟩, rfl⟩ := arg_regionB h0
      obtain ⟨⟨M, hM⟩, rfl⟩ := arg_regionB h1
      obtain ⟨⟨O, hO⟩, rfl⟩ := arg_regionB h2
      obtain ⟨k, rfl⟩ := arg_int h3
      exact inspectless_ok S M O k hS hM hO) W base args ds gs before hval hW

theorem inspectLess_holds : Rows.InspectLessSaid :=
  OpenClaim.holds_of_wide 6 Try.f6 rfl rfl rfl rfl rfl rfl rfl ⟨rfl, rfl, rfl, rfl, rfl⟩ rfl rfl rfl rfl rfl (by kernel_rfl) Try.func6 (by kernel_rfl)
    (of_decide_eq_true (by kernel_rfl)) (by unfold Func.isWrapper; first | (rw [if_pos (by decide +kernel)]; kernel_rfl) | (rw [if_neg (by decide +kernel)]; exact ⟨rfl, rfl⟩))
    (fun os started H enc _ => inspectLess_lifted os started H enc)

end Go.Proofs.Ytlfalheciadklaa
