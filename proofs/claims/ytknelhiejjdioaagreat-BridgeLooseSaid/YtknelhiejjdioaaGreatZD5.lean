/-
  Texts of this seat put together: D5.
-/
import Derived.Test.YtknelhiejjdioaaGreatJ11
set_option linter.unusedVariables false
set_option linter.unusedSimpArgs false
set_option maxRecDepth 100000
namespace Go.Proofs.YtknelhiejjdioaaGreat
open Go.Abs Go.ChangeShapes Go.WideShapes Go.ChangeAt Go.RowKit

theorem anch_within (r b : List Row) (ud : Bool) : withinB (anchR r b ud) (opR fD r b) = true := by
  have h1 := anch_valid r b ud
  have h2 := opR_valid (f := fD) rfl r b
  have h3 : opR fD (anchR r b ud) (opR fD r b) = [] := by
    refine valid_empty (opR_facts (f := fD) rfl h1 h2).1 fun c hc => ?_
    obtain ⟨q1, q2⟩ := (opD_iff h1 h2 c).1 hc
    refine q2 ?_
    cases hv : (validR r && validR b) with
    | false =>
      have : anchR r b ud = [] := by unfold anchR; rw [if_neg (by rw [hv]; simp)]
      rw [this] at q1
      simp [regCells] at q1
    | true =>
      have e : anchR r b ud = coverR (spansU r b ud) := by unfold anchR; rw [if_pos hv]
      simp only [Bool.and_eq_true] at hv
      rw [e, (cover_facts hv.1 hv.2 ud).2.1] at q1
      cases ud with
      | false => exact (span_sub _ _).subset q1
      | true =>
        obtain ⟨t1, m1, _⟩ := turn_facts hv.1
        obtain ⟨t2, m2, _⟩ := turn_facts hv.2
        have h : c ∈ ((spansL (turnR r) (turnR b)).map (·.map xc)).flatten := q1
        rw [← List.map_flatten, xc_mem] at h
        have h2 := (span_sub _ _).subset h
        rw [opD_iff t1 t2, m1, m2] at h2
        exact (opD_iff hv.1 hv.2 c).2 h2
  simp [withinB, h1, h2, h3]

set_option maxHeartbeats 8000000 in
theorem bridgeloose_ok (r b : List Row) (ud : Bool) (hr : bigR r) (hb0 : bigR b) : PC Tryz.prog 5 [.agg (regRow r), .agg (regRow b), .bool ud] (.p (.bool true)) := by
  have c0 := awake30_ok
  have h1 := heavy30_ok r hr
  have h2 := heavy30_ok b hb0
  cases hp : heavyB r with
  | true =>
    rw [hp] at h1
    refine pc_of_awp cx (fn := Tryz.f5) (c := _) Tryz.func5 rfl rfl (Nat.le_of_ble_eq_true rfl) ?_
    rw [Tryz.ntmps5]; refine Nav.imp ?_
    refine awp_region cx [] fun K hK => ?_
    simp [push_cast]
    repeat (refine And.intro (by clear hK; intros; first | omega | (simp_all; done) | (simp_all <;> omega)) ?_)
    refine hK _ ?_; clear hK K; refine Nav.imp ?_
    refine awp_region cx [(1, .p (.bool true)), (4, .skip)] fun K hK => ?_
    simp [push_cast, h1]
    repeat (refine And.intro (by clear hK; intros; first | omega | (simp_all; done) | (simp_all <;> omega)) ?_)
    refine hK _ ?_; clear hK K; refine Nav.imp ?_
    refine awp_cond (b := true) (by simp [push_cast]) (fun hb => ?_) (fun hb => ?_) <;> (refine Nav.imp ?_)
    · refine awp_region cx [(0, .p (.bool true))] fun K hK => ?_
      simp [push_cast, c0]
      repeat (refine And.intro (by clear hK; intros; first | omega | (simp_all; done) | (simp_all <;> omega)) ?_)
      refine hK _ ?_; clear hK K; refine Nav.imp ?_
      simp [push_cast]
    · simp at hb
  | false =>
    rw [hp] at h1
    cases hq : heavyB b with
    | true =>
      rw [hq] at h2
      refine pc_of_awp cx (fn := Tryz.f5) (c := _) Tryz.func5 rfl rfl (Nat.le_of_ble_eq_true rfl) ?_
      rw [Tryz.ntmps5]; refine Nav.imp ?_
      refine awp_region cx [] fun K hK => ?_
      simp [push_cast]
      repeat (refine And.intro (by clear hK; intros; first | omega | (simp_all; done) | (simp_all <;> omega)) ?_)
      refine hK _ ?_; clear hK K; refine Nav.imp ?_
      refine awp_region cx [(1, .p (.bool false)), (4, .p (.bool true))] fun K hK => ?_
      simp [push_cast, h1, h2]
      repeat (refine And.intro (by clear hK; intros; first | omega | (simp_all; done) | (simp_all <;> omega)) ?_)
      refine hK _ ?_; clear hK K; refine Nav.imp ?_
      refine awp_cond (b := true) (by simp [push_cast]) (fun hb => ?_) (fun hb => ?_) <;> (refine Nav.imp ?_)
      · refine awp_region cx [(0, .p (.bool true))] fun K hK => ?_
        simp [push_cast, c0]
        repeat (refine And.intro (by clear hK; intros; first | omega | (simp_all; done) | (simp_all <;> omega)) ?_)
        refine hK _ ?_; clear hK K; refine Nav.imp ?_
        simp [push_cast]
      · simp at hb
    | false =>
      rw [hq] at h2
      have fr := few_of hr hp
      have fb := few_of hb0 hq
      have a1 := bloose_ok r b hr hb0
      have a2 := anchored_ok r b ud fr fb
      have a3 := rloose30_ok r b hr hb0
      have a4 := ranch_ok r b ud fr fb
      have vD := opR_valid (f := fD) rfl r b
      have vA := anch_valid r b ud
      have s1 := rsame_ok (opR fD r b) (opR fD r b) (small_valid vD)
      have s2 := rsame_ok (anchR r b ud) (anchR r b ud) (small_valid vA)
      rw [decide_eq_true rfl] at s1 s2
      have w := withinR_ok (anchR r b ud) (opR fD r b) (small_valid vA) (small_valid vD)
      rw [anch_within] at w
      clear vD vA
      generalize anchR r b ud = A at *
      generalize opR fD r b = D at *
      refine pc_of_awp cx (fn := Tryz.f5) (c := _) Tryz.func5 rfl rfl (Nat.le_of_ble_eq_true rfl) ?_
      rw [Tryz.ntmps5]; refine Nav.imp ?_
      refine awp_region cx [] fun K hK => ?_
      simp [push_cast]
      repeat (refine And.intro (by clear hK; intros; first | omega | (simp_all; done) | (simp_all <;> omega)) ?_)
      refine hK _ ?_; clear hK K; refine Nav.imp ?_
      refine awp_region cx [(1, .p (.bool false)), (4, .p (.bool false))] fun K hK => ?_
      simp [push_cast, h1, h2]
      repeat (refine And.intro (by clear hK; intros; first | omega | (simp_all; done) | (simp_all <;> omega)) ?_)
      refine hK _ ?_; clear hK K; refine Nav.imp ?_
      refine awp_cond (b := false) (by simp [push_cast]) (fun hb => ?_) (fun hb => ?_) <;> (refine Nav.imp ?_)
      · simp at hb
      · refine awp_region_draw cx mixed [(2, .p (.agg (regRow D))), (6, .p (.agg (regRow A)))] fun K hK => ?_
        simp [push_cast, a1, a2]
        repeat (refine And.intro (by clear hK; intros; first | omega | (simp_all; done) | (simp_all <;> omega)) ?_)
        refine hK _ _ (by kernel_rfl) ?_; clear hK K; refine Nav.imp ?_
        refine awp_region_draw cx mixed [(3, .p (.agg (regRow D))), (4, .p (.bool true)), (10, .p (.agg (regRow A))), (11, .p (.bool true)), (16, .p (.bool true)), (19, .p (.bool true))] fun K hK => ?_
        simp [push_cast, a3, a4, s1, s2, w, c0]
        repeat (refine And.intro (by clear hK; intros; first | omega | (simp_all; done) | (simp_all <;> omega)) ?_)
        refine hK _ _ (by kernel_rfl) ?_; clear hK K; refine Nav.imp ?_
        simp [push_cast]

theorem arg_bool {x : D} (h : hasV Tryz.prog 4 x) : ∃ v : Bool, x = .bool v := by
  unfold hasV at h
  rw [Tryz.underlying4] at h
  obtain ⟨v, hv⟩ := hasT_bool (f := 29) Tryz.underlying4 h
  cases hv
  exact ⟨v, rfl⟩
set_option maxRecDepth 100000 in
theorem bridgeLoose_lifted (os : Os) (started : os.Started) (H : Type) (enc : TypeId × Value → H) :
    ReturnsInHanded {} Tryz.checked os 5 .any (Rows.bridgeLooseSpec.pre6 enc Tryz.prog Tryz.f5 Rows.bridgeLooseRow.domain false) (Rows.bridgeLooseSpec.post enc Tryz.prog Tryz.f5 false true false false) := by
  refine returnsInHanded_of_change (C := Tryz.checked) own started (by kernel_rfl) Tryz.func5
    (ChangeSpec.witness6 (enc := enc) (C := Tryz.checked) false ⟨#[], #[zeroReg, zeroReg, .bool false], []⟩ 8 (by kernel_rfl) (by kernel_rfl) (by kernel_rfl) (by kernel_rfl)) ?_
  intro W base args ds gs before hval hW _ _
  exact law_contract rfl (fun ds h => by match ds, h with | [a0, a1, a2], _ => rfl) laidOut (by simp only [Tryz.params5]; intro t ht; simp at ht; rcases ht with rfl | rfl <;> exact ⟨by kernel_rfl, of_decide_eq_true (by kernel_rfl)⟩) (by kernel_rfl) rfl Tryz.underlying4
    (fun xs hx => by
      simp only [Tryz.params5, hasVs] at hx
      obtain ⟨x0, r0, rfl, h0, x1, r1, rfl, h1, x2, r2, rfl, h2, rfl⟩ := hx
      obtain ⟨⟨R, hR⟩, rfl⟩ := arg_regionB h0
      obtain ⟨⟨S, hS⟩, rfl⟩ := arg_regionB h1
      obtain ⟨v, rfl⟩ := arg_bool h2
      exact bridgeloose_ok R S v hR hS) W base args ds gs before hval hW

theorem bridgeLoose_holds : Rows.BridgeLooseSaid :=
  OpenClaim.holds_of_wide 5 Tryz.f5 rfl rfl rfl rfl rfl rfl rfl ⟨rfl, rfl, rfl, rfl, rfl⟩ rfl rfl rfl rfl rfl (by kernel_rfl) Tryz.func5 (by kernel_rfl)
    (of_decide_eq_true (by kernel_rfl)) (by unfold Func.isWrapper; first | (rw [if_pos (by decide +kernel)]; kernel_rfl) | (rw [if_neg (by decide +kernel)]; exact ⟨rfl, rfl⟩))
    (fun os started H enc _ => bridgeLoose_lifted os started H enc)

end Go.Proofs.YtknelhiejjdioaaGreat
