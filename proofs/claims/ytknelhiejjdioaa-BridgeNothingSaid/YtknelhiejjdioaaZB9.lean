/-
  Texts of this seat put together: B9.
-/
import Derived.Test.YtknelhiejjdioaaJ11
import Derived.Test.YtknelhiejjdioaaJ12
set_option linter.unusedVariables false
set_option linter.unusedSimpArgs false
set_option maxRecDepth 100000
namespace Go.Proofs.Ytknelhiejjdioaa
open Go.Abs Go.ChangeShapes Go.WideShapes Go.ChangeAt Go.RowKit

theorem opD_empty {a b : List Row} (ha : validR a = true) (hb : validR b = true) (h : ∀ c, c ∈ regCells a → c ∈ regCells b) : opR fD a b = [] :=
  valid_empty (opR_facts rfl ha hb).1 fun c hc => by
    have := (opD_iff ha hb c).1 hc
    exact this.2 (h c this.1)
theorem no_spans {H : List Row} : spanR [] H = [] := rfl
theorem no_held (D : List Row) : spanR D [] = [] := by
  unfold spanR
  rw [List.flatMap_eq_nil_iff]
  intro w _
  unfold spanRow
  rw [List.flatMap_eq_nil_iff]
  intro q _
  unfold spanRun
  rw [if_neg]
  simp [anch, regCells]
theorem turn_nil : turnR [] = [] := aw_c0
theorem opI_nil {a : List Row} (ha : validR a = true) : opR fI a [] = [] :=
  valid_empty (opR_facts (f := fI) rfl ha rfl).1 fun c hc => by
    have := ((opI_iff ha rfl c).1 hc).2
    simp [regCells] at this
theorem opD_nil {a : List Row} (ha : validR a = true) : opR fD a [] = a :=
  region_uniq (opR_facts (f := fD) rfl ha rfl).1 ha fun c => by
    rw [opD_iff ha rfl]
    simp [regCells]
theorem union_len {a b : List Row} (ha : validR a = true) (hb : validR b = true) : (regCells (opR fU a b)).length ≤ (regCells a).length + (regCells b).length := by
  have h1 := (opR_facts (f := fU) rfl ha hb).1
  have h2 := (opR_facts (f := fD) rfl hb ha).1
  have hp : (regCells (opR fU a b)).Perm (regCells a ++ regCells (opR fD b a)) := by
    refine (List.perm_ext_iff_of_nodup (nodup_of_ltY (cells_pw h1)) (List.nodup_append.2 ⟨nodup_of_ltY (cells_pw ha), nodup_of_ltY (cells_pw h2), fun x hx y hy hxy => ?_⟩)).2 fun c => ?_
    · subst hxy
      exact ((opD_iff hb ha x).1 hy).2 hx
    · rw [opU_iff ha hb, List.mem_append, opD_iff hb ha]
      by_cases h : c ∈ regCells a <;> simp [h]
  have h3 := cells_le h2 hb fun c hc => ((opD_iff hb ha c).1 hc).1
  rw [hp.length_eq, List.length_append]
  omega
/-- No spans either way: all that is loose is left. -/
theorem br_none {r b : List Row} (hr : validR r = true) (hb : validR b = true) (h : ∀ up, spansU r b up = []) : brL r b = [] ∧ brRest r b = opR fD (opR fD r b) [] := by
  have h1 : brL r b = [] := by
    unfold brL
    rw [hr, hb, if_pos (by decide), h]
  refine ⟨h1, ?_⟩
  unfold brRest
  rw [hr, hb, if_pos (by decide), h1, aw_c0]
theorem none_full {r b : List Row} (hr : validR r = true) (hb : validR b = true) (up : Bool) : spansU r (opR fU r b) up = [] := by
  have hU := (opR_facts (f := fU) rfl hr hb).1
  have h1 : opR fD r (opR fU r b) = [] := opD_empty hr hU fun c hc => (opU_iff hr hb c).2 (.inl hc)
  obtain ⟨t1, m1, _⟩ := turn_facts hr
  obtain ⟨t2, m2, _⟩ := turn_facts hU
  have h2 : opR fD (turnR r) (turnR (opR fU r b)) = [] := opD_empty t1 t2 fun c hc => by
    rw [m2, opU_iff hr hb]
    exact .inl ((m1 c).1 hc)
  cases up with
  | false =>
    show spanR (opR fD r (opR fU r b)) _ = []
    rw [h1]; rfl
  | true =>
    show (spanR (opR fD (turnR r) (turnR (opR fU r b))) _).map _ = []
    rw [h2]; rfl
theorem none_below {r : List Row} (hr : validR r = true) (up : Bool) : spansU r [] up = [] := by
  cases up with
  | false =>
    show spanR _ (opR fI r []) = []
    rw [opI_nil hr, no_held]
  | true =>
    show (spanR _ (opR fI (turnR r) (turnR []))).map _ = []
    rw [turn_nil, opI_nil (turn_facts hr).1, no_held]; rfl

set_option maxHeartbeats 8000000 in
theorem bridgenothing_ok (r b : List Row) (hr : bigR r) (hb0 : bigR b) : PC Try.prog 5 [.agg (regRow r), .agg (regRow b)] (.p (.bool true)) := by
  have c0 := awake30_ok
  have h1 := heavy30_ok r hr
  have h2 := heavy30_ok b hb0
  have v1 := validR_big r hr
  have v2 := validR_big b hb0
  cases hp : heavyB r with
  | true =>
    rw [hp] at h1
    refine pc_of_awp cx (fn := Try.f5) (c := _) Try.func5 rfl rfl (Nat.le_of_ble_eq_true rfl) ?_
    rw [Try.ntmps5]; refine Nav.imp ?_
    refine awp_region cx [] fun K hK => ?_
    simp [push_cast]
    repeat (refine And.intro (by clear hK; intros; first | omega | (simp_all; done) | (simp_all <;> omega)) ?_)
    refine hK _ ?_; clear hK K; refine Nav.imp ?_
    refine awp_region cx [(1, .p (.bool true)), (4, .skip), (8, .skip), (13, .skip)] fun K hK => ?_
    simp [push_cast, h1]
    repeat (refine And.intro (by clear hK; intros; first | omega | (simp_all; done) | (simp_all <;> omega)) ?_)
    refine hK _ ?_; clear hK K; refine Nav.imp ?_
    refine awp_cond (b := true) (by simp [push_cast]) (fun hb => ?_) (fun hb => ?_) <;> (refine Nav.imp ?_)
    · refine awp_region cx [(0, .p (.bool true))] fun K hK => ?_
      simp [push_cast, c0]
      repeat (refine And.intro (by clear hK; intros; first | omega | (simp_all; done) | (simp_all <;> omega)) ?_)
      refine hK _ ?_; clear hK K; refine Nav.imp ?_
      simp [push_cast]
    · simp at hb
  | false =>
    rw [hp] at h1
    cases hq : heavyB b with
    | true =>
      rw [hq] at h2
      refine pc_of_awp cx (fn := Try.f5) (c := _) Try.func5 rfl rfl (Nat.le_of_ble_eq_true rfl) ?_
      rw [Try.ntmps5]; refine Nav.imp ?_
      refine awp_region cx [] fun K hK => ?_
      simp [push_cast]
      repeat (refine And.intro (by clear hK; intros; first | omega | (simp_all; done) | (simp_all <;> omega)) ?_)
      refine hK _ ?_; clear hK K; refine Nav.imp ?_
      refine awp_region cx [(1, .p (.bool false)), (4, .p (.bool true)), (8, .skip), (13, .skip)] fun K hK => ?_
      simp [push_cast, h1, h2]
      repeat (refine And.intro (by clear hK; intros; first | omega | (simp_all; done) | (simp_all <;> omega)) ?_)
      refine hK _ ?_; clear hK K; refine Nav.imp ?_
      refine awp_cond (b := true) (by simp [push_cast]) (fun hb => ?_) (fun hb => ?_) <;> (refine Nav.imp ?_)
      · refine awp_region cx [(0, .p (.bool true))] fun K hK => ?_
        simp [push_cast, c0]
        repeat (refine And.intro (by clear hK; intros; first | omega | (simp_all; done) | (simp_all <;> omega)) ?_)
        refine hK _ ?_; clear hK K; refine Nav.imp ?_
        simp [push_cast]
      · simp at hb
    | false =>
      rw [hq] at h2
      cases hv : validR r with
      | false =>
        rw [hv] at v1
        refine pc_of_awp cx (fn := Try.f5) (c := _) Try.func5 rfl rfl (Nat.le_of_ble_eq_true rfl) ?_
        rw [Try.ntmps5]; refine Nav.imp ?_
        refine awp_region cx [] fun K hK => ?_
        simp [push_cast]
        repeat (refine And.intro (by clear hK; intros; first | omega | (simp_all; done) | (simp_all <;> omega)) ?_)
        refine hK _ ?_; clear hK K; refine Nav.imp ?_
        refine awp_region cx [(1, .p (.bool false)), (4, .p (.bool false)), (8, .p (.bool false)), (13, .skip)] fun K hK => ?_
        simp [push_cast, h1, h2, v1]
        repeat (refine And.intro (by clear hK; intros; first | omega | (simp_all; done) | (simp_all <;> omega)) ?_)
        refine hK _ ?_; clear hK K; refine Nav.imp ?_
        refine awp_cond (b := true) (by simp [push_cast]) (fun hb => ?_) (fun hb => ?_) <;> (refine Nav.imp ?_)
        · refine awp_region cx [(0, .p (.bool true))] fun K hK => ?_
          simp [push_cast, c0]
          repeat (refine And.intro (by clear hK; intros; first | omega | (simp_all; done) | (simp_all <;> omega)) ?_)
          refine hK _ ?_; clear hK K; refine Nav.imp ?_
          simp [push_cast]
        · simp at hb
      | true =>
        rw [hv] at v1
        cases hw : validR b with
        | false =>
          rw [hw] at v2
          refine pc_of_awp cx (fn := Try.f5) (c := _) Try.func5 rfl rfl (Nat.le_of_ble_eq_true rfl) ?_
          rw [Try.ntmps5]; refine Nav.imp ?_
          refine awp_region cx [] fun K hK => ?_
          simp [push_cast]
          repeat (refine And.intro (by clear hK; intros; first | omega | (simp_all; done) | (simp_all <;> omega)) ?_)
          refine hK _ ?_; clear hK K; refine Nav.imp ?_
          refine awp_region cx [(1, .p (.bool false)), (4, .p (.bool false)), (8, .p (.bool true)), (13, .p (.bool false))] fun K hK => ?_
          simp [push_cast, h1, h2, v1, v2]
          repeat (refine And.intro (by clear hK; intros; first | omega | (simp_all; done) | (simp_all <;> omega)) ?_)
          refine hK _ ?_; clear hK K; refine Nav.imp ?_
          refine awp_cond (b := true) (by simp [push_cast]) (fun hb => ?_) (fun hb => ?_) <;> (refine Nav.imp ?_)
          · refine awp_region cx [(0, .p (.bool true))] fun K hK => ?_
            simp [push_cast, c0]
            repeat (refine And.intro (by clear hK; intros; first | omega | (simp_all; done) | (simp_all <;> omega)) ?_)
            refine hK _ ?_; clear hK K; refine Nav.imp ?_
            simp [push_cast]
          · simp at hb
        | true =>
          rw [hw] at v2
          have fr := few_of hr hp
          have fb := few_of hb0 hq
          have nr := (heavy_facts hp).2 hv
          have nb := (heavy_facts hq).2 hw
          have hU := (opR_facts (f := fU) rfl hv hw).1
          have lU := union_len hv hw
          have fU' := few_valid hU (by omega)
          have u1 := unionR_ok r b (small_valid hv) (small_valid hw)
          obtain ⟨e1, e2⟩ := br_none hv hU (none_full hv hw)
          rw [opD_empty hv hU fun c hc => (opU_iff hv hw c).2 (.inl hc), opD_nil rfl] at e2
          obtain ⟨e3, e4⟩ := br_none hv rfl (none_below hv)
          rw [opD_nil hv, opD_nil hv] at e4
          have a1 := bridges_ok r (opR fU r b) fr fU'
          have a2 := bridges_ok r [] fr (few_valid rfl (by simp [regCells]))
          rw [e1, e2] at a1
          rw [e3, e4] at a2
          have s1 := sameR_ok r r (small_valid hv) (small_valid hv)
          rw [show sameB r r = true from by simp [sameB, hv]] at s1
          simp only [List.map_nil, encTracks] at a1 a2
          change PC Try.prog 20 [.agg (regRow r), .agg [.sl []]] (.p (.tup [.sl [], .agg (regRow r)])) at a2
          generalize opR fU r b = U at *
          refine pc_of_awp cx (fn := Try.f5) (c := _) Try.func5 rfl rfl (Nat.le_of_ble_eq_true rfl) ?_
          rw [Try.ntmps5]; refine Nav.imp ?_
          refine awp_region cx [] fun K hK => ?_
          simp [push_cast]
          repeat (refine And.intro (by clear hK; intros; first | omega | (simp_all; done) | (simp_all <;> omega)) ?_)
          refine hK _ ?_; clear hK K; refine Nav.imp ?_
          refine awp_region cx [(1, .p (.bool false)), (4, .p (.bool false)), (8, .p (.bool true)), (13, .p (.bool true))] fun K hK => ?_
          simp [push_cast, h1, h2, v1, v2]
          repeat (refine And.intro (by clear hK; intros; first | omega | (simp_all; done) | (simp_all <;> omega)) ?_)
          refine hK _ ?_; clear hK K; refine Nav.imp ?_
          refine awp_cond (b := false) (by simp [push_cast]) (fun hb => ?_) (fun hb => ?_) <;> (refine Nav.imp ?_)
          · simp at hb
          · refine awp_region_draw cx mixed [(3, .p (.agg (regRow U))), (4, .p (.tup [.sl [], .agg (regRow [])]))] fun K hK => ?_
            simp [push_cast, u1, a1]
            repeat (refine And.intro (by clear hK; intros; first | omega | (simp_all; done) | (simp_all <;> omega)) ?_)
            refine hK _ _ (by kernel_rfl) ?_; clear hK K; refine Nav.imp ?_
            refine awp_region cx [(2, .p (.tup [.sl [], .agg (regRow r)]))] fun K hK => ?_
            simp [push_cast, a2]
            repeat (refine And.intro (by clear hK; intros; first | omega | (simp_all; done) | (simp_all <;> omega)) ?_)
            refine hK _ ?_; clear hK K; refine Nav.imp ?_
            refine awp_region cx [(17, .p (.bool true)), (20, .p (.bool true))] fun K hK => ?_
            simp [push_cast, s1, c0]
            repeat (refine And.intro (by clear hK; intros; first | omega | (simp_all; done) | (simp_all <;> omega)) ?_)
            refine hK _ ?_; clear hK K; refine Nav.imp ?_
            simp [push_cast]

set_option maxRecDepth 100000 in
theorem bridgeNothing_lifted (os : Os) (started : os.Started) (H : Type) (enc : TypeId × Value → H) :
    ReturnsInHanded {} Try.checked os 5 .any (Rows.bridgeNothingSpec.pre6 enc Try.prog Try.f5 Rows.bridgeNothingRow.domain false) (Rows.bridgeNothingSpec.post enc Try.prog Try.f5 false true false false) := by
  refine returnsInHanded_of_change (C := Try.checked) own started (by kernel_rfl) Try.func5
    (ChangeSpec.witness6 (enc := enc) (C := Try.checked) false ⟨#[], #[zeroReg, zeroReg], []⟩ 8 (by kernel_rfl) (by kernel_rfl) (by kernel_rfl) (by kernel_rfl)) ?_
  intro W base args ds gs before hval hW _ _
  exact law_contract rfl (fun ds h => by match ds, h with | [a0, a1], _ => rfl) laidOut (by simp only [Try.params5]; intro t ht; simp at ht; rcases ht with rfl <;> exact ⟨by kernel_rfl, of_decide_eq_true (by kernel_rfl)⟩) (by kernel_rfl) rfl Try.underlying4
    (fun xs hx => by
      simp only [Try.params5, hasVs] at hx
      obtain ⟨x0, r0, rfl, h0, x1, r1, rfl, h1, rfl⟩ := hx
      obtain ⟨⟨R, hR⟩, rfl⟩ := arg_regionB h0
      obtain ⟨⟨S, hS⟩, rfl⟩ := arg_regionB h1
      exact bridgenothing_ok R S hR hS) W base args ds gs before hval hW

theorem bridgeNothing_holds : Rows.BridgeNothingSaid :=
  OpenClaim.holds_of_wide 5 Try.f5 rfl rfl rfl rfl rfl rfl rfl ⟨rfl, rfl, rfl, rfl, rfl⟩ rfl rfl rfl rfl rfl (by kernel_rfl) Try.func5 (by kernel_rfl)
    (of_decide_eq_true (by kernel_rfl)) (by unfold Func.isWrapper; first | (rw [if_pos (by decide +kernel)]; kernel_rfl) | (rw [if_neg (by decide +kernel)]; exact ⟨rfl, rfl⟩))
    (fun os started H enc _ => bridgeNothing_lifted os started H enc)

end Go.Proofs.Ytknelhiejjdioaa
