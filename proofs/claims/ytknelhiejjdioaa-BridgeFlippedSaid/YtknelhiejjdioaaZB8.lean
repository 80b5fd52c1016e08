/-
  Texts of this seat put together: B8.
-/
import Derived.Test.YtknelhiejjdioaaJ11
import Derived.Test.YtknelhiejjdioaaJ12
set_option linter.unusedVariables false
set_option linter.unusedSimpArgs false
set_option maxRecDepth 100000
namespace Go.Proofs.Ytknelhiejjdioaa
open Go.Abs Go.ChangeShapes Go.WideShapes Go.ChangeAt Go.RowKit

theorem anch_valid (r b : List Row) (up : Bool) : validR (anchR r b up) = true := by
  unfold anchR
  split
  · rename_i h
    simp only [Bool.and_eq_true] at h
    exact (cover_facts h.1 h.2 up).1
  · rfl
theorem anch_len {r b : List Row} (hr : validR r = true) (hb : validR b = true) (up : Bool) : (regCells (anchR r b up)).length ≤ (regCells r).length := by
  unfold anchR
  rw [hr, hb, if_pos (by decide)]
  obtain ⟨h1, h2, h3, _⟩ := spansU_facts hr hb up
  obtain ⟨_, _, h5⟩ := of_set h1 h2
  unfold coverR
  omega
theorem anch_flip {r b : List Row} (hr : validR r = true) (hb : validR b = true) : turnR (anchR r b true) = anchR (turnR r) (turnR b) false := by
  obtain ⟨t1, _, _⟩ := turn_facts hr
  obtain ⟨t2, _, _⟩ := turn_facts hb
  obtain ⟨v1, m1, _⟩ := cover_facts hr hb true
  obtain ⟨v2, m2, _⟩ := cover_facts t1 t2 false
  have e1 : anchR r b true = coverR (spansU r b true) := by unfold anchR; rw [hr, hb, if_pos (by decide)]
  have e2 : anchR (turnR r) (turnR b) false = coverR (spansU (turnR r) (turnR b) false) := by unfold anchR; rw [t1, t2, if_pos (by decide)]
  rw [e1, e2]
  refine region_uniq (turn_facts v1).1 v2 fun c => ?_
  rw [(turn_facts v1).2.1, m1, m2]
  have e : (spansU r b true).flatten = (spansU (turnR r) (turnR b) false).flatten.map xc := by
    show ((spansL (turnR r) (turnR b)).map (·.map xc)).flatten = (spansL (turnR r) (turnR b)).flatten.map xc
    rw [List.map_flatten]
  rw [e, xc_mem, xc_sw]

set_option maxHeartbeats 8000000 in
theorem bridgeflipped_ok (r b : List Row) (hr : bigR r) (hb0 : bigR b) : PC Try.prog 3 [.agg (regRow r), .agg (regRow b)] (.p (.bool true)) := by
  have c0 := awake30_ok
  have h1 := heavy30_ok r hr
  have h2 := heavy30_ok b hb0
  have v1 := validR_big r hr
  have v2 := validR_big b hb0
  cases hp : heavyB r with
  | true =>
    rw [hp] at h1
    refine pc_of_awp cx (fn := Try.f3) (c := _) Try.func3 rfl rfl (Nat.le_of_ble_eq_true rfl) ?_
    rw [Try.ntmps3]; refine Nav.imp ?_
    refine awp_region cx [] fun K hK => ?_
    simp [push_cast]
    repeat (refine And.intro (by clear hK; intros; first | omega | (simp_all; done) | (simp_all <;> omega)) ?_)
    refine hK _ ?_; clear hK K; refine Nav.imp ?_
    refine awp_region cx [(1, .p (.bool true)), (4, .skip), (8, .skip), (13, .skip)] fun K hK => ?_
    simp [push_cast, h1]
    repeat (refine And.intro (by clear hK; intros; first | omega | (simp_all; done) | (simp_all <;> omega)) ?_)
    refine hK _ ?_; clear hK K; refine Nav.imp ?_
    refine awp_cond (b := true) (by simp [push_cast]) (fun hb => ?_) (fun hb => ?_) <;> (refine Nav.imp ?_)
    · refine awp_region cx [(0, .p (.bool true))] fun K hK => ?_
      simp [push_cast, c0]
      repeat (refine And.intro (by clear hK; intros; first | omega | (simp_all; done) | (simp_all <;> omega)) ?_)
      refine hK _ ?_; clear hK K; refine Nav.imp ?_
      simp [push_cast]
    · simp at hb
  | false =>
    rw [hp] at h1
    cases hq : heavyB b with
    | true =>
      rw [hq] at h2
      refine pc_of_awp cx (fn := Try.f3) (c := _) Try.func3 rfl rfl (Nat.le_of_ble_eq_true rfl) ?_
      rw [Try.ntmps3]; refine Nav.imp ?_
      refine awp_region cx [] fun K hK => ?_
      simp [push_cast]
      repeat (refine And.intro (by clear hK; intros; first | omega | (simp_all; done) | (simp_all <;> omega)) ?_)
      refine hK _ ?_; clear hK K; refine Nav.imp ?_
      refine awp_region cx [(1, .p (.bool false)), (4, .p (.bool true)), (8, .skip), (13, .skip)] fun K hK => ?_
      simp [push_cast, h1, h2]
      repeat (refine And.intro (by clear hK; intros; first | omega | (simp_all; done) | (simp_all <;> omega)) ?_)
      refine hK _ ?_; clear hK K; refine Nav.imp ?_
      refine awp_cond (b := true) (by simp [push_cast]) (fun hb => ?_) (fun hb => ?_) <;> (refine Nav.imp ?_)
      · refine awp_region cx [(0, .p (.bool true))] fun K hK => ?_
        simp [push_cast, c0]
        repeat (refine And.intro (by clear hK; intros; first | omega | (simp_all; done) | (simp_all <;> omega)) ?_)
        refine hK _ ?_; clear hK K; refine Nav.imp ?_
        simp [push_cast]
      · simp at hb
    | false =>
      rw [hq] at h2
      cases hv : validR r with
      | false =>
        rw [hv] at v1
        refine pc_of_awp cx (fn := Try.f3) (c := _) Try.func3 rfl rfl (Nat.le_of_ble_eq_true rfl) ?_
        rw [Try.ntmps3]; refine Nav.imp ?_
        refine awp_region cx [] fun K hK => ?_
        simp [push_cast]
        repeat (refine And.intro (by clear hK; intros; first | omega | (simp_all; done) | (simp_all <;> omega)) ?_)
        refine hK _ ?_; clear hK K; refine Nav.imp ?_
        refine awp_region cx [(1, .p (.bool false)), (4, .p (.bool false)), (8, .p (.bool false)), (13, .skip)] fun K hK => ?_
        simp [push_cast, h1, h2, v1]
        repeat (refine And.intro (by clear hK; intros; first | omega | (simp_all; done) | (simp_all <;> omega)) ?_)
        refine hK _ ?_; clear hK K; refine Nav.imp ?_
        refine awp_cond (b := true) (by simp [push_cast]) (fun hb => ?_) (fun hb => ?_) <;> (refine Nav.imp ?_)
        · refine awp_region cx [(0, .p (.bool true))] fun K hK => ?_
          simp [push_cast, c0]
          repeat (refine And.intro (by clear hK; intros; first | omega | (simp_all; done) | (simp_all <;> omega)) ?_)
          refine hK _ ?_; clear hK K; refine Nav.imp ?_
          simp [push_cast]
        · simp at hb
      | true =>
        rw [hv] at v1
        cases hw : validR b with
        | false =>
          rw [hw] at v2
          refine pc_of_awp cx (fn := Try.f3) (c := _) Try.func3 rfl rfl (Nat.le_of_ble_eq_true rfl) ?_
          rw [Try.ntmps3]; refine Nav.imp ?_
          refine awp_region cx [] fun K hK => ?_
          simp [push_cast]
          repeat (refine And.intro (by clear hK; intros; first | omega | (simp_all; done) | (simp_all <;> omega)) ?_)
          refine hK _ ?_; clear hK K; refine Nav.imp ?_
          refine awp_region cx [(1, .p (.bool false)), (4, .p (.bool false)), (8, .p (.bool true)), (13, .p (.bool false))] fun K hK => ?_
          simp [push_cast, h1, h2, v1, v2]
          repeat (refine And.intro (by clear hK; intros; first | omega | (simp_all; done) | (simp_all <;> omega)) ?_)
          refine hK _ ?_; clear hK K; refine Nav.imp ?_
          refine awp_cond (b := true) (by simp [push_cast]) (fun hb => ?_) (fun hb => ?_) <;> (refine Nav.imp ?_)
          · refine awp_region cx [(0, .p (.bool true))] fun K hK => ?_
            simp [push_cast, c0]
            repeat (refine And.intro (by clear hK; intros; first | omega | (simp_all; done) | (simp_all <;> omega)) ?_)
            refine hK _ ?_; clear hK K; refine Nav.imp ?_
            simp [push_cast]
          · simp at hb
        | true =>
          rw [hw] at v2
          have fr := few_of hr hp
          have fb := few_of hb0 hq
          have nr := fr.2 hv
          have nb := fb.2 hw
          obtain ⟨t1, _, l1⟩ := turn_facts hv
          obtain ⟨t2, _, l2⟩ := turn_facts hw
          have a1 := anchored_ok r b true fr fb
          have a2 := anchored_ok (turnR r) (turnR b) false (few_valid t1 (by omega)) (few_valid t2 (by omega))
          rw [← anch_flip hv hw] at a2
          have p1 := flip_ok r hv nr
          have p2 := flip_ok b hw nb
          have va := anch_valid r b true
          have na := anch_len hv hw true
          have p3 := flip_ok (anchR r b true) va (by omega)
          have p4 := validR_ok (anchR r b true) (small_valid va)
          rw [va] at p4
          have p5 := rsame_ok (turnR (anchR r b true)) (turnR (anchR r b true)) (small_valid (turn_facts va).1)
          rw [decide_eq_true rfl] at p5
          clear va na
          generalize turnR (anchR r b true) = B at *
          generalize anchR r b true = A at *
          generalize turnR r = Tr at *
          generalize turnR b = Tb at *
          refine pc_of_awp cx (fn := Try.f3) (c := _) Try.func3 rfl rfl (Nat.le_of_ble_eq_true rfl) ?_
          rw [Try.ntmps3]; refine Nav.imp ?_
          refine awp_region cx [] fun K hK => ?_
          simp [push_cast]
          repeat (refine And.intro (by clear hK; intros; first | omega | (simp_all; done) | (simp_all <;> omega)) ?_)
          refine hK _ ?_; clear hK K; refine Nav.imp ?_
          refine awp_region cx [(1, .p (.bool false)), (4, .p (.bool false)), (8, .p (.bool true)), (13, .p (.bool true))] fun K hK => ?_
          simp [push_cast, h1, h2, v1, v2]
          repeat (refine And.intro (by clear hK; intros; first | omega | (simp_all; done) | (simp_all <;> omega)) ?_)
          refine hK _ ?_; clear hK K; refine Nav.imp ?_
          refine awp_cond (b := false) (by simp [push_cast]) (fun hb => ?_) (fun hb => ?_) <;> (refine Nav.imp ?_)
          · simp at hb
          · refine awp_region cx [(2, .p (.agg (regRow A)))] fun K hK => ?_
            simp [push_cast, a1]
            repeat (refine And.intro (by clear hK; intros; first | omega | (simp_all; done) | (simp_all <;> omega)) ?_)
            refine hK _ ?_; clear hK K; refine Nav.imp ?_
            refine awp_region_draw cx mixed [(1, .p (.agg (regRow Tr))), (3, .p (.agg (regRow Tb))), (4, .p (.agg (regRow B)))] fun K hK => ?_
            simp [push_cast, p1, p2, a2]
            repeat (refine And.intro (by clear hK; intros; first | omega | (simp_all; done) | (simp_all <;> omega)) ?_)
            refine hK _ _ (by kernel_rfl) ?_; clear hK K; refine Nav.imp ?_
            refine awp_region_draw cx mixed [(1, .p (.bool true)), (4, .p (.agg (regRow B))), (6, .p (.bool true)), (9, .p (.bool true))] fun K hK => ?_
            simp [push_cast, p3, p4, p5, c0]
            repeat (refine And.intro (by clear hK; intros; first | omega | (simp_all; done) | (simp_all <;> omega)) ?_)
            refine hK _ _ (by kernel_rfl) ?_; clear hK K; refine Nav.imp ?_
            simp [push_cast]

set_option maxRecDepth 100000 in
theorem bridgeFlipped_lifted (os : Os) (started : os.Started) (H : Type) (enc : TypeId × Value → H) :
    ReturnsInHanded {} Try.checked os 3 .any (Rows.bridgeFlippedSpec.pre6 enc Try.prog Try.f3 Rows.bridgeFlippedRow.domain false) (Rows.bridgeFlippedSpec.post enc Try.prog Try.f3 false true false false) := by
  refine returnsInHanded_of_change (C := Try.checked) own started (by kernel_rfl) Try.func3
    (ChangeSpec.witness6 (enc := enc) (C := Try.checked) false ⟨#[], #[zeroReg, zeroReg], []⟩ 8 (by kernel_rfl) (by kernel_rfl) (by kernel_rfl) (by kernel_rfl)) ?_
  intro W base args ds gs before hval hW _ _
  exact law_contract rfl (fun ds h => by match ds, h with | [a0, a1], _ => rfl) laidOut (by simp only [Try.params3]; intro t ht; simp at ht; rcases ht with rfl <;> exact ⟨by kernel_rfl, of_decide_eq_true (by kernel_rfl)⟩) (by kernel_rfl) rfl Try.underlying4
    (fun xs hx => by
      simp only [Try.params3, hasVs] at hx
      obtain ⟨x0, r0, rfl, h0, x1, r1, rfl, h1, rfl⟩ := hx
      obtain ⟨⟨R, hR⟩, rfl⟩ := arg_regionB h0
      obtain ⟨⟨S, hS⟩, rfl⟩ := arg_regionB h1
      exact bridgeflipped_ok R S hR hS) W base args ds gs before hval hW

theorem bridgeFlipped_holds : Rows.BridgeFlippedSaid :=
  OpenClaim.holds_of_wide 3 Try.f3 rfl rfl rfl rfl rfl rfl rfl ⟨rfl, rfl, rfl, rfl, rfl⟩ rfl rfl rfl rfl rfl (by kernel_rfl) Try.func3 (by kernel_rfl)
    (of_decide_eq_true (by kernel_rfl)) (by unfold Func.isWrapper; first | (rw [if_pos (by decide +kernel)]; kernel_rfl) | (rw [if_neg (by decide +kernel)]; exact ⟨rfl, rfl⟩))
    (fun os started H enc _ => bridgeFlipped_lifted os started H enc)

end Go.Proofs.Ytknelhiejjdioaa
