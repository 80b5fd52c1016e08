/-
  Texts of this seat put together: A13.
-/
import Derived.Test.YtagakfaiimaifaaJ12
set_option linter.unusedVariables false
set_option linter.unusedSimpArgs false
set_option maxRecDepth 100000
namespace Go.Proofs.Ytagakfaiimaifaa
open Go.Abs Go.ChangeShapes Go.WideShapes Go.ChangeAt Go.RowKit

def ringR : List Row := [⟨0, [⟨0, 3⟩]⟩, ⟨1, [⟨0, 1⟩, ⟨2, 3⟩]⟩, ⟨2, [⟨0, 3⟩]⟩]
def ringH : List Row := [⟨1, [⟨1, 2⟩]⟩]
def ringF : List Row := [⟨0, [⟨0, 3⟩]⟩, ⟨1, [⟨0, 3⟩]⟩, ⟨2, [⟨0, 3⟩]⟩]
theorem ring_holes : holesR ringR = [ringH] := by
  unfold holesR
  rw [grpsC_eq]
  kernel_rfl
theorem ofR_back {R : List Row} (hv : validR R = true) : ofR (regCells R) = R := by
  have h : (regCells R).all onG = true := List.all_eq_true.2 fun c hc => cells_on hv hc
  have hs := sortY_cells hv (List.Perm.refl (regCells R))
  unfold ofR
  rw [if_pos h, hs]
  exact build_cells hv
theorem ring_comp : compR ringR = [ringR] := by
  have hv : validR ringR = true := by kernel_rfl
  have e : grpsC (cellsOf ringR) false = [regCells ringR] := by kernel_rfl
  unfold compR
  rw [grpsC_eq, e, List.map_cons, ofR_back hv]; rfl
theorem ring_fill : fillR ringR = ringF := by
  have hv : validR ringR = true := by kernel_rfl
  have hh : validR ringH = true := by kernel_rfl
  have hf : validR ringF = true := by kernel_rfl
  have h0 : validR (opR fU ringR []) = true := opR_val (f := fU) rfl _ _
  unfold fillR
  rw [if_pos hv, ring_holes]
  show opR fU (opR fU ringR []) ringH = ringF
  refine region_uniq (opR_val (f := fU) rfl _ _) hf fun c => ?_
  rw [opU_iff h0 hh, opU_iff hv rfl]
  have e1 : regCells ringR = [⟨0, 0⟩, ⟨1, 0⟩, ⟨2, 0⟩, ⟨0, 1⟩, ⟨2, 1⟩, ⟨0, 2⟩, ⟨1, 2⟩, ⟨2, 2⟩] := by kernel_rfl
  have e2 : regCells ringH = [⟨1, 1⟩] := by kernel_rfl
  have e3 : regCells ringF = [⟨0, 0⟩, ⟨1, 0⟩, ⟨2, 0⟩, ⟨0, 1⟩, ⟨1, 1⟩, ⟨2, 1⟩, ⟨0, 2⟩, ⟨1, 2⟩, ⟨2, 2⟩] := by kernel_rfl
  rw [e1, e2, e3]
  simp only [regCells, List.flatMap_nil, List.mem_cons, List.not_mem_nil, or_false]
  constructor
  · rintro ((h | h | h | h | h | h | h | h) | h) <;> simp [h]
  · rintro (h | h | h | h | h | h | h | h | h) <;> simp [h]
theorem ring_depth : depN ringF ⟨1, 1⟩ = 2 := by
  have h0 : inAllB ringF ⟨1, 1⟩ 0 = true := by kernel_rfl
  have h1 : inAllB ringF ⟨1, 1⟩ 1 = true := by kernel_rfl
  have h2 : inAllB ringF ⟨1, 1⟩ 2 = false := by kernel_rfl
  refine depN_of (fun j hj => ?_) h2
  have : j = 0 ∨ j = 1 := by omega
  rcases this with rfl | rfl
  · exact h0
  · exact h1
theorem ring_ok : PC Try.prog 37 [] (.p (.agg (regRow ringR))) := by
  refine pc_of_awp cx (fn := Try.f37) (c := _) Try.func37 rfl rfl (Nat.le_of_ble_eq_true rfl) ?_
  rw [Try.ntmps37]; refine Nav.imp ?_
  refine awp_region cx [] fun K hK => ?_
  simp [push_cast]
  repeat (refine And.intro (by clear hK; intros; first | omega | (simp_all; done) | (simp_all <;> omega)) ?_)
  refine hK _ ?_; clear hK K; refine Nav.imp ?_
  refine awp_region cx [(1, .f (encRuns [⟨0, 3⟩])), (5, .f (encRuns [⟨0, 1⟩, ⟨2, 3⟩])), (8, .f (encRuns [⟨0, 3⟩])), (10, .f (encRows ringR))] fun K hK => ?_
  simp [push_cast, ringR, Row.row, Run.row]
  repeat (refine And.intro (by clear hK; intros; first | omega | (simp_all; done) | (simp_all <;> omega)) ?_)
  refine hK _ ?_; clear hK K; refine Nav.imp ?_
  simp [push_cast, ringR]
set_option maxHeartbeats 4000000 in
theorem awake21_ok : PC Try.prog 13 [] (.p (.bool true)) := by
  have c0 := ring_ok
  have hs : smallR ringR := small_valid (by kernel_rfl)
  have hb : boxSm ringR := fun _ => by
    have e1 : highX ringR = 2 := by kernel_rfl
    have e2 : lowX ringR = 0 := by kernel_rfl
    have e3 : lstY ringR = 2 := by kernel_rfl
    have e4 : fstY ringR = 0 := by kernel_rfl
    omega
  have c1 := holes_ok ringR hs hb
  rw [ring_holes] at c1
  have c2 := components_ok ringR hs (by have := compact_cells hb; omega)
  rw [ring_comp] at c2
  have c3 := fill_ok ringR hs hb
  rw [ring_fill] at c3
  have c4 := depth_ok ringF ⟨1, 1⟩ (small_valid (by kernel_rfl))
  rw [ring_depth] at c4
  refine pc_of_awp cx (fn := Try.f13) (c := _) Try.func13 rfl rfl (Nat.le_of_ble_eq_true rfl) ?_
  rw [Try.ntmps13]; refine Nav.imp ?_
  refine awp_region cx [] fun K hK => ?_
  simp [push_cast]
  repeat (refine And.intro (by clear hK; intros; first | omega | (simp_all; done) | (simp_all <;> omega)) ?_)
  refine hK _ ?_; clear hK K; refine Nav.imp ?_
  refine awp_region cx [(0, .p (.agg (regRow ringR))), (1, .p (encRgs [ringH])), (2, .p (.agg (regRow ringR))), (3, .p (encRgs [ringR]))] fun K hK => ?_
  simp [push_cast, c0, c1, c2]
  repeat (refine And.intro (by clear hK; intros; first | omega | (simp_all; done) | (simp_all <;> omega)) ?_)
  refine hK _ ?_; clear hK K; refine Nav.imp ?_
  refine awp_region cx [(51, .p (.agg (regRow ringR))), (52, .p (.agg (regRow ringF))), (54, .p (.int .i64 2))] fun K hK => ?_
  simp [push_cast, c0, c3, c4, ringH, Row.row, Run.row, Cell.row]
  repeat (refine And.intro (by clear hK; intros; first | omega | (simp_all; done) | (simp_all <;> omega)) ?_)
  refine hK _ ?_; clear hK K; refine Nav.imp ?_
  simp [push_cast]

theorem comps_ok (R : List Row) : PC Try.prog 3 [.agg (regRow R)] (.p (.bool true)) := by
  have c0 := awake21_ok
  have c1 := compact_ok R
  cases hc : compactB R with
  | false =>
    rw [hc] at c1
    refine pc_of_awp cx (fn := Try.f3) (c := _) Try.func3 rfl rfl (Nat.le_of_ble_eq_true rfl) ?_
    rw [Try.ntmps3]; refine Nav.imp ?_
    refine awp_region cx [] fun K hK => ?_
    simp [push_cast]
    repeat (refine And.intro (by clear hK; intros; first | omega | (simp_all; done) | (simp_all <;> omega)) ?_)
    refine hK _ ?_; clear hK K; refine Nav.imp ?_
    refine awp_region_draw cx mixed [(1, .p (.bool false)), (5, .skip), (7, .skip), (8, .skip), (11, .p (.bool true))] fun K hK => ?_
    simp [push_cast, c0, c1]
    repeat (refine And.intro (by clear hK; intros; first | omega | (simp_all; done) | (simp_all <;> omega)) ?_)
    refine hK _ _ (by kernel_rfl) ?_; clear hK K; refine Nav.imp ?_
    simp [push_cast]
  | true =>
    rw [hc] at c1
    obtain ⟨hs, hb, _, _⟩ := compact_facts hc
    have hn := compact_cells hb
    have c2 := components_ok R hs (by omega)
    have c3 := rcomponents_ok R hs (by omega)
    have c4 := same21_ok (compR R) (fun r hr => small_valid (comp_valid r hr)) (by
      have := (grps_len (cellsOf R) (adjR false)).1
      simp only [compR, List.length_map]; omega)
    generalize compR R = L at *
    refine pc_of_awp cx (fn := Try.f3) (c := _) Try.func3 rfl rfl (Nat.le_of_ble_eq_true rfl) ?_
    rw [Try.ntmps3]; refine Nav.imp ?_
    refine awp_region cx [] fun K hK => ?_
    simp [push_cast]
    repeat (refine And.intro (by clear hK; intros; first | omega | (simp_all; done) | (simp_all <;> omega)) ?_)
    refine hK _ ?_; clear hK K; refine Nav.imp ?_
    refine awp_region_draw cx mixed [(1, .p (.bool true)), (5, .p (encRgs L)), (7, .p (encRgs L)), (8, .p (.bool true)), (11, .p (.bool true))] fun K hK => ?_
    simp [push_cast, c0, c1, c2, c3, c4]
    repeat (refine And.intro (by clear hK; intros; first | omega | (simp_all; done) | (simp_all <;> omega)) ?_)
    refine hK _ _ (by kernel_rfl) ?_; clear hK K; refine Nav.imp ?_
    simp [push_cast]
theorem lholes_ok (R : List Row) : PC Try.prog 4 [.agg (regRow R)] (.p (.bool true)) := by
  have c0 := awake21_ok
  have c1 := compact_ok R
  cases hc : compactB R with
  | false =>
    rw [hc] at c1
    refine pc_of_awp cx (fn := Try.f4) (c := _) Try.func4 rfl rfl (Nat.le_of_ble_eq_true rfl) ?_
    rw [Try.ntmps4]; refine Nav.imp ?_
    refine awp_region cx [] fun K hK => ?_
    simp [push_cast]
    repeat (refine And.intro (by clear hK; intros; first | omega | (simp_all; done) | (simp_all <;> omega)) ?_)
    refine hK _ ?_; clear hK K; refine Nav.imp ?_
    refine awp_region_draw cx mixed [(1, .p (.bool false)), (5, .skip), (7, .skip), (8, .skip), (11, .skip), (13, .skip), (14, .skip), (18, .p (.bool true))] fun K hK => ?_
    simp [push_cast, c0, c1]
    repeat (refine And.intro (by clear hK; intros; first | omega | (simp_all; done) | (simp_all <;> omega)) ?_)
    refine hK _ _ (by kernel_rfl) ?_; clear hK K; refine Nav.imp ?_
    simp [push_cast]
  | true =>
    rw [hc] at c1
    obtain ⟨hs, hb, _, _⟩ := compact_facts hc
    have c2 := holes_ok R hs hb
    have c3 := rholes_ok R hs hb
    have c4 := same21_ok (holesR R) (fun r hr => small_valid (holes_valid r hr)) (by have := holes_len R hb; omega)
    have c5 := fill_ok R hs hb
    have c6 := rfill_ok R hs hb
    have hfv : validR (fillR R) = true := by
      unfold fillR
      split
      · have key : ∀ (H : List (List Row)) (F : List Row), validR F = true → validR (H.foldl (opR fU) F) = true := by
          intro H
          induction H with
          | nil => intro F h; exact h
          | cons a H ih => intro F h; exact ih _ (opR_val (f := fU) rfl _ _)
        exact key _ _ (opR_val (f := fU) rfl _ _)
      · rfl
    have c7 := rsame_ok (fillR R) (fillR R) (small_valid hfv)
    rw [decide_eq_true rfl] at c7
    generalize holesR R = L at *
    generalize fillR R = F at *
    refine pc_of_awp cx (fn := Try.f4) (c := _) Try.func4 rfl rfl (Nat.le_of_ble_eq_true rfl) ?_
    rw [Try.ntmps4]; refine Nav.imp ?_
    refine awp_region cx [] fun K hK => ?_
    simp [push_cast]
    repeat (refine And.intro (by clear hK; intros; first | omega | (simp_all; done) | (simp_all <;> omega)) ?_)
    refine hK _ ?_; clear hK K; refine Nav.imp ?_
    refine awp_region_draw cx mixed [(1, .p (.bool true)), (5, .p (encRgs L)), (7, .p (encRgs L)), (8, .p (.bool true)), (11, .p (.agg (regRow F))), (13, .p (.agg (regRow F))), (14, .p (.bool true)), (18, .p (.bool true))] fun K hK => ?_
    simp [push_cast, c0, c1, c2, c3, c4, c5, c6, c7]
    repeat (refine And.intro (by clear hK; intros; first | omega | (simp_all; done) | (simp_all <;> omega)) ?_)
    refine hK _ _ (by kernel_rfl) ?_; clear hK K; refine Nav.imp ?_
    simp [push_cast]
theorem ldepths_ok (R : List Row) (c : Cell) : PC Try.prog 5 [.agg (regRow R), .agg c.row] (.p (.bool true)) := by
  have c0 := awake21_ok
  have c1 := compact_ok R
  cases hc : compactB R with
  | false =>
    rw [hc] at c1
    refine pc_of_awp cx (fn := Try.f5) (c := _) Try.func5 rfl rfl (Nat.le_of_ble_eq_true rfl) ?_
    rw [Try.ntmps5]; refine Nav.imp ?_
    refine awp_region cx [] fun K hK => ?_
    simp [push_cast]
    repeat (refine And.intro (by clear hK; intros; first | omega | (simp_all; done) | (simp_all <;> omega)) ?_)
    refine hK _ ?_; clear hK K; refine Nav.imp ?_
    refine awp_region_draw cx mixed [(1, .p (.bool false)), (6, .skip), (9, .skip), (13, .p (.bool true))] fun K hK => ?_
    simp [push_cast, c0, c1]
    repeat (refine And.intro (by clear hK; intros; first | omega | (simp_all; done) | (simp_all <;> omega)) ?_)
    refine hK _ _ (by kernel_rfl) ?_; clear hK K; refine Nav.imp ?_
    simp [push_cast]
  | true =>
    rw [hc] at c1
    obtain ⟨hs, hb, _, _⟩ := compact_facts hc
    have c2 := depth_ok R c hs
    have c3 := rdepth_ok R c hs
    generalize depN R c = n at *
    refine pc_of_awp cx (fn := Try.f5) (c := _) Try.func5 rfl rfl (Nat.le_of_ble_eq_true rfl) ?_
    rw [Try.ntmps5]; refine Nav.imp ?_
    refine awp_region cx [] fun K hK => ?_
    simp [push_cast]
    repeat (refine And.intro (by clear hK; intros; first | omega | (simp_all; done) | (simp_all <;> omega)) ?_)
    refine hK _ ?_; clear hK K; refine Nav.imp ?_
    refine awp_region_draw cx mixed [(1, .p (.bool true)), (6, .p (.int .i64 n)), (9, .p (.int .i64 n)), (13, .p (.bool true))] fun K hK => ?_
    simp [push_cast, c0, c1, c2, c3, Cell.row]
    repeat (refine And.intro (by clear hK; intros; first | omega | (simp_all; done) | (simp_all <;> omega)) ?_)
    refine hK _ _ (by kernel_rfl) ?_; clear hK K; refine Nav.imp ?_
    simp [push_cast]

set_option maxRecDepth 100000 in
theorem partsComponents_lifted (os : Os) (started : os.Started) (H : Type) (enc : TypeId × Value → H) :
    ReturnsInHanded {} Try.checked os 3 .any (Rows.partsComponentsSpec.pre6 enc Try.prog Try.f3 Rows.partsComponentsRow.domain false) (Rows.partsComponentsSpec.post enc Try.prog Try.f3 false true false false) := by
  refine returnsInHanded_of_change (C := Try.checked) own started (by kernel_rfl) Try.func3
    (ChangeSpec.witness6 (enc := enc) (C := Try.checked) false ⟨#[], #[zeroReg], []⟩ 8 (by kernel_rfl) (by kernel_rfl) (by kernel_rfl) (by kernel_rfl)) ?_
  intro W base args ds gs before hval hW _ _
  exact law_contract rfl (fun ds h => by match ds, h with | [a0], _ => rfl) laidOut (by simp only [Try.params3]; intro t ht; simp at ht; rcases ht with rfl <;> exact ⟨by kernel_rfl, of_decide_eq_true (by kernel_rfl)⟩) (by kernel_rfl) rfl Try.underlying4
    (fun xs hx => by
      simp only [Try.params3, hasVs] at hx
      obtain ⟨x0, r0, rfl, h0, rfl⟩ := hx
      obtain ⟨R, rfl⟩ := arg_region h0
      exact comps_ok R) W base args ds gs before hval hW

theorem partsComponents_holds : Rows.PartsComponentsSaid :=
  OpenClaim.holds_of_wide 3 Try.f3 rfl rfl rfl rfl rfl rfl rfl ⟨rfl, rfl, rfl, rfl, rfl⟩ rfl rfl rfl rfl rfl (by kernel_rfl) Try.func3 (by kernel_rfl)
    (of_decide_eq_true (by kernel_rfl)) (by unfold Func.isWrapper; first | (rw [if_pos (by decide +kernel)]; kernel_rfl) | (rw [if_neg (by decide +kernel)]; exact ⟨rfl, rfl⟩))
    (fun os started H enc _ => partsComponents_lifted os started H enc)

set_option maxRecDepth 100000 in
theorem partsHoles_lifted (os : Os) (started : os.Started) (H : Type) (enc : TypeId × Value → H) :
    ReturnsInHanded {} Try.checked os 4 .any (Rows.partsHolesSpec.pre6 enc Try.prog Try.f4 Rows.partsHolesRow.domain false) (Rows.partsHolesSpec.post enc Try.prog Try.f4 false true false false) := by
  refine returnsInHanded_of_change (C := Try.checked) own started (by kernel_rfl) Try.func4
    (ChangeSpec.witness6 (enc := enc) (C := Try.checked) false ⟨#[], #[zeroReg], []⟩ 8 (by kernel_rfl) (by kernel_rfl) (by kernel_rfl) (by kernel_rfl)) ?_
  intro W base args ds gs before hval hW _ _
  exact law_contract rfl (fun ds h => by match ds, h with | [a0], _ => rfl) laidOut (by simp only [Try.params4]; intro t ht; simp at ht; rcases ht with rfl <;> exact ⟨by kernel_rfl, of_decide_eq_true (by kernel_rfl)⟩) (by kernel_rfl) rfl Try.underlying4
    (fun xs hx => by
      simp only [Try.params4, hasVs] at hx
      obtain ⟨x0, r0, rfl, h0, rfl⟩ := hx
      obtain ⟨R, rfl⟩ := arg_region h0
      exact lholes_ok R) W base args ds gs before hval hW

theorem partsHoles_holds : Rows.PartsHolesSaid :=
  OpenClaim.holds_of_wide 4 Try.f4 rfl rfl rfl rfl rfl rfl rfl ⟨rfl, rfl, rfl, rfl, rfl⟩ rfl rfl rfl rfl rfl (by kernel_rfl) Try.func4 (by kernel_rfl)
    (of_decide_eq_true (by kernel_rfl)) (by unfold Func.isWrapper; first | (rw [if_pos (by decide +kernel)]; kernel_rfl) | (rw [if_neg (by decide +kernel)]; exact ⟨rfl, rfl⟩))
    (fun os started H enc _ => partsHoles_lifted os started H enc)

set_option maxRecDepth 100000 in
theorem partsDepths_lifted (os : Os) (started : os.Started) (H : Type) (enc : TypeId × Value → H) :
    ReturnsInHanded {} Try.checked os 5 .any (Rows.partsDepthsSpec.pre6 enc Try.prog Try.f5 Rows.partsDepthsRow.domain false) (Rows.partsDepthsSpec.post enc Try.prog Try.f5 false true false false) := by
  refine returnsInHanded_of_change (C := Try.checked) own started (by kernel_rfl) Try.func5
    (ChangeSpec.witness6 (enc := enc) (C := Try.checked) false ⟨#[], #[zeroReg, zeroCell], []⟩ 8 (by kernel_rfl) (by kernel_rfl) (by kernel_rfl) (by kernel_rfl)) ?_
  intro W base args ds gs before hval hW _ _
  exact law_contract rfl (fun ds h => by match ds, h with | [a0, a1], _ => rfl) laidOut (by simp only [Try.params5]; intro t ht; simp at ht; rcases ht with rfl | rfl <;> exact ⟨by kernel_rfl, of_decide_eq_true (by kernel_rfl)⟩) (by kernel_rfl) rfl Try.underlying4
    (fun xs hx => by
      simp only [Try.params5, hasVs] at hx
      obtain ⟨x0, r0, rfl, h0, x1, r1, rfl, h1, rfl⟩ := hx
      obtain ⟨R, rfl⟩ := arg_region h0
      obtain ⟨c, rfl⟩ := arg_cell h1
      exact ldepths_ok R c) W base args ds gs before hval hW

theorem partsDepths_holds : Rows.PartsDepthsSaid :=
  OpenClaim.holds_of_wide 5 Try.f5 rfl rfl rfl rfl rfl rfl rfl ⟨rfl, rfl, rfl, rfl, rfl⟩ rfl rfl rfl rfl rfl (by kernel_rfl) Try.func5 (by kernel_rfl)
    (of_decide_eq_true (by kernel_rfl)) (by unfold Func.isWrapper; first | (rw [if_pos (by decide +kernel)]; kernel_rfl) | (rw [if_neg (by decide +kernel)]; exact ⟨rfl, rfl⟩))
    (fun os started H enc _ => partsDepths_lifted os started H enc)

end Go.Proofs.Ytagakfaiimaifaa
