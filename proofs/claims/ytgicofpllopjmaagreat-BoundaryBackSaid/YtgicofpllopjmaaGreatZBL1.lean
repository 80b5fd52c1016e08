/-
  Texts of this seat put together: BL1.
-/
import Derived.Test.YtgicofpllopjmaaGreatJ4
import Derived.Test.YtgicofpllopjmaaGreatJ12
set_option linter.unusedVariables false
set_option linter.unusedSimpArgs false
set_option maxRecDepth 100000
namespace Go.Proofs.YtgicofpllopjmaaGreat
open Go.Abs Go.ChangeShapes Go.WideShapes Go.ChangeAt Go.RowKit

theorem polyRow_map (Ls : List (List Crk)) : (Ls.map polyOf).map polyRow = Ls.map fun L => [encCells (polyOf L)] := by rw [List.map_map]; rfl
theorem few_facts (R : List Row) : ∃ Ls, (validR (fewR R) = true → Lps (Sof (fewR R)) Ls ∧ (collectL (fewR R)).length ≤ 3840 ∧ (regCells (fewR R)).length ≤ 960) ∧ (validR (fewR R) = false → Ls = []) := by
  cases hv : validR (fewR R) with
  | false => exact ⟨[], (by simp), fun _ => rfl⟩
  | true =>
    obtain ⟨Ls, h⟩ := lps_ex (collect_cracks hv)
    have h1 := few_cells22 hv
    have h2 := collect_len hv
    exact ⟨Ls, fun _ => ⟨h, by omega, h1⟩, (by simp)⟩
set_option maxHeartbeats 4000000 in
theorem traces_ok (R : List Row) : PC Tryz.prog 3 [.agg (regRow R)] (.p (.bool true)) := by
  obtain ⟨Ls, hLs, hL0⟩ := few_facts R
  have hsm := few_small R
  have c0 := few22_ok R
  have c1 := trace_ok (fewR R) hsm (fun h => by have := hLs h; omega) Ls fun h => (hLs h).1
  have c2 := rtrace_ok (fewR R) hsm (fun h => by have := hLs h; omega) Ls fun h => (hLs h).1
  have c3 := blength_ok (fewR R) hsm fun h => by have := hLs h; omega
  have c4 := rlength_ok (fewR R) hsm fun h => by have := hLs h; omega
  have c5 := awake_ok
  obtain ⟨qs, hqs, hq1, hq2⟩ : ∃ qs : List (List Cell), qs = (if validR (fewR R) then Ls.map polyOf else []) ∧ qs.length ≤ 10000000 ∧ ∀ p ∈ qs, p.length ≤ 10000000 := by
    refine ⟨_, rfl, ?_⟩
    split
    · rename_i hv
      obtain ⟨h1, h2, _⟩ := hLs hv
      obtain ⟨s1, s2⟩ := trace_sizes hv h1
      exact ⟨by rw [List.length_map]; omega, fun p hp => by have := mem_sum_le hp; omega⟩
    · simp
  have c6 := samePolys_ok qs hq1 hq2
  have e : (if validR (fewR R) = true then Ls.map fun L => [encCells (polyOf L)] else []) = qs.map polyRow := by
    rw [hqs]
    split
    · exact (polyRow_map Ls).symm
    · rfl
  rw [e] at c1
  rw [← hqs] at c2
  change PC _ _ _ (.p (.sl (qs.map polyRow))) at c2
  change PC _ _ [.sl (qs.map polyRow), .sl (qs.map polyRow)] _ at c6
  generalize qs.map polyRow = ps at *
  generalize (if validR (fewR R) = true then (collectL (fewR R)).length else 0) = n at *
  generalize fewR R = S at *
  refine pc_of_awp cx (fn := Tryz.f3) (c := _) Tryz.func3 rfl rfl (Nat.le_of_ble_eq_true rfl) ?_
  rw [Tryz.ntmps3]; refine Nav.imp ?_
  refine awp_region cx [] fun K hK => ?_
  simp [push_cast]
  repeat (refine And.intro (by clear hK; intros; first | omega | (simp_all; done) | (simp_all <;> omega)) ?_)
  refine hK _ ?_; clear hK K; refine Nav.imp ?_
  refine awp_region cx [(1, .p (.agg (regRow S)))] fun K hK => ?_
  simp [push_cast, c0]
  repeat (refine And.intro (by clear hK; intros; first | omega | (simp_all; done) | (simp_all <;> omega)) ?_)
  refine hK _ ?_; clear hK K; refine Nav.imp ?_
  refine awp_region_draw cx mixed [(1, .p (.sl ps)), (3, .p (.sl ps)), (4, .p (.bool true)), (7, .p (.int .i64 n)), (9, .p (.int .i64 n)), (13, .p (.bool true))] fun K hK => ?_
  simp [push_cast, c1, c2, c3, c4, c5, c6]
  repeat (refine And.intro (by clear hK; intros; first | omega | (simp_all; done) | (simp_all <;> omega)) ?_)
  refine hK _ _ (by kernel_rfl) ?_; clear hK K; refine Nav.imp ?_
  simp [push_cast]
set_option maxHeartbeats 4000000 in
theorem boundback_ok (R : List Row) : PC Tryz.prog 5 [.agg (regRow R)] (.p (.bool true)) := by
  obtain ⟨Ls, hLs, hL0⟩ := few_facts R
  have hsm := few_small R
  have c0 := few22_ok R
  have c1 := trace_ok (fewR R) hsm (fun h => by have := hLs h; omega) Ls fun h => (hLs h).1
  have c2 := fun h => back_trace (R := fewR R) h (by have := hLs h; omega) (hLs h).1
  have c3 := rsame_ok (fewR R) (fewR R) hsm
  have c4 := validR_ok (fewR R) hsm
  have c5 := awake_ok
  simp only [decide_true] at c3
  generalize fewR R = S at *
  generalize hv : validR S = v at *
  cases v with
  | false =>
    simp only [Bool.false_eq_true, if_false] at c1
    refine pc_of_awp cx (fn := Tryz.f5) (c := _) Tryz.func5 rfl rfl (Nat.le_of_ble_eq_true rfl) ?_
    rw [Tryz.ntmps5]; refine Nav.imp ?_
    refine awp_region cx [] fun K hK => ?_
    simp [push_cast]
    repeat (refine And.intro (by clear hK; intros; first | omega | (simp_all; done) | (simp_all <;> omega)) ?_)
    refine hK _ ?_; clear hK K; refine Nav.imp ?_
    refine awp_region cx [(1, .p (.agg (regRow S)))] fun K hK => ?_
    simp [push_cast, c0]
    repeat (refine And.intro (by clear hK; intros; first | omega | (simp_all; done) | (simp_all <;> omega)) ?_)
    refine hK _ ?_; clear hK K; refine Nav.imp ?_
    refine awp_region cx [(1, .p (.bool false))] fun K hK => ?_
    simp [push_cast, c4]
    repeat (refine And.intro (by clear hK; intros; first | omega | (simp_all; done) | (simp_all <;> omega)) ?_)
    refine hK _ ?_; clear hK K; refine Nav.imp ?_
    refine awp_cond (b := true) (by simp [push_cast]) (fun hb => ?_) (fun hb => ?_) <;> (refine Nav.imp ?_)
    · refine awp_region cx [(1, .p (.sl [])), (5, .p (.bool true))] fun K hK => ?_
      simp [push_cast, c1, c5]
      repeat (refine And.intro (by clear hK; intros; first | omega | (simp_all; done) | (simp_all <;> omega)) ?_)
      refine hK _ ?_; clear hK K; refine Nav.imp ?_
      simp [push_cast]
    · simp at hb
  | true =>
    rw [if_pos rfl, ← polyRow_map] at c1
    have c2 := c2 rfl
    change PC _ _ [.sl ((Ls.map polyOf).map polyRow)] _ at c2
    generalize (Ls.map polyOf).map polyRow = ps at *
    refine pc_of_awp cx (fn := Tryz.f5) (c := _) Tryz.func5 rfl rfl (Nat.le_of_ble_eq_true rfl) ?_
    rw [Tryz.ntmps5]; refine Nav.imp ?_
    refine awp_region cx [] fun K hK => ?_
    simp [push_cast]
    repeat (refine And.intro (by clear hK; intros; first | omega | (simp_all; done) | (simp_all <;> omega)) ?_)
    refine hK _ ?_; clear hK K; refine Nav.imp ?_
    refine awp_region cx [(1, .p (.agg (regRow S)))] fun K hK => ?_
    simp [push_cast, c0]
    repeat (refine And.intro (by clear hK; intros; first | omega | (simp_all; done) | (simp_all <;> omega)) ?_)
    refine hK _ ?_; clear hK K; refine Nav.imp ?_
    refine awp_region cx [(1, .p (.bool true))] fun K hK => ?_
    simp [push_cast, c4]
    repeat (refine And.intro (by clear hK; intros; first | omega | (simp_all; done) | (simp_all <;> omega)) ?_)
    refine hK _ ?_; clear hK K; refine Nav.imp ?_
    refine awp_cond (b := false) (by simp [push_cast]) (fun hb => ?_) (fun hb => ?_) <;> (refine Nav.imp ?_)
    · simp at hb
    · refine awp_region cx [(1, .p (.sl ps)), (2, .p (.tup [.agg (regRow S), .int .i64 0]))] fun K hK => ?_
      simp [push_cast, c1, c2]
      repeat (refine And.intro (by clear hK; intros; first | omega | (simp_all; done) | (simp_all <;> omega)) ?_)
      refine hK _ ?_; clear hK K; refine Nav.imp ?_
      refine awp_region cx [(5, .p (.bool true)), (8, .p (.bool true))] fun K hK => ?_
      simp [push_cast, c3, c5]
      repeat (refine And.intro (by clear hK; intros; first | omega | (simp_all; done) | (simp_all <;> omega)) ?_)
      refine hK _ ?_; clear hK K; refine Nav.imp ?_
      simp [push_cast]
set_option maxRecDepth 100000 in
theorem boundaryTraces_lifted (os : Os) (started : os.Started) (H : Type) (enc : TypeId × Value → H) :
    ReturnsInHanded {} Tryz.checked os 3 .any (Rows.boundaryTracesSpec.pre6 enc Tryz.prog Tryz.f3 Rows.boundaryTracesRow.domain false) (Rows.boundaryTracesSpec.post enc Tryz.prog Tryz.f3 false true false false) := by
  refine returnsInHanded_of_change (C := Tryz.checked) own started (by kernel_rfl) Tryz.func3
    (ChangeSpec.witness6 (enc := enc) (C := Tryz.checked) false ⟨#[], #[zeroReg], []⟩ 8 (by kernel_rfl) (by kernel_rfl) (by kernel_rfl) (by kernel_rfl)) ?_
  intro W base args ds gs before hval hW _ _
  exact law_contract rfl (fun ds h => by match ds, h with | [a0], _ => rfl) laidOut (by simp only [Tryz.params3]; intro t ht; simp at ht; rcases ht with rfl <;> exact ⟨by kernel_rfl, of_decide_eq_true (by kernel_rfl)⟩) (by kernel_rfl) rfl Tryz.underlying4
    (fun xs hx => by
      simp only [Tryz.params3, hasVs] at hx
      obtain ⟨x0, r0, rfl, h0, rfl⟩ := hx
      obtain ⟨R, rfl⟩ := arg_region h0
      exact traces_ok R) W base args ds gs before hval hW

theorem boundaryTraces_holds : Rows.BoundaryTracesSaid :=
  OpenClaim.holds_of_wide 3 Tryz.f3 rfl rfl rfl rfl rfl rfl rfl ⟨rfl, rfl, rfl, rfl, rfl⟩ rfl rfl rfl rfl rfl (by kernel_rfl) Tryz.func3 (by kernel_rfl)
    (of_decide_eq_true (by kernel_rfl)) (by unfold Func.isWrapper; first | (rw [if_pos (by decide +kernel)]; kernel_rfl) | (rw [if_neg (by decide +kernel)]; exact ⟨rfl, rfl⟩))
    (fun os started H enc _ => boundaryTraces_lifted os started H enc)

set_option maxRecDepth 100000 in
theorem boundaryBack_lifted (os : Os) (started : os.Started) (H : Type) (enc : TypeId × Value → H) :
    ReturnsInHanded {} Tryz.checked os 5 .any (Rows.boundaryBackSpec.pre6 enc Tryz.prog Tryz.f5 Rows.boundaryBackRow.domain false) (Rows.boundaryBackSpec.post enc Tryz.prog Tryz.f5 false true false false) := by
  refine returnsInHanded_of_change (C := Tryz.checked) own started (by kernel_rfl) Tryz.func5
    (ChangeSpec.witness6 (enc := enc) (C := Tryz.checked) false ⟨#[], #[zeroReg], []⟩ 8 (by kernel_rfl) (by kernel_rfl) (by kernel_rfl) (by kernel_rfl)) ?_
  intro W base args ds gs before hval hW _ _
  exact law_contract rfl (fun ds h => by match ds, h with | [a0], _ => rfl) laidOut (by simp only [Tryz.params5]; intro t ht; simp at ht; rcases ht with rfl <;> exact ⟨by kernel_rfl, of_decide_eq_true (by kernel_rfl)⟩) (by kernel_rfl) rfl Tryz.underlying4
    (fun xs hx => by
      simp only [Tryz.params5, hasVs] at hx
      obtain ⟨x0, r0, rfl, h0, rfl⟩ := hx
      obtain ⟨R, rfl⟩ := arg_region h0
      exact boundback_ok R) W base args ds gs before hval hW

theorem boundaryBack_holds : Rows.BoundaryBackSaid :=
  OpenClaim.holds_of_wide 5 Tryz.f5 rfl rfl rfl rfl rfl rfl rfl ⟨rfl, rfl, rfl, rfl, rfl⟩ rfl rfl rfl rfl rfl (by kernel_rfl) Tryz.func5 (by kernel_rfl)
    (of_decide_eq_true (by kernel_rfl)) (by unfold Func.isWrapper; first | (rw [if_pos (by decide +kernel)]; kernel_rfl) | (rw [if_neg (by decide +kernel)]; exact ⟨rfl, rfl⟩))
    (fun os started H enc _ => boundaryBack_lifted os started H enc)

end Go.Proofs.YtgicofpllopjmaaGreat
