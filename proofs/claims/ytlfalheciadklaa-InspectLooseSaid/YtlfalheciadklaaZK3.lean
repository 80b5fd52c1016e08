/-
  Texts of this seat put together: K3.
-/
import Derived.Test.YtlfalheciadklaaJ9
set_option linter.unusedVariables false
set_option linter.unusedSimpArgs false
set_option maxRecDepth 100000
namespace Go.Proofs.Ytlfalheciadklaa
open Go.Abs Go.ChangeShapes Go.WideShapes Go.ChangeAt Go.RowKit

theorem inspectloose_ok (L : List (List Row)) (k : Int) (hL : bigS L) (hn : L.length ≤ 9223372036854775807) : PC Try.prog 4 [encRegs L, .int .i64 k] (.p (.bool true)) := by
  have c0 := awake56_ok
  have c1 := few56_ok L hL hn
  have hl := fewL_len L
  have c2 := loose_ok (fewL L) k (fewL_big hL) (by omega)
  have c3 := rloose_ok (fewL L) k (fewL_big hL) (by omega)
  have c4 := same56_ok (looseL (fewL L) k) (looseL (fewL L) k) (fun R hR => by obtain ⟨i, hi⟩ := List.getElem?_of_mem hR; exact small_valid (looseL_small hi)) (by rw [looseL_len]; omega)
  rw [decide_eq_true rfl] at c4
  generalize looseL (fewL L) k = A at *
  generalize fewL L = B at *
  refine pc_of_awp cx (fn := Try.f4) (c := _) Try.func4 rfl rfl (Nat.le_of_ble_eq_true rfl) ?_
  rw [Try.ntmps4]; refine Nav.imp ?_
  refine awp_region cx [] fun K hK => ?_
  simp [push_cast]
  repeat (refine And.intro (by clear hK; intros; first | omega | (simp_all; done) | (simp_all <;> omega)) ?_)
  refine hK _ ?_; clear hK K; refine Nav.imp ?_
  refine awp_region cx [(1, .p (encRegs B))] fun K hK => ?_
  simp [push_cast, c1]
  repeat (refine And.intro (by clear hK; intros; first | omega | (simp_all; done) | (simp_all <;> omega)) ?_)
  refine hK _ ?_; clear hK K; refine Nav.imp ?_
  refine awp_region cx [(2, .p (encRegs A)), (5, .p (encRegs A)), (6, .p (.bool true)), (8, .p (.bool true))] fun K hK => ?_
  simp [push_cast, c0, c2, c3, c4]
  repeat (refine And.intro (by clear hK; intros; first | omega | (simp_all; done) | (simp_all <;> omega)) ?_)
  refine hK _ ?_; clear hK K; refine Nav.imp ?_
  simp [push_cast]

set_option maxRecDepth 100000 in
theorem inspectLoose_lifted (os : Os) (started : os.Started) (H : Type) (enc : TypeId × Value → H) :
    ReturnsInHanded {} Try.checked os 4 .any (Rows.inspectLooseSpec.pre6 enc Try.prog Try.f4 Rows.inspectLooseRow.domain false) (Rows.inspectLooseSpec.post enc Try.prog Try.f4 false true false false) := by
  refine returnsInHanded_of_change (C := Try.checked) own started (by kernel_rfl) Try.func4
    (ChangeSpec.witness6 (enc := enc) (C := Try.checked) false ⟨#[], #[.slice none 0 0, .int .i64 0], []⟩ 8 (by kernel_rfl) (by kernel_rfl) (by kernel_rfl) (by kernel_rfl)) ?_
  intro W base args ds gs before hval hW _ _
  exact law_contract rfl (fun ds h => by match ds, h with | [a0, a1], _ => rfl) laidOut (by simp only [Try.params4]; intro t ht; simp at ht; rcases ht with rfl | rfl <;> exact ⟨by kernel_rfl, of_decide_eq_true (by kernel_rfl)⟩) (by kernel_rfl) rfl Try.underlying4
    (fun xs hx => by
      simp only [Try.params4, hasVs] at hx
      obtain ⟨x0, r0, rfl, h0, x1, r1, rfl, h1, rfl⟩ := hx
      obtain ⟨⟨L, hL, hn⟩, rfl⟩ := arg_regionsB h0
      obtain ⟨k, rfl⟩ := arg_int h1
      exact inspectloose_ok L k hL hn) W base args ds gs before hval hW

theorem inspectLoose_holds : Rows.InspectLooseSaid :=
  OpenClaim.holds_of_wide 4 Try.f4 rfl rfl rfl rfl rfl rfl rfl ⟨rfl, rfl, rfl, rfl, rfl⟩ rfl rfl rfl rfl rfl (by kernel_rfl) Try.func4 (by kernel_rfl)
    (of_decide_eq_true (by kernel_rfl)) (by unfold Func.isWrapper; first | (rw [if_pos (by decide +kernel)]; kernel_rfl) | (rw [if_neg (by decide +kernel)]; exact ⟨rfl, rfl⟩))
    (fun os started H enc _ => inspectLoose_lifted os started H enc)

end Go.Proofs.Ytlfalheciadklaa
