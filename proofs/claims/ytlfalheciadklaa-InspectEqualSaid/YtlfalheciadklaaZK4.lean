/-
  Texts of this seat put together: K4.
-/
import Derived.Test.YtlfalheciadklaaJ9
set_option linter.unusedVariables false
set_option linter.unusedSimpArgs false
set_option maxRecDepth 100000
namespace Go.Proofs.Ytlfalheciadklaa
open Go.Abs Go.ChangeShapes Go.WideShapes Go.ChangeAt Go.RowKit

theorem eqB_symm (a b : List (List Row)) : eqB b a = eqB a b := by
  unfold eqB
  by_cases h : a = b
  · rw [h]
  · have h' : ¬ b = a := fun e => h e.symm
    simp [h, h']
theorem eqB_self (a : List (List Row)) : eqB a a = a.all validR := by simp [eqB]
theorem all_take {α : Type} {p : α → Bool} {l : List α} {k : Nat} {x : α} (h : l[k]? = some x) : (l.take (k + 1)).all p = ((l.take k).all p && p x) := by rw [take_get h]; simp
set_option maxHeartbeats 2000000 in
theorem inspectequal_ok (L M : List (List Row)) (hL : bigS L) (hM : bigS M) (hn : L.length ≤ 9223372036854775807) (hm : M.length ≤ 9223372036854775807) : PC Try.prog 5 [encRegs L, encRegs M] (.p (.bool true)) := by
  have c0 := awake56_ok
  have c1 := few56_ok L hL hn
  have c2 := few56_ok M hM hm
  have hl := fewL_len L
  have hl2 := fewL_len M
  have hA : bigS (fewL L) := fun R hR => hL R (fewL_mem hR).1
  have hB : bigS (fewL M) := fun R hR => hM R (fewL_mem hR).1
  generalize fewL L = A at *
  generalize fewL M = B at *
  have d1 := iequal_ok A B hA hB (by omega)
  have d2 := requal_ok A B hA (by omega)
  have d3 := iequal_ok B A hB hA (by omega)
  have d4 := iequal_ok A A hA hA (by omega)
  rw [eqB_symm] at d3
  rw [eqB_self] at d4
  generalize eqB A B = e at *
  refine pc_of_awp cx (fn := Try.f5) (c := _) Try.func5 rfl rfl (Nat.le_of_ble_eq_true rfl) ?_
  rw [Try.ntmps5]; refine Nav.imp ?_
  refine awp_region cx [] fun K hK => ?_
  simp [push_cast]
  repeat (refine And.intro (by clear hK; intros; first | omega | (simp_all; done) | (simp_all <;> omega)) ?_)
  refine hK _ ?_; clear hK K; refine Nav.imp ?_
  refine awp_region cx [(1, .p (encRegs A)), (3, .p (encRegs B))] fun K hK => ?_
  simp [push_cast, c1, c2]
  repeat (refine And.intro (by clear hK; intros; first | omega | (simp_all; done) | (simp_all <;> omega)) ?_)
  refine hK _ ?_; clear hK K; refine Nav.imp ?_
  refine awp_region cx [] fun K hK => ?_
  simp [push_cast]
  repeat (refine And.intro (by clear hK; intros; first | omega | (simp_all; done) | (simp_all <;> omega)) ?_)
  refine hK _ ?_; clear hK K; refine Nav.imp ?_
  refine awp_region cx [] fun K hK => ?_
  simp [push_cast]
  repeat (refine And.intro (by clear hK; intros; first | omega | (simp_all; done) | (simp_all <;> omega)) ?_)
  refine hK _ ?_; clear hK K; refine Nav.imp ?_
  refine awp_loop (β := Nat) (fun k => ⟨50, [(0, .d (encRegs A)), (1, .d (encRegs B)), (5, .d (.bool ((A.take k).all validR))), (12, .d (encRegs A)), (13, .d (.int .i64 A.length)), (14, .d (.int .i64 k))], [], 0⟩) (fun k => k ≤ A.length) (fun k => A.length - k) 0 ?_ (Nat.zero_le _) ?_
  · refine weak_of [] rfl (by simp [upT, up, upL, push_cast]) (by simp [upH, upR, upL, up, push_cast]) (by simp [namesOk, push_cast]) (by simp [olds])
  · intro k hk
    replace hk : k ≤ A.length := hk
    refine Nav.imp ?_
    refine awp_region cx [] fun K hK => ?_
    simp [push_cast]
    repeat (refine And.intro (by clear hK; intros; first | omega | (simp_all; done) | (simp_all <;> omega)) ?_)
    refine hK _ ?_; clear hK K; refine Nav.imp ?_
    refine awp_cond (b := decide ((k : Int) < A.length)) (by simp [push_cast]) (fun hb => ?_) (fun hb => ?_) <;> (refine Nav.imp ?_)
    · have hlt : k < A.length := by simpa using hb
      obtain ⟨p, hp⟩ := getq hlt
      have e0 := wrap_i64 (n := (k : Int) + 1) (by omega) (by omega)
      have c3 := valid_big p (hA p (List.mem_of_getElem? hp))
      have hs := all_take (p := validR) hp
      generalize hv1 : (A.take (k + 1)).all validR = v' at *
      generalize (A.take k).all validR = v at *
      generalize validR p = vp at *
      refine awp_region cx [] fun K hK => ?_
      simp [push_cast, hp]
      repeat (refine And.intro (by clear hK; intros; first | omega | (simp_all; done) | (simp_all <;> omega)) ?_)
      refine hK _ ?_; clear hK K; refine Nav.imp ?_
      cases v with
      | false =>
        rw [Bool.false_and] at hs
        refine awp_region cx [(3, .skip)] fun K hK => ?_
        simp [push_cast]
        repeat (refine And.intro (by clear hK; intros; first | omega | (simp_all; done) | (simp_all <;> omega)) ?_)
        refine hK _ ?_; clear hK K; refine Nav.imp ?_
        refine awp_region cx [] fun K hK => ?_
        simp [push_cast, e0]
        repeat (refine And.intro (by clear hK; intros; first | omega | (simp_all; done) | (simp_all <;> omega)) ?_)
        refine hK _ ?_; clear hK K; refine Nav.imp ?_
        refine ⟨k + 1, by show k + 1 ≤ _; omega, by show _ - (k + 1) < _ - k; omega, ?_⟩
        subst hs
        refine weak_of [] rfl (by simp [upT, up, upL, push_cast, hv1]) (by simp [upH, upR, upL, up, push_cast, hv1]) (by simp [namesOk, push_cast]) (by simp [olds])
      | true =>
        rw [Bool.true_and] at hs
        refine awp_region cx [(3, .p (.bool vp))] fun K hK => ?_
        simp [push_cast, c3]
        repeat (refine And.intro (by clear hK; intros; first | omega | (simp_all; done) | (simp_all <;> omega)) ?_)
        refine hK _ ?_; clear hK K; refine Nav.imp ?_
        refine awp_region cx [] fun K hK => ?_
        simp [push_cast, e0]
        repeat (refine And.intro (by clear hK; intros; first | omega | (simp_all; done) | (simp_all <;> omega)) ?_)
        refine hK _ ?_; clear hK K; refine Nav.imp ?_
        refine ⟨k + 1, by show k + 1 ≤ _; omega, by show _ - (k + 1) < _ - k; omega, ?_⟩
        subst hs
        refine weak_of [] rfl (by simp [upT, up, upL, push_cast, hv1]) (by simp [upH, upR, upL, up, push_cast, hv1]) (by simp [namesOk, push_cast]) (by simp [olds])
    · have hge : k = A.length := by simp at hb; omega
      subst hge
      rw [List.take_length]
      generalize A.all validR = v at *
      refine awp_region cx [(2, .p (.bool e)), (5, .p (.bool e)), (10, .p (.bool e)), (13, .p (.bool e)), (19, .p (.bool v)), (24, .p (.bool true))] fun K hK => ?_
      simp [push_cast, c0, d1, d2, d3, d4]
      repeat (refine And.intro (by clear hK; intros; first | omega | (simp_all; done) | (simp_all <;> omega)) ?_)
      refine hK _ ?_; clear hK K; refine Nav.imp ?_
      simp [push_cast]

set_option maxRecDepth 100000 in
theorem inspectEqual_lifted (os : Os) (started : os.Started) (H : Type) (enc : TypeId × Value → H) :
    ReturnsInHanded {} Try.checked os 5 .any (Rows.inspectEqualSpec.pre6 enc Try.prog Try.f5 Rows.inspectEqualRow.domain false) (Rows.inspectEqualSpec.post enc Try.prog Try.f5 false true false false) := by
  refine returnsInHanded_of_change (C := Try.checked) own started (by kernel_rfl) Try.func5
    (ChangeSpec.witness6 (enc := enc) (C := Try.checked) false ⟨#[], #[.slice none 0 0, .slice none 0 0], []⟩ 8 (by kernel_rfl) (by kernel_rfl) (by kernel_rfl) (by kernel_rfl)) ?_
  intro W base args ds gs before hval hW _ _
  exact law_contract rfl (fun ds h => by match ds, h with | [a0, a1], _ => rfl) laidOut (by simp only [Try.params5]; intro t ht; simp at ht; rcases ht with rfl <;> exact ⟨by kernel_rfl, of_decide_eq_true (by kernel_rfl)⟩) (by kernel_rfl) rfl Try.underlying4
    (fun xs hx => by
      simp only [Try.params5, hasVs] at hx
      obtain ⟨x0, r0, rfl, h0, x1, r1, rfl, h1, rfl⟩ := hx
      obtain ⟨⟨L, hL, hn⟩, rfl⟩ := arg_regionsB h0
      obtain ⟨⟨M, hM, hm⟩, rfl⟩ := arg_regionsB h1
      exact inspectequal_ok L M hL hM hn hm) W base args ds gs before hval hW

theorem inspectEqual_holds : Rows.InspectEqualSaid :=
  OpenClaim.holds_of_wide 5 Try.f5 rfl rfl rfl rfl rfl rfl rfl ⟨rfl, rfl, rfl, rfl, rfl⟩ rfl rfl rfl rfl rfl (by kernel_rfl) Try.func5 (by kernel_rfl)
    (of_decide_eq_true (by kernel_rfl)) (by unfold Func.isWrapper; first | (rw [if_pos (by decide +kernel)]; kernel_rfl) | (rw [if_neg (by decide +kernel)]; exact ⟨rfl, rfl⟩))
    (fun os started H enc _ => inspectEqual_lifted os started H enc)

end Go.Proofs.Ytlfalheciadklaa
