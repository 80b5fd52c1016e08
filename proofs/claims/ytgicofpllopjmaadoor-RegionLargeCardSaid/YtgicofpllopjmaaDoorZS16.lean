/-
  Texts of this seat put together: S16.
-/
import Derived.Test.YtgicofpllopjmaaDoorJ9
set_option linter.unusedVariables false
set_option linter.unusedSimpArgs false
set_option maxRecDepth 100000
namespace Go.Proofs.YtgicofpllopjmaaDoor
open Go.Abs Go.ChangeShapes Go.WideShapes Go.ChangeAt Go.RowKit

theorem arg_u8 {x : D} (h : hasV Tryd.prog 5 x) : ∃ n : {n : Int // 0 ≤ n ∧ n < 256}, x = .int .u8 n.1 := by
  obtain ⟨n, rfl, w⟩ := hasV_int Tryd.underlying5 h
  refine ⟨⟨n, ?_⟩, rfl⟩
  simp [Lit.wf] at w
  have h1 : IntKind.u8.min = 0 := by decide
  have h2 : IntKind.u8.max = 255 := by decide
  omega
theorem arg_u16 {x : D} (h : hasV Tryd.prog 35 x) : ∃ n : {n : Int // 0 ≤ n ∧ n < 65536}, x = .int .u16 n.1 := by
  obtain ⟨n, rfl, w⟩ := hasV_int Tryd.underlying35 h
  refine ⟨⟨n, ?_⟩, rfl⟩
  simp [Lit.wf] at w
  have h1 : IntKind.u16.min = 0 := by decide
  have h2 : IntKind.u16.max = 65535 := by decide
  omega
set_option maxRecDepth 100000 in
theorem regionLarge_lifted (os : Os) (started : os.Started) (H : Type) (enc : TypeId × Value → H) :
    ReturnsInHanded {} Tryd.checked os 5 .any (fun w args => (Rows.regionLargeSpec.pre enc Tryd.prog Tryd.f5 Rows.regionLargeRow.domain false w args ∧ laidMetH Tryd.prog Rows.regionLargeRow.laid w) ∧ sizedMet enc Tryd.prog Tryd.f5 (OpenSpec.ofChange Rows.regionLargeSpec) false w args) (Rows.regionLargeSpec.post enc Tryd.prog Tryd.f5 false true false false) := by
  refine returnsInHanded_of_change_and (C := Tryd.checked) (X := fun w _ => laidMetH Tryd.prog Rows.regionLargeRow.laid w) (fun _ _ _ hh h => h.of_heap hh) own started (by kernel_rfl) Tryd.func5
    (ChangeSpec.witness_shaped (enc := enc) (C := Tryd.checked) (os := os) (X := fun w _ => laidMetH Tryd.prog Rows.regionLargeRow.laid w) false (World.laidAll Tryd.prog os Rows.regionLargeRow.laid) #[.int .u16 0, .int .u8 0] 8 (World.laidAll_os _ _ _)
      (World.shaped_of_ZipB (by kernel_rfl) (by kernel_rfl)) (by kernel_rfl) (by kernel_rfl) (by kernel_rfl)
      (by rw [MakeChecks.laidMetH_plain _ _ _ (by kernel_rfl)]; exact laidMet_laidAll _ (by kernel_rfl) (by kernel_rfl))) ?_
  intro W base args ds gs before hval hW _ _ _ _
  exact law_contract rfl (fun ds h => by match ds, h with | [a0, a1], _ => rfl) laidOut (by simp only [Tryd.params5]; intro t ht; simp at ht; rcases ht with rfl | rfl <;> exact ⟨by kernel_rfl, of_decide_eq_true (by kernel_rfl)⟩) (by kernel_rfl) rfl Tryd.underlying4
    (fun xs hx => by
      simp only [Tryd.params5, hasVs] at hx
      obtain ⟨x0, r0, rfl, h0, x1, r1, rfl, h1, rfl⟩ := hx
      obtain ⟨⟨n, hn⟩, rfl⟩ := arg_u16 h0
      obtain ⟨⟨m, hm⟩, rfl⟩ := arg_u8 h1
      exact regionlarge_ok n m hn hm) W base args ds gs before hval hW

theorem regionLarge_holds : Rows.RegionLargeSaid :=
  OpenClaim.holds_of_wide 5 Tryd.f5 rfl rfl rfl rfl rfl rfl rfl ⟨rfl, rfl, rfl, rfl, rfl⟩ rfl rfl rfl rfl rfl (by kernel_rfl) Tryd.func5 (by kernel_rfl)
    (of_decide_eq_true (by kernel_rfl)) (by unfold Func.isWrapper; first | (rw [if_pos (by decide +kernel)]; kernel_rfl) | (rw [if_neg (by decide +kernel)]; exact ⟨rfl, rfl⟩))
    (fun os started H enc _ => regionLarge_lifted os started H enc)

theorem regionLarge_card : Rows.RegionLargeCardSaid :=
  Claim7.holds_tied_plain_at .later [] [.data, .pinned] true (true, "d7f6be0e9c720fb0fea7274c0dc3e730ad55da6ce1669a0de5f21f808e714b7f") false regionLarge_holds (fun _ h => by cases h) (by kernel_rfl) (fun _ h => by cases h) regionLarge_row_tie rfl ⟨rfl, rfl⟩ (by kernel_rfl) rfl
    (fun f fn hf hfn => by
      obtain rfl : f = 5 := Option.some.inj ((show Tryd.prog.funcNamed "additive/additivelaw18.RegionLarge" = some 5 by kernel_rfl).symm.trans hf) |>.symm
      obtain rfl : fn = Tryd.f5 := (Option.some.inj (Tryd.func5.symm.trans hfn)).symm
      exact ⟨by kernel_rfl, fun j t ht => by
        rw [Tryd.params5] at ht
        have hm := Array.mem_of_getElem? ht
        simp only [List.mem_toArray, List.mem_cons, List.not_mem_nil, or_false] at hm
        rcases hm with rfl | rfl
        all_goals (show Tryd.prog.wantsStandIn _ = false; kernel_rfl)⟩)
    (by kernel_rfl)

end Go.Proofs.YtgicofpllopjmaaDoor
