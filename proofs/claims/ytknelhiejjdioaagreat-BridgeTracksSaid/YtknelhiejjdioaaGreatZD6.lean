/-
  Texts of this seat put together: D6.
-/
import Derived.Test.YtknelhiejjdioaaGreatJ11
set_option linter.unusedVariables false
set_option linter.unusedSimpArgs false
set_option maxRecDepth 100000
namespace Go.Proofs.YtknelhiejjdioaaGreat
open Go.Abs Go.ChangeShapes Go.WideShapes Go.ChangeAt Go.RowKit

theorem brl_len {r b : List Row} (hn : validR r = true → (regCells r).length ≤ 1000) : (brL r b).length ≤ 1000 ∧ ∀ l ∈ brL r b, l.length ≤ 1000 := by
  cases hv : (validR r && validR b) with
  | false =>
    have h3 : brL r b = [] := by unfold brL; rw [if_neg (by rw [hv]; simp)]
    rw [h3]; simp
  | true =>
    have e : brL r b = spansU r b (moreUp r b) := by unfold brL; rw [if_pos hv]
    simp only [Bool.and_eq_true] at hv
    obtain ⟨_, _, h1, h2⟩ := spansU_facts hv.1 hv.2 (moreUp r b)
    have := hn hv.1
    rw [e]
    exact ⟨by omega, fun l hl => by have := (List.sublist_flatten_of_mem hl).length_le; omega⟩
theorem rest_valid (r b : List Row) : validR (brRest r b) = true := by
  unfold brRest
  split
  · exact opR_valid rfl _ _
  · rfl

set_option maxHeartbeats 8000000 in
theorem bridgetracks_ok (r b : List Row) (hr : bigR r) (hb0 : bigR b) : PC Tryz.prog 4 [.agg (regRow r), .agg (regRow b)] (.p (.bool true)) := by
  have c0 := awake30_ok
  have h1 := heavy30_ok r hr
  have h2 := heavy30_ok b hb0
  cases hp : heavyB r with
  | true =>
    rw [hp] at h1
    refine pc_of_awp cx (fn := Tryz.f4) (c := _) Tryz.func4 rfl rfl (Nat.le_of_ble_eq_true rfl) ?_
    rw [Tryz.ntmps4]; refine Nav.imp ?_
    refine awp_region cx [] fun K hK => ?_
    simp [push_cast]
    repeat (refine And.intro (by clear hK; intros; first | omega | (simp_all; done) | (simp_all <;> omega)) ?_)
    refine hK _ ?_; clear hK K; refine Nav.imp ?_
    refine awp_region cx [(1, .p (.bool true)), (4, .skip)] fun K hK => ?_
    simp [push_cast, h1]
    repeat (refine And.intro (by clear hK; intros; first | omega | (simp_all; done) | (simp_all <;> omega)) ?_)
    refine hK _ ?_; clear hK K; refine Nav.imp ?_
    refine awp_cond (b := true) (by simp [push_cast]) (fun hb => ?_) (fun hb => ?_) <;> (refine Nav.imp ?_)
    · refine awp_region cx [(0, .p (.bool true))] fun K hK => ?_
      simp [push_cast, c0]
      repeat (refine And.intro (by clear hK; intros; first | omega | (simp_all; done) | (simp_all <;> omega)) ?_)
      refine hK _ ?_; clear hK K; refine Nav.imp ?_
      simp [push_cast]
    · simp at hb
  | false =>
    rw [hp] at h1
    cases hq : heavyB b with
    | true =>
      rw [hq] at h2
      refine pc_of_awp cx (fn := Tryz.f4) (c := _) Tryz.func4 rfl rfl (Nat.le_of_ble_eq_true rfl) ?_
      rw [Tryz.ntmps4]; refine Nav.imp ?_
      refine awp_region cx [] fun K hK => ?_
      simp [push_cast]
      repeat (refine And.intro (by clear hK; intros; first | omega | (simp_all; done) | (simp_all <;> omega)) ?_)
      refine hK _ ?_; clear hK K; refine Nav.imp ?_
      refine awp_region cx [(1, .p (.bool false)), (4, .p (.bool true))] fun K hK => ?_
      simp [push_cast, h1, h2]
      repeat (refine And.intro (by clear hK; intros; first | omega | (simp_all; done) | (simp_all <;> omega)) ?_)
      refine hK _ ?_; clear hK K; refine Nav.imp ?_
      refine awp_cond (b := true) (by simp [push_cast]) (fun hb => ?_) (fun hb => ?_) <;> (refine Nav.imp ?_)
      · refine awp_region cx [(0, .p (.bool true))] fun K hK => ?_
        simp [push_cast, c0]
        repeat (refine And.intro (by clear hK; intros; first | omega | (simp_all; done) | (simp_all <;> omega)) ?_)
        refine hK _ ?_; clear hK K; refine Nav.imp ?_
        simp [push_cast]
      · simp at hb
    | false =>
      rw [hq] at h2
      have fr := few_of hr hp
      have fb := few_of hb0 hq
      have a1 := bridges_ok r b fr fb
      have a2 := rbridges_ok r b fr fb
      obtain ⟨l1, l2⟩ := brl_len (b := b) fun hv => (heavy_facts hp).2 hv
      have s1 := sameAll_ok ((brL r b).map brT) ((brL r b).map brT) (fun t ht => by obtain ⟨l, hl, rfl⟩ := List.mem_map.1 ht; have := l2 l hl; show l.length ≤ 65536; omega) (by rw [List.length_map]; exact l1)
      have s2 := rsame_ok (brRest r b) (brRest r b) (small_valid (rest_valid r b))
      rw [decide_eq_true rfl] at s1 s2
      generalize (brL r b).map brT = T at *
      generalize brRest r b = W at *
      refine pc_of_awp cx (fn := Tryz.f4) (c := _) Tryz.func4 rfl rfl (Nat.le_of_ble_eq_true rfl) ?_
      rw [Tryz.ntmps4]; refine Nav.imp ?_
      refine awp_region cx [] fun K hK => ?_
      simp [push_cast]
      repeat (refine And.intro (by clear hK; intros; first | omega | (simp_all; done) | (simp_all <;> omega)) ?_)
      refine hK _ ?_; clear hK K; refine Nav.imp ?_
      refine awp_region cx [(1, .p (.bool false)), (4, .p (.bool false))] fun K hK => ?_
      simp [push_cast, h1, h2]
      repeat (refine And.intro (by clear hK; intros; first | omega | (simp_all; done) | (simp_all <;> omega)) ?_)
      refine hK _ ?_; clear hK K; refine Nav.imp ?_
      refine awp_cond (b := false) (by simp [push_cast]) (fun hb => ?_) (fun hb => ?_) <;> (refine Nav.imp ?_)
      · simp at hb
      · refine awp_region cx [(2, .p (.tup [encTracks T, .agg (regRow W)]))] fun K hK => ?_
        simp [push_cast, a1]
        repeat (refine And.intro (by clear hK; intros; first | omega | (simp_all; done) | (simp_all <;> omega)) ?_)
        refine hK _ ?_; clear hK K; refine Nav.imp ?_
        refine awp_region cx [(2, .p (.tup [encTracks T, .agg (regRow W)]))] fun K hK => ?_
        simp [push_cast, a2]
        repeat (refine And.intro (by clear hK; intros; first | omega | (simp_all; done) | (simp_all <;> omega)) ?_)
        refine hK _ ?_; clear hK K; refine Nav.imp ?_
        refine awp_region cx [(2, .p (.bool true)), (6, .p (.bool true)), (9, .p (.bool true))] fun K hK => ?_
        simp [push_cast, s1, s2, c0]
        repeat (refine And.intro (by clear hK; intros; first | omega | (simp_all; done) | (simp_all <;> omega)) ?_)
        refine hK _ ?_; clear hK K; refine Nav.imp ?_
        simp [push_cast]

set_option maxRecDepth 100000 in
theorem bridgeTracks_lifted (os : Os) (started : os.Started) (H : Type) (enc : TypeId × Value → H) :
    ReturnsInHanded {} Tryz.checked os 4 .any (Rows.bridgeTracksSpec.pre6 enc Tryz.prog Tryz.f4 Rows.bridgeTracksRow.domain false) (Rows.bridgeTracksSpec.post enc Tryz.prog Tryz.f4 false true false false) := by
  refine returnsInHanded_of_change (C := Tryz.checked) own started (by kernel_rfl) Tryz.func4
    (ChangeSpec.witness6 (enc := enc) (C := Tryz.checked) false ⟨#[], #[zeroReg, zeroReg], []⟩ 8 (by kernel_rfl) (by kernel_rfl) (by kernel_rfl) (by kernel_rfl)) ?_
  intro W base args ds gs before hval hW _ _
  exact law_contract rfl (fun ds h => by match ds, h with | [a0, a1], _ => rfl) laidOut (by simp only [Tryz.params4]; intro t ht; simp at ht; rcases ht with rfl <;> exact ⟨by kernel_rfl, of_decide_eq_true (by kernel_rfl)⟩) (by kernel_rfl) rfl Tryz.underlying4
    (fun xs hx => by
      simp only [Tryz.params4, hasVs] at hx
      obtain ⟨x0, r0, rfl, h0, x1, r1, rfl, h1, rfl⟩ := hx
      obtain ⟨⟨R, hR⟩, rfl⟩ := arg_regionB h0
      obtain ⟨⟨S, hS⟩, rfl⟩ := arg_regionB h1
      exact bridgetracks_ok R S hR hS) W base args ds gs before hval hW

theorem bridgeTracks_holds : Rows.BridgeTracksSaid :=
  OpenClaim.holds_of_wide 4 Tryz.f4 rfl rfl rfl rfl rfl rfl rfl ⟨rfl, rfl, rfl, rfl, rfl⟩ rfl rfl rfl rfl rfl (by kernel_rfl) Tryz.func4 (by kernel_rfl)
    (of_decide_eq_true (by kernel_rfl)) (by unfold Func.isWrapper; first | (rw [if_pos (by decide +kernel)]; kernel_rfl) | (rw [if_neg (by decide +kernel)]; exact ⟨rfl, rfl⟩))
    (fun os started H enc _ => bridgeTracks_lifted os started H enc)

end Go.Proofs.YtknelhiejjdioaaGreat
