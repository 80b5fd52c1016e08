/-
  Texts of this seat put together: A17.
-/
import Derived.Test.YtagakfaiimaifaaI13
set_option linter.unusedVariables false
set_option linter.unusedSimpArgs false
set_option maxRecDepth 100000
namespace Go.Proofs.Ytagakfaiimaifaa
open Go.Abs

theorem within21_of {a b : List Row} (ha : validR a = true) (hb : validR b = true) (h : ∀ c, c ∈ regCells a → c ∈ regCells b) : withinB a b = true := by
  have : opR fD a b = [] := valid_empty (opR_val (f := fD) rfl a b) fun c hc => by
    rw [opD_iff ha hb] at hc
    exact hc.2 (h c hc.1)
  unfold withinB
  rw [ha, hb, this]; rfl
theorem sum_take (f : List Row → Nat) (L : List (List Row)) (i : Nat) : ((L.take i).map f).sum ≤ (L.map f).sum := by
  have := congrArg (fun l => (l.map f).sum) (List.take_append_drop i L)
  simp only [List.map_append, List.sum_append] at this
  omega
theorem filled_facts {R : List Row} (hv : validR R = true) (hb : boxSm R) : (∀ (i : Nat) P, (holesR R)[i]? = some P → validR P = true ∧ opR fI P R = [] ∧ withinB P (fillR R) = true) ∧ countR (fillR R) = countR R + ((holesR R).map countR).sum ∧ countR (fillR R) ≤ 900 ∧ withinB R (fillR R) = true ∧ holesR (fillR R) = [] ∧ fillR (fillR R) = fillR R ∧ validR (fillR R) = true ∧ boxSm (fillR R) := by
  by_cases h0 : 0 < R.length
  · have hs : some? R = true := by simp [some?, hv, h0]
    obtain ⟨hf, hm⟩ := fill_mem hv h0
    obtain ⟨a1, a2, a3, b1, b2, b3, b4⟩ := fill_again hv h0
    have hbF : boxSm (fillR R) := fun _ => by
      have := hb hs
      omega
    have hc := fill_count hv h0 (holesR R).length (Nat.le_refl _)
    rw [List.take_length] at hc
    have e : fillR R = (holesR R).foldl (opR fU) (opR fU R []) := by conv => lhs; unfold fillR; rw [if_pos hv]
    rw [← e] at hc
    refine ⟨fun i P hP => ?_, hc.2, ?_, within21_of hv hf fun c hc => (hm c).2 (.inl hc), a1, a2, hf, hbF⟩
    · obtain ⟨g, hg, p1, p2, p3⟩ := hole_get hv h0 hP
      refine ⟨p1, valid_empty (opR_val (f := fI) rfl _ _) fun c hc => ?_, within21_of p1 hf fun c hc => ?_⟩
      · rw [opI_iff p1 hv, p2] at hc
        exact ((free_mem hv h0).1 (p3 c hc.1).1).2.2 hc.2
      · rw [p2] at hc
        exact (hm c).2 (.inr ⟨(p3 c hc).1, (p3 c hc).2.1⟩)
    · have := compact_cells hbF
      rw [count_valid hf]
      unfold cellsOf at this
      rw [if_pos hf] at this
      exact this
  · have : R = [] := List.eq_nil_iff_length_eq_zero.2 (by omega)
    subst this
    have h1 : holesR [] = [] := rfl
    have h2 : fillR [] = [] := by
      unfold fillR
      rw [if_pos (show validR [] = true from rfl), h1]
      show opR fU [] [] = []
      exact region_uniq (opR_val (f := fU) rfl _ _) rfl fun c => by rw [opU_iff rfl rfl]; simp [regCells]
    rw [h1, h2]
    refine ⟨fun i P h => by simp at h, by rfl, by decide, within21_of rfl rfl fun c h => h, h1, h2, rfl, hb⟩
theorem lfilled_ok (R : List Row) : PC Try.prog 7 [.agg (regRow R)] (.p (.bool true)) := by
  have c0 := awake21_ok
  have c1 := compact_ok R
  cases hc : compactB R with
  | false =>
    rw [hc] at c1
    refine pc_of_awp cx (fn := Try.f7) (c := _) Try.func7 rfl rfl (Nat.le_of_ble_eq_true rfl) ?_
    rw [Try.ntmps7]; refine Nav.imp ?_
    refine awp_region cx [] fun K hK => ?_
    simp [push_cast]
    repeat (refine And.intro (by clear hK; intros; first | omega | (simp_all; done) | (simp_all <;> omega)) ?_)
    refine hK _ ?_; clear hK K; refine Nav.imp ?_
    refine awp_region cx [(1, .p (.bool false)), (5, .skip)] fun K hK => ?_
    simp [push_cast, c1]
    repeat (refine And.intro (by clear hK; intros; first | omega | (simp_all; done) | (simp_all <;> omega)) ?_)
    refine hK _ ?_; clear hK K; refine Nav.imp ?_
    refine awp_cond (b := true) (by simp [push_cast]) (fun hb => ?_) (fun hb => ?_) <;> (refine Nav.imp ?_)
    · refine awp_region cx [(0, .p (.bool true))] fun K hK => ?_
      simp [push_cast, c0]
      repeat (refine And.intro (by clear hK; intros; first | omega | (simp_all; done) | (simp_all <;> omega)) ?_)
      refine hK _ ?_; clear hK K; refine Nav.imp ?_
      simp [push_cast]
    · simp at hb
  | true =>
    rw [hc] at c1
    obtain ⟨hs, hbx, _, _⟩ := compact_facts hc
    have c2 := validR_ok R hs
    cases hv : validR R with
    | false =>
      rw [hv] at c2
      refine pc_of_awp cx (fn := Try.f7) (c := _) Try.func7 rfl rfl (Nat.le_of_ble_eq_true rfl) ?_
      rw [Try.ntmps7]; refine Nav.imp ?_
      refine awp_region cx [] fun K hK => ?_
      simp [push_cast]
      repeat (refine And.intro (by clear hK; intros; first | omega | (simp_all; done) | (simp_all <;> omega)) ?_)
      refine hK _ ?_; clear hK K; refine Nav.imp ?_
      refine awp_region cx [(1, .p (.bool true)), (5, .p (.bool false))] fun K hK => ?_
      simp [push_cast, c1, c2]
      repeat (refine And.intro (by clear hK; intros; first | omega | (simp_all; done) | (simp_all <;> omega)) ?_)
      refine hK _ ?_; clear hK K; refine Nav.imp ?_
      refine awp_cond (b := true) (by simp [push_cast]) (fun hb => ?_) (fun hb => ?_) <;> (refine Nav.imp ?_)
      · refine awp_region cx [(0, .p (.bool true))] fun K hK => ?_
        simp [push_cast, c0]
        repeat (refine And.intro (by clear hK; intros; first | omega | (simp_all; done) | (simp_all <;> omega)) ?_)
        refine hK _ ?_; clear hK K; refine Nav.imp ?_
        simp [push_cast]
      · simp at hb
    | true =>
      rw [hv] at c2
      obtain ⟨f1, f2, f3, f4, f5, f6, f7, f8⟩ := filled_facts hv hbx
      have c3 := fill_ok R hs hbx
      have c4 := holes_ok R hs hbx
      have c5 := count_ok R hs
      have hLl := holes_len R hbx
      have hsF := small_valid f7
      have c6 := holes_ok (fillR R) hsF f8
      rw [f5] at c6
      have c7 := fill_ok (fillR R) hsF f8
      rw [f6] at c7
      have c8 := rsame_ok (fillR R) (fillR R) hsF
      rw [decide_eq_true rfl] at c8
      have c9 := count_ok (fillR R) hsF
      have c10 := withinR_ok R (fillR R) hs hsF
      rw [f4] at c10
      have hsum := fun i => sum_take countR (holesR R) i
      generalize fillR R = F at *
      generalize holesR R = L at *
      generalize hn0 : countR R = n0 at *
      generalize hnF : countR F = nF at *
      obtain ⟨S, hS0, hSL, hSn, hSb⟩ : ∃ S : Nat → Nat, (S 0 : Int) = n0 ∧ S L.length = nF ∧ (∀ i P, L[i]? = some P → S (i + 1) = S i + countR P) ∧ ∀ i, S i ≤ 900 := by
        refine ⟨fun i => n0 + ((L.take i).map countR).sum, by simp, by simp only [List.take_length]; exact f2.symm, fun i P hP => ?_, fun i => ?_⟩
        · simp only [take_get hP]; simp [Nat.add_assoc]
        · have := hsum i
          simp only; omega
      refine pc_of_awp cx (fn := Try.f7) (c := _) Try.func7 rfl rfl (Nat.le_of_ble_eq_true rfl) ?_
      rw [Try.ntmps7]; refine Nav.imp ?_
      refine awp_region cx [] fun K hK => ?_
      simp [push_cast]
      repeat (refine And.intro (by clear hK; intros; first | omega | (simp_all; done) | (simp_all <;> omega)) ?_)
      refine hK _ ?_; clear hK K; refine Nav.imp ?_
      refine awp_region cx [(1, .p (.bool true)), (5, .p (.bool true))] fun K hK => ?_
      simp [push_cast, c1, c2]
      repeat (refine And.intro (by clear hK; intros; first | omega | (simp_all; done) | (simp_all <;> omega)) ?_)
      refine hK _ ?_; clear hK K; refine Nav.imp ?_
      refine awp_cond (b := false) (by simp [push_cast]) (fun hb => ?_) (fun hb => ?_) <;> (refine Nav.imp ?_)
      · simp at hb
      · refine awp_region cx [(1, .p (.agg (regRow F)))] fun K hK => ?_
        simp [push_cast, c3]
        repeat (refine And.intro (by clear hK; intros; first | omega | (simp_all; done) | (simp_all <;> omega)) ?_)
        refine hK _ ?_; clear hK K; refine Nav.imp ?_
        refine awp_region cx [(1, .p (encRgs L))] fun K hK => ?_
        simp [push_cast, c4]
        repeat (refine And.intro (by clear hK; intros; first | omega | (simp_all; done) | (simp_all <;> omega)) ?_)
        refine hK _ ?_; clear hK K; refine Nav.imp ?_
        refine awp_region cx [(1, .p (.int .i64 n0))] fun K hK => ?_
        simp [push_cast, c5]
        repeat (refine And.intro (by clear hK; intros; first | omega | (simp_all; done) | (simp_all <;> omega)) ?_)
        refine hK _ ?_; clear hK K; refine Nav.imp ?_
        refine awp_region cx [] fun K hK => ?_
        simp [push_cast]
        repeat (refine And.intro (by clear hK; intros; first | omega | (simp_all; done) | (simp_all <;> omega)) ?_)
        refine hK _ ?_; clear hK K; refine Nav.imp ?_
        refine awp_loop (β := Nat) (fun i => ⟨76, [(1, .ptr 0 0 0), (3, .ptr 1 0 0), (4, .d (encRgs L)), (5, .d (.int .i64 (S i : Int))), (6, .d (.int .i64 i))], [(0, some ⟨24, 1, [(regRow R).map .d]⟩), (1, some ⟨24, 1, [(regRow F).map .d]⟩)], 2⟩) (fun i => i ≤ L.length) (fun i => L.length - i) 0 ?_ (Nat.zero_le _) ?_
        · refine weak_of [(0, some 0), (1, some 12)] rfl (by simp [upT, up, upL, push_cast, hS0]) (by simp [upH, upR, upL, up, push_cast, hS0]) (by simp [namesOk, push_cast]) (by simp [olds])
        · rintro i hi
          refine Nav.imp ?_
          refine awp_region cx [] fun K hK => ?_
          simp [push_cast]
          repeat (refine And.intro (by clear hK; intros; first | omega | (simp_all; done) | (simp_all <;> omega)) ?_)
          refine hK _ ?_; clear hK K; refine Nav.imp ?_
          refine awp_cond (b := decide ((i : Int) < L.length)) (by simp [push_cast]) (fun hb => ?_) (fun hb => ?_) <;> (refine Nav.imp ?_)
          · have hlt : i < L.length := by simpa using hb
            obtain ⟨P, hP⟩ := getq hlt
            have e0 := wrap_i64 (n := (i : Int) + 1) (by omega) (by omega)
            obtain ⟨p1, p2, p3⟩ := f1 i P hP
            have d1 := count_ok P (small_valid p1)
            have d2 := intersectR_ok P R (small_valid p1) hs
            rw [p2] at d2
            have d3 := count_ok [] (small_valid rfl)
            rw [show countR [] = 0 from rfl] at d3
            have d4 := withinR_ok P F (small_valid p1) hsF
            rw [p3] at d4
            have hnx := hSn i P hP
            have hle := hSb (i + 1)
            generalize countR P = q at *
            have e1 : IntKind.i64.wrap ((S i : Int) + (q : Int)) = (S (i + 1) : Int) := by
              rw [wrap_i64 (by omega) (by omega)]; omega
            refine awp_region cx [(5, .p (.int .i64 q))] fun K hK => ?_
            simp [push_cast, hP, d1, e1]
            repeat (refine And.intro (by clear hK; intros; first | omega | (simp_all; done) | (simp_all <;> omega)) ?_)
            refine hK _ ?_; clear hK K; refine Nav.imp ?_
            refine awp_region_draw cx mixed [(5, .p (.agg (regRow []))), (6, .p (.int .i64 0)), (14, .p (.bool true))] fun K hK => ?_
            simp [push_cast, hP, d2, d3, d4]
            repeat (refine And.intro (by clear hK; intros; first | omega | (simp_all; done) | (simp_all <;> omega)) ?_)
            refine hK _ _ (by kernel_rfl) ?_; clear hK K; refine Nav.imp ?_
            refine awp_cond (b := false) (by simp [push_cast]) (fun hb => ?_) (fun hb => ?_) <;> (refine Nav.imp ?_)
            · simp at hb
            · refine awp_region cx [] fun K hK => ?_
              simp [push_cast, e0]
              repeat (refine And.intro (by clear hK; intros; first | omega | (simp_all; done) | (simp_all <;> omega)) ?_)
              refine hK _ ?_; clear hK K; refine Nav.imp ?_
              refine ⟨i + 1, hlt, by omega, ?_⟩
              refine weak_of [(0, some 0), (1, some 1)] rfl (by simp [upT, up, upL, push_cast]) (by simp [upH, upR, upL, up, push_cast]) (by simp [namesOk, push_cast]) (by simp [olds])
          · have hie : i = L.length := by simp at hb; omega
            subst hie
            rw [hSL]
            refine awp_region_draw cx mixed [(2, .p (.bool true)), (5, .p (.int .i64 nF)), (11, .p (encRgs [])), (17, .p (.agg (regRow F))), (19, .p (.bool true)), (22, .p (.bool true))] fun K hK => ?_
            simp [push_cast, c0, c6, c7, c8, c9, c10]
            repeat (refine And.intro (by clear hK; intros; first | omega | (simp_all; done) | (simp_all <;> omega)) ?_)
            refine hK _ _ (by kernel_rfl) ?_; clear hK K; refine Nav.imp ?_
            simp [push_cast]
set_option maxRecDepth 100000 in
theorem partsFilled_lifted (os : Os) (started : os.Started) (H : Type) (enc : TypeId × Value → H) :
    ReturnsInHanded {} Try.checked os 7 .any (Rows.partsFilledSpec.pre6 enc Try.prog Try.f7 Rows.partsFilledRow.domain false) (Rows.partsFilledSpec.post enc Try.prog Try.f7 false true false false) := by
  refine returnsInHanded_of_change (C := Try.checked) own started (by kernel_rfl) Try.func7
    (ChangeSpec.witness6 (enc := enc) (C := Try.checked) false ⟨#[], #[zeroReg], []⟩ 8 (by kernel_rfl) (by kernel_rfl) (by kernel_rfl) (by kernel_rfl)) ?_
  intro W base args ds gs before hval hW _ _
  exact law_contract rfl (fun ds h => by match ds, h with | [a0], _ => rfl) laidOut (by simp only [Try.params7]; intro t ht; simp at ht; rcases ht with rfl <;> exact ⟨by kernel_rfl, of_decide_eq_true (by kernel_rfl)⟩) (by kernel_rfl) rfl Try.underlying4
    (fun xs hx => by
      simp only [Try.params7, hasVs] at hx
      obtain ⟨x0, r0, rfl, h0, rfl⟩ := hx
      obtain ⟨R, rfl⟩ := arg_region h0
      exact lfilled_ok R) W base args ds gs before hval hW

theorem partsFilled_holds : Rows.PartsFilledSaid :=
  OpenClaim.holds_of_wide 7 Try.f7 rfl rfl rfl rfl rfl rfl rfl ⟨rfl, rfl, rfl, rfl, rfl⟩ rfl rfl rfl rfl rfl (by kernel_rfl) Try.func7 (by kernel_rfl)
    (of_decide_eq_true (by kernel_rfl)) (by unfold Func.isWrapper; first | (rw [if_pos (by decide +kernel)]; kernel_rfl) | (rw [if_neg (by decide +kernel)]; exact ⟨rfl, rfl⟩))
    (fun os started H enc _ => partsFilled_lifted os started H enc)

end Go.Proofs.Ytagakfaiimaifaa
