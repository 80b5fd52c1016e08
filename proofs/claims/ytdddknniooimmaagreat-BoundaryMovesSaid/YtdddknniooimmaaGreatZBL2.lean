/-
  Texts of this seat put together: BL2.
-/
import Derived.Test.YtdddknniooimmaaGreatI12
set_option linter.unusedVariables false
set_option linter.unusedSimpArgs false
set_option maxRecDepth 100000
namespace Go.Proofs.YtdddknniooimmaaGreat
open Go.Abs Go.ChangeShapes Go.WideShapes Go.ChangeAt Go.RowKit

theorem sh_small2 {R : List Row} (h : smallR R) (dx dy : Int) : smallR (R.map (shRow dx dy)) := by
  refine ⟨by simpa using h.1, fun w hw => ?_⟩
  obtain ⟨v, hv, rfl⟩ := List.mem_map.1 hw
  have := h.2 v hv
  simpa [shRow] using this
set_option maxHeartbeats 8000000 in
theorem moves_ok (R : List Row) (dx dy : Int) : PC Tryz.prog 9 [.agg (regRow R), .int .i64 dx, .int .i64 dy] (.p (.bool true)) := by
  have hsm := few_small R
  have c0 := few22_ok R
  have c5 := awake_ok
  have c1 := shift_ok (fewR R) dx dy hsm
  have hD : shD (fewR R) dx dy = .tup [.agg (regRow (shR (fewR R) dx dy)), .int .i64 (shE (fewR R) dx dy)] := rfl
  rw [hD] at c1
  have hlen := fun h => @few_cells22 R h
  generalize fewR R = F at *
  by_cases hE : shE F dx dy = 0
  · by_cases h0 : F.length = 0
    · generalize shR F dx dy = S at *
      rw [hE] at c1
      refine pc_of_awp cx (fn := Tryz.f9) (c := _) Tryz.func9 rfl rfl (Nat.le_of_ble_eq_true rfl) ?_
      rw [Tryz.ntmps9]; refine Nav.imp ?_
      refine awp_region cx [] fun K hK => ?_
      simp [push_cast]
      repeat (refine And.intro (by clear hK; intros; first | omega | (simp_all; done) | (simp_all <;> omega)) ?_)
      refine hK _ ?_; clear hK K; refine Nav.imp ?_
      refine awp_region cx [(1, .p (.agg (regRow F)))] fun K hK => ?_
      simp [push_cast, c0]
      repeat (refine And.intro (by clear hK; intros; first | omega | (simp_all; done) | (simp_all <;> omega)) ?_)
      refine hK _ ?_; clear hK K; refine Nav.imp ?_
      refine awp_region cx [(3, .p (.tup [.agg (regRow S), .int .i64 0]))] fun K hK => ?_
      simp [push_cast, c1]
      repeat (refine And.intro (by clear hK; intros; first | omega | (simp_all; done) | (simp_all <;> omega)) ?_)
      refine hK _ ?_; clear hK K; refine Nav.imp ?_
      refine awp_region cx [] fun K hK => ?_
      simp [push_cast, h0]
      repeat (refine And.intro (by clear hK; intros; first | omega | (simp_all; done) | (simp_all <;> omega)) ?_)
      refine hK _ ?_; clear hK K; refine Nav.imp ?_
      refine awp_cond (b := true) (by simp [push_cast, h0]) (fun hb => ?_) (fun hb => ?_) <;> (refine Nav.imp ?_)
      · refine awp_region cx [(0, .p (.bool true))] fun K hK => ?_
        simp [push_cast, c5]
        repeat (refine And.intro (by clear hK; intros; first | omega | (simp_all; done) | (simp_all <;> omega)) ?_)
        refine hK _ ?_; clear hK K; refine Nav.imp ?_
        simp [push_cast]
      · simp at hb
    · have hv : validR F = true := by
        cases hv : validR F with
        | true => rfl
        | false => unfold shE at hE; rw [hv] at hE; simp at hE
      have hin : inB F dx dy = true := by
        cases hin : inB F dx dy with
        | true => rfl
        | false => unfold shE at hE; rw [hv, hin] at hE; simp [h0] at hE
      have hSR : shR F dx dy = F.map (shRow dx dy) := by
        unfold shR some?
        rw [hv, hin]
        simp
        try (intro e; rw [e] at h0; simp at h0)
      have hvS : validR (F.map (shRow dx dy)) = true := sh_valid hv (by intro e; rw [e] at h0; simp at h0) hin
      obtain ⟨Ls, hL⟩ := lps_ex (collect_cracks hv)
      have hm : Mvd (Sof F) (Sof (F.map (shRow dx dy))) ⟨dx, dy⟩ := ⟨fun c => Sof_mv F ⟨dx, dy⟩ c⟩
      have hL2 := hm.lps hL
      have hn1 := (lps_perm (collect_cracks hv) (collect_nodup hv) hL).length_eq
      have hn2 := (lps_perm (collect_cracks hvS) (collect_nodup hvS) hL2).length_eq
      have hfl : (Ls.map fun L => L.map (mvC ⟨dx, dy⟩)).flatten.length = Ls.flatten.length := by
        rw [← List.map_flatten, List.length_map]
      have hcl := collect_len hv
      have hc9 := hlen hv
      obtain ⟨s1, s2⟩ := trace_sizes hv hL
      have c2 := trace_ok F hsm (fun _ => by omega) Ls fun _ => hL
      have c3 := trace_ok (F.map (shRow dx dy)) (sh_small2 hsm dx dy) (fun _ => by omega) _ fun _ => hL2
      rw [if_pos hv] at c2
      rw [if_pos hvS] at c3
      have near : ∀ L ∈ Ls, ∀ p ∈ polyOf L, ((-4096 ≤ p.x ∧ p.x ≤ 4096) ∧ -4096 ≤ p.y ∧ p.y ≤ 4096) ∧ (-4096 ≤ p.x + dx ∧ p.x + dx ≤ 4096) ∧ -4096 ≤ p.y + dy ∧ p.y + dy ≤ 4096 := fun L hLm p hp => by
        refine ⟨poly_near hv (hL.each L hLm) p hp, ?_⟩
        have h2 := poly_near hvS (hm.lp (hL.each L hLm)) (mvP ⟨dx, dy⟩ p) (by rw [polyOf_mv]; exact List.mem_map_of_mem hp)
        exact h2
      have hpl : ∀ L ∈ Ls, (polyOf L).length ≤ 10000000 := fun L hLm => by
        have := mem_sum_le (List.mem_map_of_mem (f := polyOf) hLm)
        omega
      have e3 : ((Ls.map fun L => L.map (mvC ⟨dx, dy⟩)).map fun L => [encCells (polyOf L)]) = Ls.map fun L => [encCells ((polyOf L).map (mvP ⟨dx, dy⟩))] := by
        rw [List.map_map]
        refine List.map_congr_left fun L _ => ?_
        simp only [Function.comp, polyOf_mv]
      rw [e3] at c3
      rw [hSR, hE] at c1
      have hLl : Ls.length ≤ 10000000 := by omega
      have hF0 : ¬ F = [] := by intro e; rw [e] at h0; simp at h0
      clear hL2 hn1 hn2 hfl hcl hc9 s1 s2 hm e3 hD hlen hvS hSR
      generalize F.map (shRow dx dy) = S at *
      have ga : ∀ i L, Ls[i]? = some L → (Ls.map fun L => [encCells (polyOf L)])[i]? = some [encCells (polyOf L)] := fun i L h => by rw [List.getElem?_map, h]; rfl
      have gb : ∀ i L, Ls[i]? = some L → (Ls.map fun L => [encCells ((polyOf L).map (mvP ⟨dx, dy⟩))])[i]? = some [encCells ((polyOf L).map (mvP ⟨dx, dy⟩))] := fun i L h => by rw [List.getElem?_map, h]; rfl
      have la : (Ls.map fun L => [encCells (polyOf L)]).length = Ls.length := List.length_map ..
      have lb : (Ls.map fun L => [encCells ((polyOf L).map (mvP ⟨dx, dy⟩))]).length = Ls.length := List.length_map ..
      generalize (Ls.map fun L => [encCells (polyOf L)]) = pa at *
      generalize (Ls.map fun L => [encCells ((polyOf L).map (mvP ⟨dx, dy⟩))]) = pb at *
      refine pc_of_awp cx (fn := Tryz.f9) (c := _) Tryz.func9 rfl rfl (Nat.le_of_ble_eq_true rfl) ?_
      rw [Tryz.ntmps9]; refine Nav.imp ?_
      refine awp_region cx [] fun K hK => ?_
      simp [push_cast]
      repeat (refine And.intro (by clear hK; intros; first | omega | (simp_all; done) | (simp_all <;> omega)) ?_)
      refine hK _ ?_; clear hK K; refine Nav.imp ?_
      refine awp_region cx [(1, .p (.agg (regRow F)))] fun K hK => ?_
      simp [push_cast, c0]
      repeat (refine And.intro (by clear hK; intros; first | omega | (simp_all; done) | (simp_all <;> omega)) ?_)
      refine hK _ ?_; clear hK K; refine Nav.imp ?_
      refine awp_region cx [(3, .p (.tup [.agg (regRow S), .int .i64 0]))] fun K hK => ?_
      simp [push_cast, c1]
      repeat (refine And.intro (by clear hK; intros; first | omega | (simp_all; done) | (simp_all <;> omega)) ?_)
      refine hK _ ?_; clear hK K; refine Nav.imp ?_
      refine awp_region cx [] fun K hK => ?_
      simp [push_cast, hF0]
      repeat (refine And.intro (by clear hK; intros; first | omega | (simp_all; done) | (simp_all <;> omega)) ?_)
      refine hK _ ?_; clear hK K; refine Nav.imp ?_
      refine awp_cond (b := false) (by simp [push_cast, h0, hF0]) (fun hb => ?_) (fun hb => ?_) <;> (refine Nav.imp ?_)
      · simp at hb
      · refine awp_region cx [(1, .p (.sl pa))] fun K hK => ?_
        simp [push_cast, c2]
        repeat (refine And.intro (by clear hK; intros; first | omega | (simp_all; done) | (simp_all <;> omega)) ?_)
        refine hK _ ?_; clear hK K; refine Nav.imp ?_
        refine awp_region cx [(1, .p (.sl pb))] fun K hK => ?_
        simp [push_cast, c3]
        repeat (refine And.intro (by clear hK; intros; first | omega | (simp_all; done) | (simp_all <;> omega)) ?_)
        refine hK _ ?_; clear hK K; refine Nav.imp ?_
        refine awp_region cx [] fun K hK => ?_
        simp [push_cast, la, lb]
        repeat (refine And.intro (by clear hK; intros; first | omega | (simp_all; done) | (simp_all <;> omega)) ?_)
        refine hK _ ?_; clear hK K; refine Nav.imp ?_
        refine awp_cond (b := false) (by simp [push_cast, la, lb]) (fun hb => ?_) (fun hb => ?_) <;> (refine Nav.imp ?_)
        · simp at hb
        · refine awp_region cx [] fun K hK => ?_
          simp [push_cast]
          repeat (refine And.intro (by clear hK; intros; first | omega | (simp_all; done) | (simp_all <;> omega)) ?_)
          refine hK _ ?_; clear hK K; refine Nav.imp ?_
          refine awp_loop (β := Nat) (fun i => ⟨114, [(1, .d (.int .i64 dx)), (2, .d (.int .i64 dy)), (9, .d (.sl pa)), (10, .d (.sl pb)), (11, .d (.int .i64 i))], [], 0⟩) (fun i => i ≤ Ls.length) (fun i => Ls.length - i) 0 ?_ (Nat.zero_le _) ?_
          · refine weak_of [] rfl (by simp [upT, up, upL, push_cast]) (by simp [upH, upR, upL, up, push_cast]) (by simp [namesOk, push_cast]) (by simp [olds])
          · intro i hi
            refine Nav.imp ?_
            refine awp_region cx [] fun K hK => ?_
            simp [push_cast, la]
            repeat (refine And.intro (by clear hK; intros; first | omega | (simp_all; done) | (simp_all <;> omega)) ?_)
            refine hK _ ?_; clear hK K; refine Nav.imp ?_
            refine awp_cond (b := decide ((i : Int) < Ls.length)) (by simp [push_cast]) (fun hb => ?_) (fun hb => ?_) <;> (refine Nav.imp ?_)
            · have hlt : i < Ls.length := by simpa using hb
              obtain ⟨L, hLi⟩ := getq hlt
              have hLm := List.mem_of_getElem? hLi
              have a1 := ga i L hLi
              have b1 := gb i L hLi
              have nr := near L hLm
              have pl := hpl L hLm
              have e0 := wrap_i64 (n := (i : Int) + 1) (by omega) (by omega)
              generalize polyOf L = P at *
              refine awp_region_draw cx mixed [] fun K hK => ?_
              simp [push_cast, a1, b1]
              repeat (refine And.intro (by clear hK; intros; first | omega | (simp_all; done) | (simp_all <;> omega)) ?_)
              refine hK _ _ (by kernel_rfl) ?_; clear hK K; refine Nav.imp ?_
              refine awp_cond (b := false) (by simp [push_cast]) (fun hb => ?_) (fun hb => ?_) <;> (refine Nav.imp ?_)
              · simp at hb
              · refine awp_region cx [] fun K hK => ?_
                simp [push_cast]
                repeat (refine And.intro (by clear hK; intros; first | omega | (simp_all; done) | (simp_all <;> omega)) ?_)
                refine hK _ ?_; clear hK K; refine Nav.imp ?_
                refine awp_loop (β := Nat) (fun k => ⟨114, [(1, .d (.int .i64 dx)), (2, .d (.int .i64 dy)), (9, .d (.sl pa)), (10, .d (.sl pb)), (11, .d (.int .i64 i)), (12, .d (.int .i64 k))], [], 0⟩) (fun k => k ≤ P.length) (fun k => P.length - k) 0 ?_ (Nat.zero_le _) ?_
                · refine weak_of [] rfl (by simp [upT, up, upL, push_cast]) (by simp [upH, upR, upL, up, push_cast]) (by simp [namesOk, push_cast]) (by simp [olds])
                · intro k hk
                  refine Nav.imp ?_
                  refine awp_region cx [] fun K hK => ?_
                  simp [push_cast, a1]
                  repeat (refine And.intro (by clear hK; intros; first | omega | (simp_all; done) | (simp_all <;> omega)) ?_)
                  refine hK _ ?_; clear hK K; refine Nav.imp ?_
                  refine awp_cond (b := decide ((k : Int) < P.length)) (by simp [push_cast]) (fun hb => ?_) (fun hb => ?_) <;> (refine Nav.imp ?_)
                  · have hkl : k < P.length := by simpa using hb
                    obtain ⟨p, hp⟩ := getq hkl
                    obtain ⟨n1, n2⟩ := nr p (List.mem_of_getElem? hp)
                    have e1 := wrap_i64 (n := (k : Int) + 1) (by omega) (by omega)
                    have w1 := wrap_i64 (n := p.x + dx) (by omega) (by omega)
                    have w2 := wrap_i64 (n := p.y + dy) (by omega) (by omega)
                    have hp2 : (P.map (mvP ⟨dx, dy⟩))[k]? = some ⟨p.x + dx, p.y + dy⟩ := by rw [List.getElem?_map, hp]; rfl
                    generalize P.map (mvP ⟨dx, dy⟩) = P2 at *
                    refine awp_region_draw cx mixed [] fun K hK => ?_
                    simp [push_cast, a1, b1, hp, hp2, w1, w2]
                    repeat (refine And.intro (by clear hK; intros; first | omega | (simp_all; done) | (simp_all <;> omega)) ?_)
                    refine hK _ _ (by kernel_rfl) ?_; clear hK K; refine Nav.imp ?_
                    refine awp_cond (b := false) (by simp [push_cast]) (fun hb => ?_) (fun hb => ?_) <;> (refine Nav.imp ?_)
                    · simp at hb
                    · refine awp_region cx [] fun K hK => ?_
                      simp [push_cast, e1]
                      repeat (refine And.intro (by clear hK; intros; first | omega | (simp_all; done) | (simp_all <;> omega)) ?_)
                      refine hK _ ?_; clear hK K; refine Nav.imp ?_
                      refine ⟨k + 1, hkl, by omega, ?_⟩
                      refine weak_of [] rfl (by simp [upT, up, upL, push_cast]) (by simp [upH, upR, upL, up, push_cast]) (by simp [namesOk, push_cast]) (by simp [olds])
                  · have hke : k = P.length := by simp at hb; omega
                    subst hke
                    refine awp_region cx [] fun K hK => ?_
                    simp [push_cast, e0]
                    repeat (refine And.intro (by clear hK; intros; first | omega | (simp_all; done) | (simp_all <;> omega)) ?_)
                    refine hK _ ?_; clear hK K; refine Nav.imp ?_
                    refine ⟨i + 1, hlt, by omega, ?_⟩
                    refine weak_of [] rfl (by simp [upT, up, upL, push_cast]) (by simp [upH, upR, upL, up, push_cast]) (by simp [namesOk, push_cast]) (by simp [olds])
            · refine awp_region cx [(0, .p (.bool true))] fun K hK => ?_
              simp [push_cast, c5]
              repeat (refine And.intro (by clear hK; intros; first | omega | (simp_all; done) | (simp_all <;> omega)) ?_)
              refine hK _ ?_; clear hK K; refine Nav.imp ?_
              simp [push_cast]
  · generalize shR F dx dy = S at *
    generalize shE F dx dy = e at *
    refine pc_of_awp cx (fn := Tryz.f9) (c := _) Tryz.func9 rfl rfl (Nat.le_of_ble_eq_true rfl) ?_
    rw [Tryz.ntmps9]; refine Nav.imp ?_
    refine awp_region cx [] fun K hK => ?_
    simp [push_cast]
    repeat (refine And.intro (by clear hK; intros; first | omega | (simp_all; done) | (simp_all <;> omega)) ?_)
    refine hK _ ?_; clear hK K; refine Nav.imp ?_
    refine awp_region cx [(1, .p (.agg (regRow F)))] fun K hK => ?_
    simp [push_cast, c0]
    repeat (refine And.intro (by clear hK; intros; first | omega | (simp_all; done) | (simp_all <;> omega)) ?_)
    refine hK _ ?_; clear hK K; refine Nav.imp ?_
    refine awp_region cx [(3, .p (.tup [.agg (regRow S), .int .i64 e]))] fun K hK => ?_
    simp [push_cast, c1]
    repeat (refine And.intro (by clear hK; intros; first | omega | (simp_all; done) | (simp_all <;> omega)) ?_)
    refine hK _ ?_; clear hK K; refine Nav.imp ?_
    refine awp_region cx [] fun K hK => ?_
    simp [push_cast, hE]
    repeat (refine And.intro (by clear hK; intros; first | omega | (simp_all; done) | (simp_all <;> omega)) ?_)
    refine hK _ ?_; clear hK K; refine Nav.imp ?_
    refine awp_cond (b := true) (by simp [push_cast, hE]) (fun hb => ?_) (fun hb => ?_) <;> (refine Nav.imp ?_)
    · refine awp_region cx [(0, .p (.bool true))] fun K hK => ?_
      simp [push_cast, c5]
      repeat (refine And.intro (by clear hK; intros; first | omega | (simp_all; done) | (simp_all <;> omega)) ?_)
      refine hK _ ?_; clear hK K; refine Nav.imp ?_
      simp [push_cast]
    · simp at hb
set_option maxRecDepth 100000 in
theorem boundaryMoves_lifted (os : Os) (started : os.Started) (H : Type) (enc : TypeId × Value → H) :
    ReturnsInHanded {} Tryz.checked os 9 .any (Rows.boundaryMovesSpec.pre6 enc Tryz.prog Tryz.f9 Rows.boundaryMovesRow.domain false) (Rows.boundaryMovesSpec.post enc Tryz.prog Tryz.f9 false true false false) := by
  refine returnsInHanded_of_change (C := Tryz.checked) own started (by kernel_rfl) Tryz.func9
    (ChangeSpec.witness6 (enc := enc) (C := Tryz.checked) false ⟨#[], #[zeroReg, .int .i64 0, .int .i64 0], []⟩ 8 (by kernel_rfl) (by kernel_rfl) (by kernel_rfl) (by kernel_rfl)) ?_
  intro W base args ds gs before hval hW _ _
  exact law_contract rfl (fun ds h => by match ds, h with | [a0, a1, a2], _ => rfl) laidOut (by simp only [Tryz.params9]; intro t ht; simp at ht; rcases ht with rfl | rfl <;> exact ⟨by kernel_rfl, of_decide_eq_true (by kernel_rfl)⟩) (by kernel_rfl) rfl Tryz.underlying4
    (fun xs hx => by
      simp only [Tryz.params9, hasVs] at hx
      obtain ⟨x0, r0, rfl, h0, x1, r1, rfl, h1, x2, r2, rfl, h2, rfl⟩ := hx
      obtain ⟨R, rfl⟩ := arg_region h0
      obtain ⟨dx, rfl⟩ := arg_int h1
      obtain ⟨dy, rfl⟩ := arg_int h2
      exact moves_ok R dx dy) W base args ds gs before hval hW

theorem boundaryMoves_holds : Rows.BoundaryMovesSaid :=
  OpenClaim.holds_of_wide 9 Tryz.f9 rfl rfl rfl rfl rfl rfl rfl ⟨rfl, rfl, rfl, rfl, rfl⟩ rfl rfl rfl rfl rfl (by kernel_rfl) Tryz.func9 (by kernel_rfl)
    (of_decide_eq_true (by kernel_rfl)) (by unfold Func.isWrapper; first | (rw [if_pos (by decide +kernel)]; kernel_rfl) | (rw [if_neg (by decide +kernel)]; exact ⟨rfl, rfl⟩))
    (fun os started H enc _ => boundaryMoves_lifted os started H enc)

end Go.Proofs.YtdddknniooimmaaGreat
