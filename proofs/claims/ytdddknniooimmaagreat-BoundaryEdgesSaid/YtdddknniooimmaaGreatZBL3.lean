/-
  Texts of this seat put together: BL3.
-/
import Derived.Test.YtdddknniooimmaaGreatJ12
import Derived.Test.YtdddknniooimmaaGreatJ13
set_option linter.unusedVariables false
set_option linter.unusedSimpArgs false
set_option maxRecDepth 100000
namespace Go.Proofs.YtdddknniooimmaaGreat
open Go.Abs Go.ChangeShapes Go.WideShapes Go.ChangeAt Go.RowKit

theorem epsL_bd {a b : Cell} (ha : (-4096 ≤ a.x ∧ a.x ≤ 4096) ∧ -4096 ≤ a.y ∧ a.y ≤ 4096) (hb : (-4096 ≤ b.x ∧ b.x ≤ 4096) ∧ -4096 ≤ b.y ∧ b.y ≤ 4096) : 0 ≤ epsL a b ∧ epsL a b ≤ 16384 := by
  have he : epsL a b = if a.x - b.x + a.y - b.y < 0 then -(a.x - b.x + a.y - b.y) else a.x - b.x + a.y - b.y := rfl
  rw [he]
  split <;> omega
theorem cycL_bd {P : List Cell} (h : nrP P) : ∀ i, i ≤ P.length → 0 ≤ cycTo epsL P i ∧ cycTo epsL P i ≤ 16384 * (i : Int)
  | 0, _ => by simp [cycTo]
  | i + 1, hi => by
    have ih := cycL_bd h i (by omega)
    obtain ⟨a, ha⟩ := getq (l := P) (k := i) (by omega)
    obtain ⟨b, hb⟩ := getq (l := P) (k := (i + 1) % P.length) (Nat.mod_lt _ (by omega))
    rw [cycTo_succ ha hb]
    have := epsL_bd (h a (List.mem_of_getElem? ha)) (h b (List.mem_of_getElem? hb))
    omega
theorem lenL_take {l : List (List Cell)} {i : Nat} {P : List Cell} (h : l[i]? = some P) : lenL (l.take (i + 1)) = lenL (l.take i) + cycTo epsL P P.length := by
  unfold lenL
  rw [List.take_add_one, h]
  simp [List.sum_append]
theorem lenL_bd {l : List (List Cell)} (h : ∀ P ∈ l, nrP P) : ∀ i, i ≤ l.length → 0 ≤ lenL (l.take i) ∧ lenL (l.take i) ≤ 16384 * (ptsL (l.take i) : Int)
  | 0, _ => by simp [lenL, ptsL]
  | i + 1, hi => by
    have ih := lenL_bd h i (by omega)
    obtain ⟨P, hP⟩ := getq (l := l) (k := i) (by omega)
    obtain ⟨_, e2⟩ := areaL_take hP
    have := cycL_bd (h P (List.mem_of_getElem? hP)) P.length (Nat.le_refl _)
    rw [lenL_take hP, e2]
    omega
theorem heads_low {S : Cell → Bool} {Ls : List (List Crk)} (h : Lps S Ls) {i : Nat} {P Q : List Cell} {a b : Cell} (hP : (Ls.map polyOf)[i]? = some P) (hQ : (Ls.map polyOf)[i + 1]? = some Q) (ha : P[0]? = some a) (hb : Q[0]? = some b) : lowC a b := by
  rw [List.getElem?_map] at hP hQ
  obtain ⟨L, hL, rfl⟩ := Option.map_eq_some_iff.1 hP
  obtain ⟨M, hM, rfl⟩ := Option.map_eq_some_iff.1 hQ
  obtain ⟨h1, e1⟩ := List.getElem?_eq_some_iff.1 hL
  obtain ⟨h2, e2⟩ := List.getElem?_eq_some_iff.1 hM
  have hlw := List.pairwise_iff_getElem.1 h.sorted i (i + 1) h1 h2 (by omega)
  rw [e1, e2] at hlw
  obtain ⟨c, d, hc, hd, hl⟩ := hlw
  obtain ⟨c', hc', _, _, _, Y, hY⟩ := lp_head (h.each L (List.mem_of_getElem? hL))
  obtain ⟨d', hd', _, _, _, Z, hZ⟩ := lp_head (h.each M (List.mem_of_getElem? hM))
  rw [hc] at hc'
  rw [hd] at hd'
  cases hc'
  cases hd'
  rw [hY] at ha
  rw [hZ] at hb
  cases ha
  cases hb
  exact hl
theorem polyRow_mapE (Ls : List (List Crk)) : (Ls.map polyOf).map polyRow = Ls.map fun L => [encCells (polyOf L)] := by rw [List.map_map]; rfl
theorem few_factsE (R : List Row) : ∃ Ls, validR (fewR R) = true → Lps (Sof (fewR R)) Ls ∧ (collectL (fewR R)).length ≤ 3840 ∧ (regCells (fewR R)).length ≤ 960 := by
  cases hv : validR (fewR R) with
  | false => exact ⟨[], (by simp)⟩
  | true =>
    obtain ⟨Ls, h⟩ := lps_ex (collect_cracks hv)
    have h1 := few_cells22 hv
    have h2 := collect_len hv
    exact ⟨Ls, fun _ => ⟨h, by omega, h1⟩⟩
set_option maxHeartbeats 16000000 in
theorem edges_ok (R : List Row) : PC Tryz.prog 8 [.agg (regRow R)] (.p (.bool true)) := by
  obtain ⟨Ls, hLs⟩ := few_factsE R
  have hsm := few_small R
  have c0 := few22_ok R
  have c1 := trace_ok (fewR R) hsm (fun h => by have := hLs h; omega) Ls fun h => (hLs h).1
  have c2 := validR_ok (fewR R) hsm
  have c3 := blength_ok (fewR R) hsm fun h => by have := hLs h; omega
  have c4 := count_ok (fewR R) hsm
  have c5 := awake_ok
  generalize fewR R = S at *
  cases hv : validR S with
  | false =>
    rw [hv] at c1 c2
    simp only [Bool.false_eq_true, if_false] at c1
    refine pc_of_awp cx (fn := Tryz.f8) (c := _) Tryz.func8 rfl rfl (Nat.le_of_ble_eq_true rfl) ?_
    rw [Tryz.ntmps8]; refine Nav.imp ?_
    refine awp_region cx [] fun K hK => ?_
    simp [push_cast]
    repeat (refine And.intro (by clear hK; intros; first | omega | (simp_all; done) | (simp_all <;> omega)) ?_)
    refine hK _ ?_; clear hK K; refine Nav.imp ?_
    refine awp_region cx [(1, .p (.agg (regRow S)))] fun K hK => ?_
    simp [push_cast, c0]
    repeat (refine And.intro (by clear hK; intros; first | omega | (simp_all; done) | (simp_all <;> omega)) ?_)
    refine hK _ ?_; clear hK K; refine Nav.imp ?_
    refine awp_region cx [(1, .p (.sl []))] fun K hK => ?_
    simp [push_cast, c1]
    repeat (refine And.intro (by clear hK; intros; first | omega | (simp_all; done) | (simp_all <;> omega)) ?_)
    refine hK _ ?_; clear hK K; refine Nav.imp ?_
    refine awp_region cx [(1, .p (.bool false))] fun K hK => ?_
    simp [push_cast, c2]
    repeat (refine And.intro (by clear hK; intros; first | omega | (simp_all; done) | (simp_all <;> omega)) ?_)
    refine hK _ ?_; clear hK K; refine Nav.imp ?_
    refine awp_cond (b := true) (by simp [push_cast]) (fun hb => ?_) (fun hb => ?_) <;> (refine Nav.imp ?_)
    · refine awp_region cx [(0, .p (.bool true))] fun K hK => ?_
      simp [push_cast, c5]
      repeat (refine And.intro (by clear hK; intros; first | omega | (simp_all; done) | (simp_all <;> omega)) ?_)
      refine hK _ ?_; clear hK K; refine Nav.imp ?_
      simp [push_cast]
    · simp at hb
  | true =>
    obtain ⟨hL, hcl, hcc⟩ := hLs hv
    rw [if_pos hv, ← polyRow_mapE] at c1
    rw [if_pos hv] at c3
    rw [hv] at c2
    unfold countR at c4
    rw [if_pos hv] at c4
    obtain ⟨t1, t2⟩ := trace_totals hv hL
    obtain ⟨s1, s2⟩ := trace_sizes hv hL
    have good : ∀ P ∈ Ls.map polyOf, GoodP P := fun P hP => by
      obtain ⟨L, hL', rfl⟩ := List.mem_map.1 hP
      exact good_loop hv (hL.each L hL')
    have srt : ∀ i P Q a b, (Ls.map polyOf)[i]? = some P → (Ls.map polyOf)[i + 1]? = some Q → P[0]? = some a → Q[0]? = some b → lowC a b := fun i P Q a b => heads_low hL
    have hll : (Ls.map polyOf).length = Ls.length := List.length_map ..
    rw [← hll] at s1
    clear hLs hL hll
    generalize Ls.map polyOf = l at *
    generalize (collectL S).length = nc at *
    generalize (regCells S).length = nr at *
    have hp : ptsL l ≤ 8192 := by have : ptsL l = (l.map List.length).sum := rfl; omega
    have c6 := area17_ok l (by omega) hp fun P hP => (good P hP).near
    rw [t2] at c6
    have hbd := lenL_bd fun P hP => (good P hP).near
    have hpt := ptsL_le l
    have h0 : lenL [] = 0 := rfl
    have hend : lenL (l.take l.length) = nc := by rw [List.take_length, t1]
    have w9 := wrap_i64 (n := 2 * (nr : Int)) (by omega) (by omega)
    clear t1 t2
    refine pc_of_awp cx (fn := Tryz.f8) (c := _) Tryz.func8 rfl rfl (Nat.le_of_ble_eq_true rfl) ?_
    rw [Tryz.ntmps8]; refine Nav.imp ?_
    refine awp_region cx [] fun K hK => ?_
    simp [push_cast]
    repeat (refine And.intro (by clear hK; intros; first | omega | (simp_all; done) | (simp_all <;> omega)) ?_)
    refine hK _ ?_; clear hK K; refine Nav.imp ?_
    refine awp_region cx [(1, .p (.agg (regRow S)))] fun K hK => ?_
    simp [push_cast, c0]
    repeat (refine And.intro (by clear hK; intros; first | omega | (simp_all; done) | (simp_all <;> omega)) ?_)
    refine hK _ ?_; clear hK K; refine Nav.imp ?_
    refine awp_region cx [(1, .p (encPs l))] fun K hK => ?_
    simp [push_cast, c1]
    repeat (refine And.intro (by clear hK; intros; first | omega | (simp_all; done) | (simp_all <;> omega)) ?_)
    refine hK _ ?_; clear hK K; refine Nav.imp ?_
    refine awp_region cx [(1, .p (.bool true))] fun K hK => ?_
    simp [push_cast, c2]
    repeat (refine And.intro (by clear hK; intros; first | omega | (simp_all; done) | (simp_all <;> omega)) ?_)
    refine hK _ ?_; clear hK K; refine Nav.imp ?_
    refine awp_cond (b := false) (by simp [push_cast]) (fun hb => ?_) (fun hb => ?_) <;> (refine Nav.imp ?_)
    · simp at hb
    · refine awp_region cx [] fun K hK => ?_
      simp [push_cast]
      repeat (refine And.intro (by clear hK; intros; first | omega | (simp_all; done) | (simp_all <;> omega)) ?_)
      refine hK _ ?_; clear hK K; refine Nav.imp ?_
      refine awp_region cx [] fun K hK => ?_
      simp [push_cast]
      repeat (refine And.intro (by clear hK; intros; first | omega | (simp_all; done) | (simp_all <;> omega)) ?_)
      refine hK _ ?_; clear hK K; refine Nav.imp ?_
      refine awp_loop (β := Nat) (fun i => ⟨133, [(1, .ptr 0 0 0), (3, .d (encPs l)), (4, .d (.int .i64 (lenL (l.take i)))), (5, .d (.int .i64 i))], [(0, some ⟨24, 1, [[.d (encRows S)]]⟩)], 1⟩) (fun i => i ≤ l.length) (fun i => l.length - i) 0 ?_ (Nat.zero_le _) ?_
      · refine weak_of [(0, some 0)] rfl (by simp [upT, up, upL, push_cast, h0]) (by simp [upH, upR, upL, up, push_cast, h0]) (by simp [namesOk, push_cast]) (by simp [olds])
      · intro i hi
        refine Nav.imp ?_
        refine awp_region cx [] fun K hK => ?_
        simp [push_cast]
        repeat (refine And.intro (by clear hK; intros; first | omega | (simp_all; done) | (simp_all <;> omega)) ?_)
        refine hK _ ?_; clear hK K; refine Nav.imp ?_
        refine awp_cond (b := decide ((i : Int) < l.length)) (by simp [push_cast]) (fun hb => ?_) (fun hb => ?_) <;> (refine Nav.imp ?_)
        · have hlt : i < l.length := by simpa using hb
          obtain ⟨P, hP⟩ := getq hlt
          have g := good P (List.mem_of_getElem? hP)
          have b0 := hbd i hi
          have b1 := hbd (i + 1) hlt
          have q0 := hpt i
          have q1 := hpt (i + 1)
          have hst := lenL_take hP
          have hcb := cycL_bd g.near
          have h4 := g.four
          obtain ⟨p0, hp0⟩ := getq (l := P) (k := 0) (by omega)
          have e0 := wrap_i64 (n := (i : Int) + 1) (by omega) (by omega)
          have hPl : P.length ≤ 8192 := by
            have := (areaL_take hP).2
            omega
          refine awp_region cx [] fun K hK => ?_
          simp [push_cast, hP]
          repeat (refine And.intro (by clear hK; intros; first | omega | (simp_all; done) | (simp_all <;> omega)) ?_)
          refine hK _ ?_; clear hK K; refine Nav.imp ?_
          refine awp_region cx [] fun K hK => ?_
          simp [push_cast]
          repeat (refine And.intro (by clear hK; intros; first | omega | (simp_all; done) | (simp_all <;> omega)) ?_)
          refine hK _ ?_; clear hK K; refine Nav.imp ?_
          apply cut_
          · intro key
            have e2 : ((P.length : Int)).tmod 2 = 0 := by
              have h := Int.ofNat_tmod P.length 2
              rw [g.even] at h
              exact h.symm
            have e4 : ¬ (P.length : Int) < 4 := by omega
            by_cases hi0 : i = 0
            · have e7 : ¬ (0 : Int) < (i : Int) := by omega
              have e8 : ¬ 0 < i := by omega
              refine awp_region_draw cx mixed [(13, .skip), (14, .skip), (15, .skip), (16, .skip), (17, .skip), (18, .skip), (19, .skip), (20, .skip), (21, .skip), (22, .skip), (23, .skip)] fun K hK => ?_
              simp [push_cast, e2, e4, e7, e8, hP, hp0]
              repeat (refine And.intro (by clear hK; intros; first | omega | (simp_all; done) | (simp_all <;> omega)) ?_)
              refine hK _ _ (by kernel_rfl) ?_; clear hK K; refine Nav.imp ?_
              refine awp_cond (b := false) (by simp [push_cast, e2, e4, e7, e8]) (fun hb => ?_) (fun hb => ?_) <;> (refine Nav.imp ?_)
              · simp at hb
              · refine awp_weak (s' := ⟨133, [(1, .ptr 0 0 0), (3, .d (encPs l)), (4, .d (.int .i64 (lenL (l.take i)))), (5, .d (.int .i64 i)), (6, .d (encCells P)), (7, .d (.int .i64 P.length))], [(0, some ⟨24, 1, [[.d (encRows S)]]⟩)], 1⟩) ?_ key.h
                refine weak_of [(0, some 0)] rfl (by simp [upT, up, upL, push_cast]) (by simp [upH, upR, upL, up, push_cast]) (by simp [namesOk, push_cast]) (by simp [olds])
            · have e7 : (0 : Int) < (i : Int) := by omega
              have e8 : 0 < i := by omega
              obtain ⟨Q, hQ⟩ := getq (l := l) (k := i - 1) (by omega)
              have gq := good Q (List.mem_of_getElem? hQ)
              have q4 := gq.four
              obtain ⟨a0, ha0⟩ := getq (l := Q) (k := 0) (by omega)
              have hlw := srt (i - 1) Q P a0 p0 hQ (by rw [show i - 1 + 1 = i by omega]; exact hP) ha0 hp0
              have c7 := lowerL_ok a0 p0
              rw [decide_eq_true hlw] at c7
              have w0 := wrap_i64 (n := (i : Int) - 1) (by omega) (by omega)
              have w1 : (i : Int) - 1 = ((i - 1 : Nat) : Int) := by omega
              rw [w1] at w0
              generalize i - 1 = j at *
              refine awp_region_draw cx mixed [(22, .p (.bool true))] fun K hK => ?_
              simp [push_cast, e2, e4, e7, e8, hP, hp0, hQ, ha0, w1, w0, c7]
              repeat (refine And.intro (by clear hK; intros; first | omega | (simp_all; done) | (simp_all <;> omega)) ?_)
              refine hK _ _ (by kernel_rfl) ?_; clear hK K; refine Nav.imp ?_
              refine awp_cond (b := false) (by simp [push_cast, e2, e4, e7, e8]) (fun hb => ?_) (fun hb => ?_) <;> (refine Nav.imp ?_)
              · simp at hb
              · refine awp_weak (s' := ⟨133, [(1, .ptr 0 0 0), (3, .d (encPs l)), (4, .d (.int .i64 (lenL (l.take i)))), (5, .d (.int .i64 i)), (6, .d (encCells P)), (7, .d (.int .i64 P.length))], [(0, some ⟨24, 1, [[.d (encRows S)]]⟩)], 1⟩) ?_ key.h
                refine weak_of [(0, some 0)] rfl (by simp [upT, up, upL, push_cast]) (by simp [upH, upR, upL, up, push_cast]) (by simp [namesOk, push_cast]) (by simp [olds])
          · generalize hN1 : lenL (l.take (i + 1)) = N1 at *
            generalize lenL (l.take i) = N0 at *
            have hc0 : cycTo epsL P 0 = 0 := rfl
            refine Nav.imp ?_
            refine awp_region cx [] fun K hK => ?_
            simp [push_cast]
            repeat (refine And.intro (by clear hK; intros; first | omega | (simp_all; done) | (simp_all <;> omega)) ?_)
            refine hK _ ?_; clear hK K; refine Nav.imp ?_
            refine awp_loop (β := Nat) (fun k => ⟨133, [(1, .ptr 0 0 0), (3, .d (encPs l)), (4, .d (.int .i64 (N0 + cycTo epsL P k))), (5, .d (.int .i64 i)), (6, .d (encCells P)), (7, .d (.int .i64 P.length)), (8, .d (.int .i64 k))], [(0, some ⟨24, 1, [[.d (encRows S)]]⟩)], 1⟩) (fun k => k ≤ P.length) (fun k => P.length - k) 0 ?_ (Nat.zero_le _) ?_
            · refine weak_of [(0, some 0)] rfl (by simp [upT, up, upL, push_cast, hc0]) (by simp [upH, upR, upL, up, push_cast, hc0]) (by simp [namesOk, push_cast]) (by simp [olds])
            · intro k hk
              refine Nav.imp ?_
              refine awp_region cx [] fun K hK => ?_
              simp [push_cast]
              repeat (refine And.intro (by clear hK; intros; first | omega | (simp_all; done) | (simp_all <;> omega)) ?_)
              refine hK _ ?_; clear hK K; refine Nav.imp ?_
              refine awp_cond (b := decide ((k : Int) < P.length)) (by simp [push_cast]) (fun hb => ?_) (fun hb => ?_) <;> (refine Nav.imp ?_)
              · have hkl : k < P.length := by simpa using hb
                obtain ⟨a, ha⟩ := getq hkl
                obtain ⟨b, hb3⟩ := getq (l := P) (k := (k + 1) % P.length) (Nat.mod_lt _ (by omega))
                obtain ⟨d, hd3⟩ := getq (l := P) (k := (k + 2) % P.length) (Nat.mod_lt _ (by omega))
                obtain ⟨f1, f2⟩ := g.flags k a b d ha hb3 hd3
                have hlo := g.low p0 (by rw [List.head?_eq_getElem?]; exact hp0) a (List.mem_of_getElem? ha)
                have c7 := lowerL_ok a p0
                rw [decide_eq_false hlo] at c7
                have na := g.near a (List.mem_of_getElem? ha)
                have nb := g.near b (List.mem_of_getElem? hb3)
                have c8 := size_ok a b na nb
                have hs := cycTo_succ (ε := epsL) ha hb3
                have k0 := hcb k hk
                have k1 := hcb (k + 1) hkl
                have e1 := wrap_i64 (n := (k : Int) + 1) (by omega) (by omega)
                have e2 := wrap_i64 (n := (k : Int) + 2) (by omega) (by omega)
                have e3 : ((k : Int) + 1).tmod (P.length : Int) = (((k + 1) % P.length : Nat) : Int) := (Int.ofNat_tmod _ _).symm
                have e5 : ((k : Int) + 2).tmod (P.length : Int) = (((k + 2) % P.length : Nat) : Int) := (Int.ofNat_tmod _ _).symm
                have e4 : ¬ P = [] := by intro e; rw [e] at hkl; simp at hkl
                generalize hC1 : cycTo epsL P (k + 1) = C1 at *
                generalize cycTo epsL P k = C0 at *
                generalize epsL a b = ep at *
                generalize (k + 1) % P.length = j1 at *
                generalize (k + 2) % P.length = j2 at *
                have w1 := wrap_i64 (n := N0 + C0 + ep) (by omega) (by omega)
                have hs2 : N0 + C1 = N0 + C0 + ep := by omega
                refine awp_region cx [] fun K hK => ?_
                simp [push_cast, ha]
                repeat (refine And.intro (by clear hK; intros; first | omega | (simp_all; done) | (simp_all <;> omega)) ?_)
                refine hK _ ?_; clear hK K; refine Nav.imp ?_
                refine awp_region cx [] fun K hK => ?_
                simp [push_cast, hb3, e1, e3, e4]
                repeat (refine And.intro (by clear hK; intros; first | omega | (simp_all; done) | (simp_all <;> omega)) ?_)
                refine hK _ ?_; clear hK K; refine Nav.imp ?_
                refine awp_region cx [] fun K hK => ?_
                simp [push_cast, hd3, e2, e5, e4]
                repeat (refine And.intro (by clear hK; intros; first | omega | (simp_all; done) | (simp_all <;> omega)) ?_)
                refine hK _ ?_; clear hK K; refine Nav.imp ?_
                generalize hq1 : ((a.x == b.x) == (a.y == b.y)) = q1 at *
                generalize hq2 : ((a.x == b.x) == (b.x == d.x)) = q2 at *
                subst f1
                subst f2
                refine awp_region_draw cx mixed [(29, .p (.bool false))] fun K hK => ?_
                simp [push_cast, hq1, hq2, hp0, c7]
                repeat (refine And.intro (by clear hK; intros; first | omega | (simp_all; done) | (simp_all <;> omega)) ?_)
                refine hK _ _ (by kernel_rfl) ?_; clear hK K; refine Nav.imp ?_
                refine awp_cond (b := false) (by simp [push_cast, hq1, hq2]) (fun hb => ?_) (fun hb => ?_) <;> (refine Nav.imp ?_)
                · simp at hb
                · refine awp_region cx [(3, .p (.int .i64 ep))] fun K hK => ?_
                  simp [push_cast, c8, w1]
                  repeat (refine And.intro (by clear hK; intros; first | omega | (simp_all; done) | (simp_all <;> omega)) ?_)
                  refine hK _ ?_; clear hK K; refine Nav.imp ?_
                  refine awp_region cx [] fun K hK => ?_
                  simp [push_cast, e1]
                  repeat (refine And.intro (by clear hK; intros; first | omega | (simp_all; done) | (simp_all <;> omega)) ?_)
                  refine hK _ ?_; clear hK K; refine Nav.imp ?_
                  refine ⟨k + 1, hkl, by omega, ?_⟩
                  refine weak_of [(0, some 0)] rfl (by simp [upT, up, upL, push_cast, hC1, hs2]) (by simp [upH, upR, upL, up, push_cast, hC1, hs2]) (by simp [namesOk, push_cast]) (by simp [olds])
              · have hke : k = P.length := by simp at hb; omega
                subst hke
                refine awp_region cx [] fun K hK => ?_
                simp [push_cast, e0]
                repeat (refine And.intro (by clear hK; intros; first | omega | (simp_all; done) | (simp_all <;> omega)) ?_)
                refine hK _ ?_; clear hK K; refine Nav.imp ?_
                refine ⟨i + 1, hlt, by omega, ?_⟩
                refine weak_of [(0, some 0)] rfl (by simp [upT, up, upL, push_cast, hN1, hst]) (by simp [upH, upR, upL, up, push_cast, hN1, hst]) (by simp [namesOk, push_cast]) (by simp [olds])
        · have hie : i = l.length := by simp at hb; omega
          subst hie
          rw [hend]
          refine awp_region_draw cx mixed [(2, .p (.int .i64 nc)), (6, .p (.int .i64 (2 * nr))), (8, .p (.int .i64 nr)), (13, .p (.bool true))] fun K hK => ?_
          simp [push_cast, c3, c4, c5, c6, w9]
          repeat (refine And.intro (by clear hK; intros; first | omega | (simp_all; done) | (simp_all <;> omega)) ?_)
          refine hK _ _ (by kernel_rfl) ?_; clear hK K; refine Nav.imp ?_
          simp [push_cast]
set_option maxRecDepth 100000 in
theorem boundaryEdges_lifted (os : Os) (started : os.Started) (H : Type) (enc : TypeId × Value → H) :
    ReturnsInHanded {} Tryz.checked os 8 .any (Rows.boundaryEdgesSpec.pre6 enc Tryz.prog Tryz.f8 Rows.boundaryEdgesRow.domain false) (Rows.boundaryEdgesSpec.post enc Tryz.prog Tryz.f8 false true false false) := by
  refine returnsInHanded_of_change (C := Tryz.checked) own started (by kernel_rfl) Tryz.func8
    (ChangeSpec.witness6 (enc := enc) (C := Tryz.checked) false ⟨#[], #[zeroReg], []⟩ 8 (by kernel_rfl) (by kernel_rfl) (by kernel_rfl) (by kernel_rfl)) ?_
  intro W base args ds gs before hval hW _ _
  exact law_contract rfl (fun ds h => by match ds, h with | [a0], _ => rfl) laidOut (by simp only [Tryz.params8]; intro t ht; simp at ht; rcases ht with rfl <;> exact ⟨by kernel_rfl, of_decide_eq_true (by kernel_rfl)⟩) (by kernel_rfl) rfl Tryz.underlying4
    (fun xs hx => by
      simp only [Tryz.params8, hasVs] at hx
      obtain ⟨x0, r0, rfl, h0, rfl⟩ := hx
      obtain ⟨R, rfl⟩ := arg_region h0
      exact edges_ok R) W base args ds gs before hval hW

theorem boundaryEdges_holds : Rows.BoundaryEdgesSaid :=
  OpenClaim.holds_of_wide 8 Tryz.f8 rfl rfl rfl rfl rfl rfl rfl ⟨rfl, rfl, rfl, rfl, rfl⟩ rfl rfl rfl rfl rfl (by kernel_rfl) Tryz.func8 (by kernel_rfl)
    (of_decide_eq_true (by kernel_rfl)) (by unfold Func.isWrapper; first | (rw [if_pos (by decide +kernel)]; kernel_rfl) | (rw [if_neg (by decide +kernel)]; exact ⟨rfl, rfl⟩))
    (fun os started H enc _ => boundaryEdges_lifted os started H enc)

end Go.Proofs.YtdddknniooimmaaGreat
