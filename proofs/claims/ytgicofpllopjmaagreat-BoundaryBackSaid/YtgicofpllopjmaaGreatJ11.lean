/-
  Texts of this seat put together: BW6, BW7, BW8, T2, T3, T4, T5, T6.
-/
import Derived.Test.YtgicofpllopjmaaGreatJ7
import Derived.Test.YtgicofpllopjmaaGreatJ9
import Derived.Test.YtgicofpllopjmaaGreatJ10
set_option linter.unusedVariables false
set_option linter.unusedSimpArgs false
set_option maxRecDepth 100000
namespace Go.Proofs.YtgicofpllopjmaaGreat
open Go.Abs Go.Shelf

theorem objs_dyn {n : Nat} {tm : List (Nat × AV)} {nxt : Nat} {e m : Nat} {H : List (Nat × Option Ob)} {S : List (List (List D))} (h : (H.all fun x => Nat.blt x.1 1000000) = true) : ∀ j, (⟨n, tm, H ++ dyn e m 0 S, nxt⟩ : St).obj (1000000 + j) = (S[j]?).map fun r => (⟨e, m, dr r⟩ : Ob) := by
  intro j
  simp only [St.obj]
  rw [find_app, find_lowN h (by omega), Option.none_or, find_dyn0]
  cases S[j]? <;> rfl
theorem mdata_kl (A : List (Cell × List Hd)) : mdata (kl A) = cRows A := by simp [mdata, kl, rowL]
theorem runs_bd {l : List Run} (h : fine l = true) : ∀ r ∈ l, -4096 ≤ r.a ∧ r.a < r.b ∧ r.b ≤ 4096 := fun r hr => by
  obtain ⟨_, ha, hb⟩ := fine_apart.1 h
  have := hb r hr
  exact ⟨this.1, ha.1 r hr, this.2⟩
theorem sub_in {l b : List Run} (h : fine l = true) (hb : rvalid b = true) : Apart (sweep fD l b) ∧ ∀ r ∈ sweep fD l b, -4096 ≤ r.a ∧ r.b ≤ 4096 := by
  obtain ⟨h1, h2⟩ := sweep_facts (f := fD) rfl (fine_rv h) hb
  refine ⟨h1, apart_bounds h1 fun y hy => ?_⟩
  rw [h2] at hy
  simp only [fD, Bool.and_eq_true] at hy
  obtain ⟨r, hr, h3, h4⟩ := inR_iff.1 hy.1
  have := runs_bd h r hr
  omega
theorem sub_bd {l b : List Run} (h : fine l = true) (hb : rvalid b = true) : ∀ r ∈ sweep fD l b, -4096 ≤ r.a ∧ r.a < r.b ∧ r.b ≤ 4096 := fun r hr => by
  obtain ⟨h1, h2⟩ := sub_in h hb
  have := h2 r hr
  exact ⟨this.1, h1.1 r hr, this.2⟩
theorem sub_len {l b : List Run} (h : fine l = true) (hb : rvalid b = true) : (sweep fD l b).length ≤ 1000000 := by
  obtain ⟨h1, h2⟩ := sub_in h hb
  have := apart_len h1 h2
  omega
theorem rowOf_len3 {R : List Row} (hR : smallR R) (y : Int) : (rowOf R y).length ≤ 1000000 := by
  unfold rowOf
  cases hf : R.find? (fun w => decide (w.y = y)) with
  | none => simp
  | some w => exact hR.2 w (List.mem_of_find?_eq_some hf)
set_option maxHeartbeats 64000000 in
theorem collect_px (R : List Row) (hv : validR R = true) (hR : smallR R) (hbig : (collectL R).length ≤ 10000000) : PX Tryz.prog 26 [.d (.agg (regRow R))] [] [] [(0, ⟨54, mapM, dr (cRows (addAll [] (collectL R)))⟩)] (.hm 0) := by
  have hl := hR.1
  obtain ⟨full, hfull⟩ : ∃ full, full = collectL R := ⟨_, rfl⟩
  rw [← hfull] at hbig ⊢
  have hrow : ∀ i w, R[i]? = some w → (R.drop i).flatMap (rowCr R) = rowCr R w ++ (R.drop (i + 1)).flatMap (rowCr R) := fun i w h => by rw [drop_get h, List.flatMap_cons]
  have hk0 : (kl []).length ≤ 100000000 := by simp [kl]
  refine px_of_awp cx (fn := Tryz.f26) (c := _) 0 Tryz.func26 rfl rfl (Nat.le_of_ble_eq_true rfl) rfl rfl fun Ls => ?_
  rw [Tryz.ntmps26]; refine Nav.imp ?_
  refine awp_region cx [] fun K hK => ?_
  simp [push_cast]
  repeat (refine And.intro (by clear hK; intros; first | omega | (simp_all; done) | (simp_all <;> omega)) ?_)
  refine hK _ ?_; clear hK K; refine Nav.imp ?_
  refine awp_region cx [] fun K hK => ?_
  simp [push_cast]
  repeat (refine And.intro (by clear hK; intros; first | omega | (simp_all; done) | (simp_all <;> omega)) ?_)
  refine hK _ ?_; clear hK K; refine Nav.imp ?_
  refine awp_region cx [] fun K hK => ?_
  simp [push_cast]
  repeat (refine And.intro (by clear hK; intros; first | omega | (simp_all; done) | (simp_all <;> omega)) ?_)
  refine hK _ ?_; clear hK K; refine Nav.imp ?_
  refine awp_loop (β := Nat × List (Cell × List Hd)) (fun s => ⟨106, [(1, .ptr 0 0 0), (3, .hm 1), (18, .d (encRows R)), (19, .d (.int .i64 R.length)), (20, .d (.int .i64 s.1))], (1, some ⟨54, mapM, mrows (idsN (kl (s.2)).length) (kl (s.2))⟩) :: [(0, some ⟨24, 1, [[.d (encRows R)]]⟩)] ++ dyn 96 1 0 (SA (kl (s.2))), 1000000000000⟩) (fun s => s.1 ≤ R.length ∧ Acc full s.2 ((R.drop s.1).flatMap (rowCr R))) (fun s => R.length - s.1) (0, []) ?_ ⟨Nat.zero_le _, ⟨[], rfl, by simp [hfull, collectL]⟩⟩ ?_
  · refine weak_map (A := kl []) [(0, some 0), (1, some 2)] (idsN (kl []).length) [(0, some ⟨24, 1, [[.d (encRows R)]]⟩)] 1 2 rfl rfl rfl (by omega) (idsN_length _) rfl ?_ rfl ?_ ?_ ?_ ?_ (idsN_nodup _) ?_ ?_
    · simp [upT, up, upL, push_cast, find_app, find_dynN]
    · simp [push_cast, find_dyn, mrows, kl, idsN]
    · simp [upH, upR, upL, up, push_cast, find_app, find_dyn, find_dynN]
    · simp [namesOk, push_cast]
    · simp [olds]
    · intro x hx; simp [kl, idsN] at hx
    · intro q x p hx hp1; simp [kl] at hp1
  · rintro ⟨i, A⟩ ⟨hi, hacc⟩
    simp only at hi hacc
    have ga := hacc.good hbig
    refine Nav.imp ?_
    refine awp_region cx [] fun K hK => ?_
    simp [push_cast]
    repeat (refine And.intro (by clear hK; intros; first | omega | (simp_all; done) | (simp_all <;> omega)) ?_)
    refine hK _ ?_; clear hK K; refine Nav.imp ?_
    refine awp_cond (b := decide ((i : Int) < R.length)) (by simp [push_cast]) (fun hb => ?_) (fun hb => ?_) <;> (refine Nav.imp ?_)
    · have hlt : i < R.length := by simpa using hb
      obtain ⟨w, hw⟩ := getq hlt
      have c1 := around_ok R i w hv hR hw
      have e0 := wrap_i64 (n := (i : Int) + 1) (by omega) (by omega)
      obtain ⟨hy, hfw⟩ := validR_at hv hw
      have hB := rowOf_rv hv (w.y - 1)
      have hU := rowOf_rv hv (w.y + 1)
      have hBl : (rowOf R (w.y - 1)).length ≤ 1000000 := rowOf_len3 hR _
      have hUl : (rowOf R (w.y + 1)).length ≤ 1000000 := rowOf_len3 hR _
      have hwl := hR.2 w (List.mem_of_getElem? hw)
      have c2 := subtract_ok w.runs _ hwl hBl (fine_rv hfw) hB
      have c3 := subtract_ok w.runs _ hwl hUl (fine_rv hfw) hU
      have hL1 := sub_bd hfw hB
      have hL2 := sub_bd hfw hU
      have hrs := runs_bd hfw
      have hR1 := rowCr R w
      rw [hrow i w hw] at hacc
      generalize hT3 : (R.drop (i + 1)).flatMap (rowCr R) = T3 at hacc
      unfold rowCr at hacc
      simp only [List.append_assoc] at hacc
      have hLl1 := sub_len hfw hB
      have hLl2 := sub_len hfw hU
      clear hrow
      obtain ⟨y, rs⟩ := w
      simp only at *
      generalize rowOf R (y - 1) = B at *
      generalize rowOf R (y + 1) = U at *
      generalize sweep fD rs B = L1 at *
      generalize sweep fD rs U = L2 at *
      refine awp_region cx [] fun K hK => ?_
      simp [push_cast, hw]
      repeat (refine And.intro (by clear hK; intros; first | omega | (simp_all; done) | (simp_all <;> omega)) ?_)
      refine hK _ ?_; clear hK K; refine Nav.imp ?_
      refine awp_region cx [(2, .p (.tup [encRuns B, encRuns U]))] fun K hK => ?_
      simp [push_cast, c1]
      repeat (refine And.intro (by clear hK; intros; first | omega | (simp_all; done) | (simp_all <;> omega)) ?_)
      refine hK _ ?_; clear hK K; refine Nav.imp ?_
      refine awp_region cx [(3, .p (encRuns L1))] fun K hK => ?_
      simp [push_cast, c2]
      repeat (refine And.intro (by clear hK; intros; first | omega | (simp_all; done) | (simp_all <;> omega)) ?_)
      refine hK _ ?_; clear hK K; refine Nav.imp ?_
      have hL := hL1
      generalize hT : L2.flatMap (wRun y) ++ (rs.flatMap (vRun y) ++ T3) = T at hacc
      refine awp_loop (β := Nat × List (Cell × List Hd)) (fun s => ⟨106, [(1, .ptr 0 0 0), (3, .hm 1), (18, .d (encRows R)), (19, .d (.int .i64 R.length)), (20, .d (.int .i64 i)), (5, .ptr 2 0 0), (7, .d (encRuns U)), (34, .d (encRuns L1)), (35, .d (.int .i64 L1.length)), (36, .d (.int .i64 s.1))], (1, some ⟨54, mapM, mrows (idsN (kl (s.2)).length) (kl (s.2))⟩) :: [(0, some ⟨24, 1, [[.d (encRows R)]]⟩), (2, some ⟨50, 2, [[.d (.int .i64 y), .d (encRuns rs)]]⟩)] ++ dyn 96 1 0 (SA (kl (s.2))), 1000000000000⟩) (fun s => s.1 ≤ L1.length ∧ Acc full s.2 ((L1.drop s.1).flatMap (eRun y) ++ T)) (fun s => L1.length - s.1) (0, A) ?_ ⟨Nat.zero_le _, by simpa using hacc⟩ ?_
      · refine weak_map (A := kl (A)) [(0, some 0), (1, some 1), (2, some 1000000000004)] (idsN (kl (A)).length) [(0, some ⟨24, 1, [[.d (encRows R)]]⟩), (2, some ⟨50, 2, [[.d (.int .i64 y), .d (encRuns rs)]]⟩)] 1 1 rfl rfl rfl (by have := ga.2.1; omega) (idsN_length _) rfl ?_ rfl ?_ ?_ ?_ ?_ (idsN_nodup _) ?_ ?_
        · simp [upT, up, upL, push_cast, find_app, find_dynN]
        · simp [push_cast, find_dyn]
        · simp [upH, upR, upL, up, push_cast, find_app, find_dyn, find_dynN]
        · simp [namesOk, push_cast]
        · simp [olds]
        · intro x hx; have h1 := idsN_mem.1 hx; have := ga.2.1; simp [olds]; omega
        · intro q x p hx hp1; obtain ⟨hq, rfl⟩ := idsN_get' hx; have := ga.2.1
          have hz := fun (e m : Nat) => SA_find (e := e) (m := m) hp1
          simp [push_cast, find_dyn0, hz]
          repeat rw [if_neg (by omega)]
          try rfl
      · rintro ⟨k, A⟩ ⟨hk, hacc⟩
        simp only at hk hacc
        have gk := hacc.good hbig
        refine Nav.imp ?_
        refine awp_region cx [] fun K hK => ?_
        simp [push_cast]
        repeat (refine And.intro (by clear hK; intros; first | omega | (simp_all; done) | (simp_all <;> omega)) ?_)
        refine hK _ ?_; clear hK K; refine Nav.imp ?_
        refine awp_cond (b := decide ((k : Int) < L1.length)) (by simp [push_cast]) (fun hb => ?_) (fun hb => ?_) <;> (refine Nav.imp ?_)
        · have hlt : k < L1.length := by simpa using hb
          obtain ⟨r, hr⟩ := getq hlt
          have hrb := hL r (List.mem_of_getElem? hr)
          have e0 := wrap_i64 (n := (k : Int) + 1) (by omega) (by omega)
          rw [drop_get hr, List.flatMap_cons, List.append_assoc] at hacc
          refine awp_region cx [] fun K hK => ?_
          simp [push_cast, hr]
          repeat (refine And.intro (by clear hK; intros; first | omega | (simp_all; done) | (simp_all <;> omega)) ?_)
          refine hK _ ?_; clear hK K; refine Nav.imp ?_
          refine awp_region cx [] fun K hK => ?_
          simp [push_cast]
          repeat (refine And.intro (by clear hK; intros; first | omega | (simp_all; done) | (simp_all <;> omega)) ?_)
          refine hK _ ?_; clear hK K; refine Nav.imp ?_
          generalize hT1 : (L1.drop (k + 1)).flatMap (eRun y) ++ T = T1 at hacc
          refine awp_loop (β := Nat × List (Cell × List Hd)) (fun s => ⟨106, [(1, .ptr 0 0 0), (3, .hm 1), (18, .d (encRows R)), (19, .d (.int .i64 R.length)), (20, .d (.int .i64 i)), (5, .ptr 2 0 0), (7, .d (encRuns U)), (34, .d (encRuns L1)), (35, .d (.int .i64 L1.length)), (36, .d (.int .i64 k)), (9, .ptr 3 0 0), (10, .d (.int .i64 (r.a + s.1)))], (1, some ⟨54, mapM, mrows (idsN (kl (s.2)).length) (kl (s.2))⟩) :: [(0, some ⟨24, 1, [[.d (encRows R)]]⟩), (2, some ⟨50, 2, [[.d (.int .i64 y), .d (encRuns rs)]]⟩), (3, some ⟨52, 2, [[.d (.int .i64 r.a), .d (.int .i64 r.b)]]⟩)] ++ dyn 96 1 0 (SA (kl (s.2))), 1000000000000⟩) (fun s => s.1 ≤ (r.b - r.a).toNat ∧ Acc full s.2 ((eRun y r).drop s.1 ++ T1)) (fun s => (r.b - r.a).toNat - s.1) (0, A) ?_ ⟨Nat.zero_le _, by simpa using hacc⟩ ?_
          · simp only [Int.natCast_zero, Int.add_zero]
            refine weak_map (A := kl (A)) [(0, some 0), (1, some 1), (2, some 2), (3, some 1000000000003)] (idsN (kl (A)).length) [(0, some ⟨24, 1, [[.d (encRows R)]]⟩), (2, some ⟨50, 2, [[.d (.int .i64 y), .d (encRuns rs)]]⟩), (3, some ⟨52, 2, [[.d (.int .i64 r.a), .d (.int .i64 r.b)]]⟩)] 1 1 rfl rfl rfl (by have := gk.2.1; omega) (idsN_length _) rfl ?_ rfl ?_ ?_ ?_ ?_ (idsN_nodup _) ?_ ?_
            · simp [upT, up, upL, push_cast, find_app, find_dynN]
            · simp [push_cast, find_dyn]
            · simp [upH, upR, upL, up, push_cast, find_app, find_dyn, find_dynN]
            · simp [namesOk, push_cast]
            · simp [olds]
            · intro x hx; have h1 := idsN_mem.1 hx; have := gk.2.1; simp [olds]; omega
            · intro q x p hx hp1; obtain ⟨hq, rfl⟩ := idsN_get' hx; have := gk.2.1
              have hz := fun (e m : Nat) => SA_find (e := e) (m := m) hp1
              simp [push_cast, find_dyn0, hz]
              repeat rw [if_neg (by omega)]
              try rfl
          · rintro ⟨j, A⟩ ⟨hj, hacc⟩
            simp only at hj hacc
            have gj := hacc.good hbig
            refine Nav.imp ?_
            refine awp_region cx [] fun K hK => ?_
            simp [push_cast]
            repeat (refine And.intro (by clear hK; intros; first | omega | (simp_all; done) | (simp_all <;> omega)) ?_)
            refine hK _ ?_; clear hK K; refine Nav.imp ?_
            refine awp_cond (b := decide (r.a + (j : Int) < r.b)) (by simp [push_cast]) (fun hb => ?_) (fun hb => ?_) <;> (refine Nav.imp ?_)
            · have hjl : j < (r.b - r.a).toNat := by simp at hb; omega
              rw [eRun_drop y r hjl, List.cons_append] at hacc
              have hacc2 := hacc.next
              have gjn := (hacc2.good hbig).2.1
              have e1 := wrap_i64 (n := r.a + (j : Int) + 1) (by omega) (by omega)

              refine awp_region_map cx [] [_, _, _, _, _] _ rfl rfl rfl rfl ⟨106, [(48, .hm 1), (52, .d (.agg (⟨⟨r.a + (j : Int), y⟩, .e⟩ : Crk).p.row)), (1, .ptr 0 0 0), (3, .hm 1), (18, .d (encRows R)), (19, .d (.int .i64 R.length)), (20, .d (.int .i64 i)), (5, .ptr 2 0 0), (7, .d (encRuns U)), (34, .d (encRuns L1)), (35, .d (.int .i64 L1.length)), (36, .d (.int .i64 k)), (9, .ptr 3 0 0), (10, .d (.int .i64 (r.a + j)))], (1, some ⟨54, mapM, mrows (idsN (kl (A)).length) (kl (A))⟩) :: [(0, some ⟨24, 1, [[.d (encRows R)]]⟩), (2, some ⟨50, 2, [[.d (.int .i64 y), .d (encRuns rs)]]⟩), (3, some ⟨52, 2, [[.d (.int .i64 r.a), .d (.int .i64 r.b)]]⟩)] ++ dyn 96 1 0 (SA (kl (A))), 1000000000000⟩ 54 [] rfl [.hm 0, .d (.agg (⟨⟨r.a + (j : Int), y⟩, .e⟩ : Crk).p.row), .d (.int .i64 0)] (kl (A)) (kl (addA (A) (⟨⟨r.a + (j : Int), y⟩, .e⟩ : Crk))) 1 rfl (by decide) (objs_dyn rfl) (Nat.le_refl _) (add_px (A) (⟨⟨r.a + (j : Int), y⟩, .e⟩ : Crk) gj.1 gj.2.2) (by have := gj.2.1; omega) (by have := gjn; omega) (by simp [rnsOk, rn, push_cast]) (Nat.le_of_ble_eq_true rfl) [(0, some 0), (1, some 1), (2, some 2), (3, some 3)] [(1, .ptr 0 0 0), (3, .hm 1), (18, .d (encRows R)), (19, .d (.int .i64 R.length)), (20, .d (.int .i64 i)), (5, .ptr 2 0 0), (7, .d (encRuns U)), (34, .d (encRuns L1)), (35, .d (.int .i64 L1.length)), (36, .d (.int .i64 k)), (9, .ptr 3 0 0), (10, .d (.int .i64 (r.a + j)))] [(0, some ⟨24, 1, [[.d (encRows R)]]⟩), (2, some ⟨50, 2, [[.d (.int .i64 y), .d (encRuns rs)]]⟩), (3, some ⟨52, 2, [[.d (.int .i64 r.a), .d (.int .i64 r.b)]]⟩)] rfl rfl rfl rfl (by intro k hk h; simp only [find] at h; (repeat' split at h) <;> simp_all) rfl ?_ ?_ ?_ ?_ ?_ ?_
              · simp [upT, up, upL, push_cast, find_app, find_dynN]
              · simp [upH, upR, upL, up, push_cast, find_app, find_dyn, find_dynN]
              · simp [namesOk, push_cast]
              · simp [olds]
              · intro K hK
                simp [push_cast]
                refine hK _ ?_
                refine weak_map (A := kl (A)) [(0, some 0), (1, some 1), (2, some 2), (3, some 3)] (idsN (kl (A)).length) [(0, some ⟨24, 1, [[.d (encRows R)]]⟩), (2, some ⟨50, 2, [[.d (.int .i64 y), .d (encRuns rs)]]⟩), (3, some ⟨52, 2, [[.d (.int .i64 r.a), .d (.int .i64 r.b)]]⟩)] 1 1 rfl rfl rfl (by have := gj.2.1; omega) (idsN_length _) rfl ?_ rfl ?_ ?_ ?_ ?_ (idsN_nodup _) ?_ ?_
                · simp [upT, up, upL, push_cast, find_app, find_dynN]
                · simp [push_cast, find_dyn]
                · simp [upH, upR, upL, up, push_cast, find_app, find_dyn, find_dynN]
                · simp [namesOk, push_cast]
                · simp [olds]
                · intro x hx; have h1 := idsN_mem.1 hx; have := gj.2.1; simp [olds]; omega
                · intro q x p hx hp1; obtain ⟨hq, rfl⟩ := idsN_get' hx; have := gj.2.1
                  have hz := fun (e m : Nat) => SA_find (e := e) (m := m) hp1
                  simp [push_cast, find_dyn0, hz]
                  repeat rw [if_neg (by omega)]
                  try rfl
              · refine Nav.imp ?_
                refine awp_region cx [] fun K hK => ?_
                simp [push_cast, e1]
                repeat (refine And.intro (by clear hK; intros; first | omega | (simp_all; done) | (simp_all <;> omega)) ?_)
                refine hK _ ?_; clear hK K; refine Nav.imp ?_
                refine ⟨(j + 1, addA A (⟨⟨r.a + (j : Int), y⟩, .e⟩ : Crk)), ⟨hjl, hacc2⟩, by simp only; omega, ?_⟩
                have e2 : r.a + ((j + 1 : Nat) : Int) = r.a + (j : Int) + 1 := by omega
                simp only [e2]
                refine weak_map (A := kl (addA A (⟨⟨r.a + (j : Int), y⟩, .e⟩ : Crk))) [(0, some 0), (1, some 1), (2, some 2), (3, some 3)] (idsN (kl (addA A (⟨⟨r.a + (j : Int), y⟩, .e⟩ : Crk))).length) [(0, some ⟨24, 1, [[.d (encRows R)]]⟩), (2, some ⟨50, 2, [[.d (.int .i64 y), .d (encRuns rs)]]⟩), (3, some ⟨52, 2, [[.d (.int .i64 r.a), .d (.int .i64 r.b)]]⟩)] 1 1 rfl rfl rfl (by have := gjn; omega) (idsN_length _) rfl ?_ rfl ?_ ?_ ?_ ?_ (idsN_nodup _) ?_ ?_
                · simp [upT, up, upL, push_cast, find_app, find_dynN]
                · simp [push_cast, find_dyn]
                · simp [upH, upR, upL, up, push_cast, find_app, find_dyn, find_dynN]
                · simp [namesOk, push_cast]
                · simp [olds]
                · intro x hx; have h1 := idsN_mem.1 hx; have := gjn; simp [olds]; omega
                · intro q x p hx hp1; obtain ⟨hq, rfl⟩ := idsN_get' hx; have := gjn
                  have hz := fun (e m : Nat) => SA_find (e := e) (m := m) hp1
                  simp [push_cast, find_dyn0, hz]
                  repeat rw [if_neg (by omega)]
                  try rfl
            · have hje : (r.b - r.a).toNat ≤ j := by simp at hb; omega
              rw [eRun_end y r hje, List.nil_append, ← hT1] at hacc
              refine awp_region cx [] fun K hK => ?_
              simp [push_cast, e0]
              repeat (refine And.intro (by clear hK; intros; first | omega | (simp_all; done) | (simp_all <;> omega)) ?_)
              refine hK _ ?_; clear hK K; refine Nav.imp ?_
              refine ⟨(k + 1, A), ⟨hlt, hacc⟩, by simp only; omega, ?_⟩
              refine weak_map (A := kl (A)) [(0, some 0), (1, some 1), (2, some 2)] (idsN (kl (A)).length) [(0, some ⟨24, 1, [[.d (encRows R)]]⟩), (2, some ⟨50, 2, [[.d (.int .i64 y), .d (encRuns rs)]]⟩)] 1 1 rfl rfl rfl (by have := gj.2.1; omega) (idsN_length _) rfl ?_ rfl ?_ ?_ ?_ ?_ (idsN_nodup _) ?_ ?_
              · simp [upT, up, upL, push_cast, find_app, find_dynN]
              · simp [push_cast, find_dyn]
              · simp [upH, upR, upL, up, push_cast, find_app, find_dyn, find_dynN]
              · simp [namesOk, push_cast]
              · simp [olds]
              · intro x hx; have h1 := idsN_mem.1 hx; have := gj.2.1; simp [olds]; omega
              · intro q x p hx hp1; obtain ⟨hq, rfl⟩ := idsN_get' hx; have := gj.2.1
                have hz := fun (e m : Nat) => SA_find (e := e) (m := m) hp1
                simp [push_cast, find_dyn0, hz]
                repeat rw [if_neg (by omega)]
                try rfl
        · have hke : k = L1.length := by simp at hb; omega
          subst hke
          rw [List.drop_length, List.flatMap_nil, List.nil_append] at hacc
          rw [← hT] at hacc
          have ga := hacc.good hbig
          have hL := hL2
          clear hT
          generalize hT : rs.flatMap (vRun y) ++ T3 = T at hacc
          refine awp_region cx [(3, .p (encRuns L2))] fun K hK => ?_
          simp [push_cast, c3]
          repeat (refine And.intro (by clear hK; intros; first | omega | (simp_all; done) | (simp_all <;> omega)) ?_)
          refine hK _ ?_; clear hK K; refine Nav.imp ?_
          refine awp_loop (β := Nat × List (Cell × List Hd)) (fun s => ⟨106, [(1, .ptr 0 0 0), (3, .hm 1), (18, .d (encRows R)), (19, .d (.int .i64 R.length)), (20, .d (.int .i64 i)), (5, .ptr 2 0 0), (58, .d (encRuns L2)), (59, .d (.int .i64 L2.length)), (60, .d (.int .i64 s.1))], (1, some ⟨54, mapM, mrows (idsN (kl (s.2)).length) (kl (s.2))⟩) :: [(0, some ⟨24, 1, [[.d (encRows R)]]⟩), (2, some ⟨50, 2, [[.d (.int .i64 y), .d (encRuns rs)]]⟩)] ++ dyn 96 1 0 (SA (kl (s.2))), 1000000000000⟩) (fun s => s.1 ≤ L2.length ∧ Acc full s.2 ((L2.drop s.1).flatMap (wRun y) ++ T)) (fun s => L2.length - s.1) (0, A) ?_ ⟨Nat.zero_le _, by simpa using hacc⟩ ?_
          · refine weak_map (A := kl (A)) [(0, some 0), (1, some 1), (2, some 2)] (idsN (kl (A)).length) [(0, some ⟨24, 1, [[.d (encRows R)]]⟩), (2, some ⟨50, 2, [[.d (.int .i64 y), .d (encRuns rs)]]⟩)] 1 1 rfl rfl rfl (by have := ga.2.1; omega) (idsN_length _) rfl ?_ rfl ?_ ?_ ?_ ?_ (idsN_nodup _) ?_ ?_
            · simp [upT, up, upL, push_cast, find_app, find_dynN]
            · simp [push_cast, find_dyn]
            · simp [upH, upR, upL, up, push_cast, find_app, find_dyn, find_dynN]
            · simp [namesOk, push_cast]
            · simp [olds]
            · intro x hx; have h1 := idsN_mem.1 hx; have := ga.2.1; simp [olds]; omega
            · intro q x p hx hp1; obtain ⟨hq, rfl⟩ := idsN_get' hx; have := ga.2.1
              have hz := fun (e m : Nat) => SA_find (e := e) (m := m) hp1
              simp [push_cast, find_dyn0, hz]
              repeat rw [if_neg (by omega)]
              try rfl
          · rintro ⟨k, A⟩ ⟨hk, hacc⟩
            simp only at hk hacc
            have gk := hacc.good hbig
            refine Nav.imp ?_
            refine awp_region cx [] fun K hK => ?_
            simp [push_cast]
            repeat (refine And.intro (by clear hK; intros; first | omega | (simp_all; done) | (simp_all <;> omega)) ?_)
            refine hK _ ?_; clear hK K; refine Nav.imp ?_
            refine awp_cond (b := decide ((k : Int) < L2.length)) (by simp [push_cast]) (fun hb => ?_) (fun hb => ?_) <;> (refine Nav.imp ?_)
            · have hlt : k < L2.length := by simpa using hb
              obtain ⟨r, hr⟩ := getq hlt
              have hrb := hL r (List.mem_of_getElem? hr)
              have e0 := wrap_i64 (n := (k : Int) + 1) (by omega) (by omega)
              rw [drop_get hr, List.flatMap_cons, List.append_assoc] at hacc
              refine awp_region cx [] fun K hK => ?_
              simp [push_cast, hr]
              repeat (refine And.intro (by clear hK; intros; first | omega | (simp_all; done) | (simp_all <;> omega)) ?_)
              refine hK _ ?_; clear hK K; refine Nav.imp ?_
              refine awp_region cx [] fun K hK => ?_
              simp [push_cast]
              repeat (refine And.intro (by clear hK; intros; first | omega | (simp_all; done) | (simp_all <;> omega)) ?_)
              refine hK _ ?_; clear hK K; refine Nav.imp ?_
              generalize hT1 : (L2.drop (k + 1)).flatMap (wRun y) ++ T = T1 at hacc
              refine awp_loop (β := Nat × List (Cell × List Hd)) (fun s => ⟨106, [(1, .ptr 0 0 0), (3, .hm 1), (18, .d (encRows R)), (19, .d (.int .i64 R.length)), (20, .d (.int .i64 i)), (5, .ptr 2 0 0), (58, .d (encRuns L2)), (59, .d (.int .i64 L2.length)), (60, .d (.int .i64 k)), (12, .ptr 3 0 0), (13, .d (.int .i64 (r.a + s.1)))], (1, some ⟨54, mapM, mrows (idsN (kl (s.2)).length) (kl (s.2))⟩) :: [(0, some ⟨24, 1, [[.d (encRows R)]]⟩), (2, some ⟨50, 2, [[.d (.int .i64 y), .d (encRuns rs)]]⟩), (3, some ⟨52, 2, [[.d (.int .i64 r.a), .d (.int .i64 r.b)]]⟩)] ++ dyn 96 1 0 (SA (kl (s.2))), 1000000000000⟩) (fun s => s.1 ≤ (r.b - r.a).toNat ∧ Acc full s.2 ((wRun y r).drop s.1 ++ T1)) (fun s => (r.b - r.a).toNat - s.1) (0, A) ?_ ⟨Nat.zero_le _, by simpa using hacc⟩ ?_
              · simp only [Int.natCast_zero, Int.add_zero]
                refine weak_map (A := kl (A)) [(0, some 0), (1, some 1), (2, some 2), (3, some 1000000000003)] (idsN (kl (A)).length) [(0, some ⟨24, 1, [[.d (encRows R)]]⟩), (2, some ⟨50, 2, [[.d (.int .i64 y), .d (encRuns rs)]]⟩), (3, some ⟨52, 2, [[.d (.int .i64 r.a), .d (.int .i64 r.b)]]⟩)] 1 1 rfl rfl rfl (by have := gk.2.1; omega) (idsN_length _) rfl ?_ rfl ?_ ?_ ?_ ?_ (idsN_nodup _) ?_ ?_
                · simp [upT, up, upL, push_cast, find_app, find_dynN]
                · simp [push_cast, find_dyn]
                · simp [upH, upR, upL, up, push_cast, find_app, find_dyn, find_dynN]
                · simp [namesOk, push_cast]
                · simp [olds]
                · intro x hx; have h1 := idsN_mem.1 hx; have := gk.2.1; simp [olds]; omega
                · intro q x p hx hp1; obtain ⟨hq, rfl⟩ := idsN_get' hx; have := gk.2.1
                  have hz := fun (e m : Nat) => SA_find (e := e) (m := m) hp1
                  simp [push_cast, find_dyn0, hz]
                  repeat rw [if_neg (by omega)]
                  try rfl
              · rintro ⟨j, A⟩ ⟨hj, hacc⟩
                simp only at hj hacc
                have gj := hacc.good hbig
                refine Nav.imp ?_
                refine awp_region cx [] fun K hK => ?_
                simp [push_cast]
                repeat (refine And.intro (by clear hK; intros; first | omega | (simp_all; done) | (simp_all <;> omega)) ?_)
                refine hK _ ?_; clear hK K; refine Nav.imp ?_
                refine awp_cond (b := decide (r.a + (j : Int) < r.b)) (by simp [push_cast]) (fun hb => ?_) (fun hb => ?_) <;> (refine Nav.imp ?_)
                · have hjl : j < (r.b - r.a).toNat := by simp at hb; omega
                  rw [wRun_drop y r hjl, List.cons_append] at hacc
                  have hacc2 := hacc.next
                  have gjn := (hacc2.good hbig).2.1
                  have e1 := wrap_i64 (n := r.a + (j : Int) + 1) (by omega) (by omega)
                  have e3 := wrap_i64 (n := y + 1) (by omega) (by omega)
                  refine awp_region_map cx [] [_, _, _, _, _, _, _] _ rfl rfl rfl rfl ⟨106, [(72, .hm 1), (78, .d (.agg (⟨⟨r.a + (j : Int) + 1, y + 1⟩, .w⟩ : Crk).p.row)), (1, .ptr 0 0 0), (3, .hm 1), (18, .d (encRows R)), (19, .d (.int .i64 R.length)), (20, .d (.int .i64 i)), (5, .ptr 2 0 0), (58, .d (encRuns L2)), (59, .d (.int .i64 L2.length)), (60, .d (.int .i64 k)), (12, .ptr 3 0 0), (13, .d (.int .i64 (r.a + j)))], (1, some ⟨54, mapM, mrows (idsN (kl (A)).length) (kl (A))⟩) :: [(0, some ⟨24, 1, [[.d (encRows R)]]⟩), (2, some ⟨50, 2, [[.d (.int .i64 y), .d (encRuns rs)]]⟩), (3, some ⟨52, 2, [[.d (.int .i64 r.a), .d (.int .i64 r.b)]]⟩)] ++ dyn 96 1 0 (SA (kl (A))), 1000000000000⟩ 54 [] rfl [.hm 0, .d (.agg (⟨⟨r.a + (j : Int) + 1, y + 1⟩, .w⟩ : Crk).p.row), .d (.int .i64 2)] (kl (A)) (kl (addA (A) (⟨⟨r.a + (j : Int) + 1, y + 1⟩, .w⟩ : Crk))) 1 rfl (by decide) (objs_dyn rfl) (Nat.le_refl _) (add_px (A) (⟨⟨r.a + (j : Int) + 1, y + 1⟩, .w⟩ : Crk) gj.1 gj.2.2) (by have := gj.2.1; omega) (by have := gjn; omega) (by simp [rnsOk, rn, push_cast]) (Nat.le_of_ble_eq_true rfl) [(0, some 0), (1, some 1), (2, some 2), (3, some 3)] [(1, .ptr 0 0 0), (3, .hm 1), (18, .d (encRows R)), (19, .d (.int .i64 R.length)), (20, .d (.int .i64 i)), (5, .ptr 2 0 0), (58, .d (encRuns L2)), (59, .d (.int .i64 L2.length)), (60, .d (.int .i64 k)), (12, .ptr 3 0 0), (13, .d (.int .i64 (r.a + j)))] [(0, some ⟨24, 1, [[.d (encRows R)]]⟩), (2, some ⟨50, 2, [[.d (.int .i64 y), .d (encRuns rs)]]⟩), (3, some ⟨52, 2, [[.d (.int .i64 r.a), .d (.int .i64 r.b)]]⟩)] rfl rfl rfl rfl (by intro k hk h; simp only [find] at h; (repeat' split at h) <;> simp_all) rfl ?_ ?_ ?_ ?_ ?_ ?_
                  · simp [upT, up, upL, push_cast, find_app, find_dynN]
                  · simp [upH, upR, upL, up, push_cast, find_app, find_dyn, find_dynN]
                  · simp [namesOk, push_cast]
                  · simp [olds]
                  · intro K hK
                    simp [push_cast, e1, e3]
                    refine hK _ ?_
                    refine weak_map (A := kl (A)) [(0, some 0), (1, some 1), (2, some 2), (3, some 3)] (idsN (kl (A)).length) [(0, some ⟨24, 1, [[.d (encRows R)]]⟩), (2, some ⟨50, 2, [[.d (.int .i64 y), .d (encRuns rs)]]⟩), (3, some ⟨52, 2, [[.d (.int .i64 r.a), .d (.int .i64 r.b)]]⟩)] 1 1 rfl rfl rfl (by have := gj.2.1; omega) (idsN_length _) rfl ?_ rfl ?_ ?_ ?_ ?_ (idsN_nodup _) ?_ ?_
                    · simp [upT, up, upL, push_cast, find_app, find_dynN]
                    · simp [push_cast, find_dyn]
                    · simp [upH, upR, upL, up, push_cast, find_app, find_dyn, find_dynN]
                    · simp [namesOk, push_cast]
                    · simp [olds]
                    · intro x hx; have h1 := idsN_mem.1 hx; have := gj.2.1; simp [olds]; omega
                    · intro q x p hx hp1; obtain ⟨hq, rfl⟩ := idsN_get' hx; have := gj.2.1
                      have hz := fun (e m : Nat) => SA_find (e := e) (m := m) hp1
                      simp [push_cast, find_dyn0, hz]
                      repeat rw [if_neg (by omega)]
                      try rfl
                  · refine Nav.imp ?_
                    refine awp_region cx [] fun K hK => ?_
                    simp [push_cast, e1]
                    repeat (refine And.intro (by clear hK; intros; first | omega | (simp_all; done) | (simp_all <;> omega)) ?_)
                    refine hK _ ?_; clear hK K; refine Nav.imp ?_
                    refine ⟨(j + 1, addA A (⟨⟨r.a + (j : Int) + 1, y + 1⟩, .w⟩ : Crk)), ⟨hjl, hacc2⟩, by simp only; omega, ?_⟩
                    have e2 : r.a + ((j + 1 : Nat) : Int) = r.a + (j : Int) + 1 := by omega
                    simp only [e2]
                    refine weak_map (A := kl (addA A (⟨⟨r.a + (j : Int) + 1, y + 1⟩, .w⟩ : Crk))) [(0, some 0), (1, some 1), (2, some 2), (3, some 3)] (idsN (kl (addA A (⟨⟨r.a + (j : Int) + 1, y + 1⟩, .w⟩ : Crk))).length) [(0, some ⟨24, 1, [[.d (encRows R)]]⟩), (2, some ⟨50, 2, [[.d (.int .i64 y), .d (encRuns rs)]]⟩), (3, some ⟨52, 2, [[.d (.int .i64 r.a), .d (.int .i64 r.b)]]⟩)] 1 1 rfl rfl rfl (by have := gjn; omega) (idsN_length _) rfl ?_ rfl ?_ ?_ ?_ ?_ (idsN_nodup _) ?_ ?_
                    · simp [upT, up, upL, push_cast, find_app, find_dynN]
                    · simp [push_cast, find_dyn]
                    · simp [upH, upR, upL, up, push_cast, find_app, find_dyn, find_dynN]
                    · simp [namesOk, push_cast]
                    · simp [olds]
                    · intro x hx; have h1 := idsN_mem.1 hx; have := gjn; simp [olds]; omega
                    · intro q x p hx hp1; obtain ⟨hq, rfl⟩ := idsN_get' hx; have := gjn
                      have hz := fun (e m : Nat) => SA_find (e := e) (m := m) hp1
                      simp [push_cast, find_dyn0, hz]
                      repeat rw [if_neg (by omega)]
                      try rfl
                · have hje : (r.b - r.a).toNat ≤ j := by simp at hb; omega
                  rw [wRun_end y r hje, List.nil_append, ← hT1] at hacc
                  refine awp_region cx [] fun K hK => ?_
                  simp [push_cast, e0]
                  repeat (refine And.intro (by clear hK; intros; first | omega | (simp_all; done) | (simp_all <;> omega)) ?_)
                  refine hK _ ?_; clear hK K; refine Nav.imp ?_
                  refine ⟨(k + 1, A), ⟨hlt, hacc⟩, by simp only; omega, ?_⟩
                  refine weak_map (A := kl (A)) [(0, some 0), (1, some 1), (2, some 2)] (idsN (kl (A)).length) [(0, some ⟨24, 1, [[.d (encRows R)]]⟩), (2, some ⟨50, 2, [[.d (.int .i64 y), .d (encRuns rs)]]⟩)] 1 1 rfl rfl rfl (by have := gj.2.1; omega) (idsN_length _) rfl ?_ rfl ?_ ?_ ?_ ?_ (idsN_nodup _) ?_ ?_
                  · simp [upT, up, upL, push_cast, find_app, find_dynN]
                  · simp [push_cast, find_dyn]
                  · simp [upH, upR, upL, up, push_cast, find_app, find_dyn, find_dynN]
                  · simp [namesOk, push_cast]
                  · simp [olds]
                  · intro x hx; have h1 := idsN_mem.1 hx; have := gj.2.1; simp [olds]; omega
                  · intro q x p hx hp1; obtain ⟨hq, rfl⟩ := idsN_get' hx; have := gj.2.1
                    have hz := fun (e m : Nat) => SA_find (e := e) (m := m) hp1
                    simp [push_cast, find_dyn0, hz]
                    repeat rw [if_neg (by omega)]
                    try rfl
            · have hke : k = L2.length := by simp at hb; omega
              subst hke
              rw [List.drop_length, List.flatMap_nil, List.nil_append] at hacc
              rw [← hT] at hacc
              have ga := hacc.good hbig
              clear hT
              obtain ⟨T, hT⟩ : ∃ T, T = T3 := ⟨_, rfl⟩
              rw [← hT] at hacc
              refine awp_region cx [] fun K hK => ?_
              simp [push_cast]
              repeat (refine And.intro (by clear hK; intros; first | omega | (simp_all; done) | (simp_all <;> omega)) ?_)
              refine hK _ ?_; clear hK K; refine Nav.imp ?_
              refine awp_loop (β := Nat × List (Cell × List Hd)) (fun s => ⟨106, [(1, .ptr 0 0 0), (3, .hm 1), (18, .d (encRows R)), (19, .d (.int .i64 R.length)), (20, .d (.int .i64 i)), (5, .ptr 2 0 0), (82, .d (encRuns rs)), (83, .d (.int .i64 rs.length)), (84, .d (.int .i64 s.1))], (1, some ⟨54, mapM, mrows (idsN (kl (s.2)).length) (kl (s.2))⟩) :: [(0, some ⟨24, 1, [[.d (encRows R)]]⟩), (2, some ⟨50, 2, [[.d (.int .i64 y), .d (encRuns rs)]]⟩)] ++ dyn 96 1 0 (SA (kl (s.2))), 1000000000000⟩) (fun s => s.1 ≤ rs.length ∧ Acc full s.2 ((rs.drop s.1).flatMap (vRun y) ++ T)) (fun s => rs.length - s.1) (0, A) ?_ ⟨Nat.zero_le _, by simpa using hacc⟩ ?_
              · refine weak_map (A := kl (A)) [(0, some 0), (1, some 1), (2, some 2)] (idsN (kl (A)).length) [(0, some ⟨24, 1, [[.d (encRows R)]]⟩), (2, some ⟨50, 2, [[.d (.int .i64 y), .d (encRuns rs)]]⟩)] 1 1 rfl rfl rfl (by have := ga.2.1; omega) (idsN_length _) rfl ?_ rfl ?_ ?_ ?_ ?_ (idsN_nodup _) ?_ ?_
                · simp [upT, up, upL, push_cast, find_app, find_dynN]
                · simp [push_cast, find_dyn]
                · simp [upH, upR, upL, up, push_cast, find_app, find_dyn, find_dynN]
                · simp [namesOk, push_cast]
                · simp [olds]
                · intro x hx; have h1 := idsN_mem.1 hx; have := ga.2.1; simp [olds]; omega
                · intro q x p hx hp1; obtain ⟨hq, rfl⟩ := idsN_get' hx; have := ga.2.1
                  have hz := fun (e m : Nat) => SA_find (e := e) (m := m) hp1
                  simp [push_cast, find_dyn0, hz]
                  repeat rw [if_neg (by omega)]
                  try rfl
              · rintro ⟨k, A⟩ ⟨hk, hacc⟩
                simp only at hk hacc
                have gk := hacc.good hbig
                refine Nav.imp ?_
                refine awp_region cx [] fun K hK => ?_
                simp [push_cast]
                repeat (refine And.intro (by clear hK; intros; first | omega | (simp_all; done) | (simp_all <;> omega)) ?_)
                refine hK _ ?_; clear hK K; refine Nav.imp ?_
                refine awp_cond (b := decide ((k : Int) < rs.length)) (by simp [push_cast]) (fun hb => ?_) (fun hb => ?_) <;> (refine Nav.imp ?_)
                · have hlt : k < rs.length := by simpa using hb
                  obtain ⟨r, hr⟩ := getq hlt
                  have hrb := hrs r (List.mem_of_getElem? hr)
                  have e0 := wrap_i64 (n := (k : Int) + 1) (by omega) (by omega)
                  have e3 := wrap_i64 (n := y + 1) (by omega) (by omega)
                  rw [drop_get hr, List.flatMap_cons, List.append_assoc] at hacc
                  have hacc2 : Acc full (addA A (⟨⟨r.b, y⟩, .n⟩ : Crk)) ((⟨⟨r.a, y + 1⟩, .s⟩ : Crk) :: ((rs.drop (k + 1)).flatMap (vRun y) ++ T)) := hacc.next
                  have g2 := hacc2.good hbig
                  have gkn := g2.2.1
                  have hacc3 := hacc2.next
                  have g2n := (hacc3.good hbig).2.1
                  refine awp_region cx [] fun K hK => ?_
                  simp [push_cast, hr]
                  repeat (refine And.intro (by clear hK; intros; first | omega | (simp_all; done) | (simp_all <;> omega)) ?_)
                  refine hK _ ?_; clear hK K; refine Nav.imp ?_
                  refine awp_weak (s' := ⟨106, [(1, .ptr 0 0 0), (3, .hm 1), (18, .d (encRows R)), (19, .d (.int .i64 R.length)), (20, .d (.int .i64 i)), (5, .ptr 2 0 0), (82, .d (encRuns rs)), (83, .d (.int .i64 rs.length)), (84, .d (.int .i64 k)), (15, .ptr 3 0 0)], (1, some ⟨54, mapM, mrows (idsN (kl (A)).length) (kl (A))⟩) :: [(0, some ⟨24, 1, [[.d (encRows R)]]⟩), (2, some ⟨50, 2, [[.d (.int .i64 y), .d (encRuns rs)]]⟩), (3, some ⟨52, 2, [[.d (.int .i64 r.a), .d (.int .i64 r.b)]]⟩)] ++ dyn 96 1 0 (SA (kl (A))), 1000000000000⟩) ?_ ?_
                  · refine weak_map (A := kl (A)) [(0, some 0), (1, some 1), (2, some 2), (3, some 1000000000003)] (idsN (kl (A)).length) [(0, some ⟨24, 1, [[.d (encRows R)]]⟩), (2, some ⟨50, 2, [[.d (.int .i64 y), .d (encRuns rs)]]⟩), (3, some ⟨52, 2, [[.d (.int .i64 r.a), .d (.int .i64 r.b)]]⟩)] 1 1 rfl rfl rfl (by have := gk.2.1; omega) (idsN_length _) rfl ?_ rfl ?_ ?_ ?_ ?_ (idsN_nodup _) ?_ ?_
                    · simp [upT, up, upL, push_cast, find_app, find_dynN]
                    · simp [push_cast, find_dyn]
                    · simp [upH, upR, upL, up, push_cast, find_app, find_dyn, find_dynN]
                    · simp [namesOk, push_cast]
                    · simp [olds]
                    · intro x hx; have h1 := idsN_mem.1 hx; have := gk.2.1; simp [olds]; omega
                    · intro q x p hx hp1; obtain ⟨hq, rfl⟩ := idsN_get' hx; have := gk.2.1
                      have hz := fun (e m : Nat) => SA_find (e := e) (m := m) hp1
                      simp [push_cast, find_dyn0, hz]
                      repeat rw [if_neg (by omega)]
                      try rfl
                  · refine awp_region_map cx [] [_, _, _, _, _, _] _ rfl rfl rfl rfl ⟨106, [(88, .hm 1), (93, .d (.agg (⟨⟨r.b, y⟩, .n⟩ : Crk).p.row)), (1, .ptr 0 0 0), (3, .hm 1), (18, .d (encRows R)), (19, .d (.int .i64 R.length)), (20, .d (.int .i64 i)), (5, .ptr 2 0 0), (82, .d (encRuns rs)), (83, .d (.int .i64 rs.length)), (84, .d (.int .i64 k)), (15, .ptr 3 0 0)], (1, some ⟨54, mapM, mrows (idsN (kl (A)).length) (kl (A))⟩) :: [(0, some ⟨24, 1, [[.d (encRows R)]]⟩), (2, some ⟨50, 2, [[.d (.int .i64 y), .d (encRuns rs)]]⟩), (3, some ⟨52, 2, [[.d (.int .i64 r.a), .d (.int .i64 r.b)]]⟩)] ++ dyn 96 1 0 (SA (kl (A))), 1000000000000⟩ 54 [] rfl [.hm 0, .d (.agg (⟨⟨r.b, y⟩, .n⟩ : Crk).p.row), .d (.int .i64 1)] (kl (A)) (kl (addA (A) (⟨⟨r.b, y⟩, .n⟩ : Crk))) 1 rfl (by decide) (objs_dyn rfl) (Nat.le_refl _) (add_px (A) (⟨⟨r.b, y⟩, .n⟩ : Crk) gk.1 gk.2.2) (by have := gk.2.1; omega) (by have := gkn; omega) (by simp [rnsOk, rn, push_cast]) (Nat.le_of_ble_eq_true rfl) [(0, some 0), (1, some 1), (2, some 2), (3, some 3)] [(1, .ptr 0 0 0), (3, .hm 1), (18, .d (encRows R)), (19, .d (.int .i64 R.length)), (20, .d (.int .i64 i)), (5, .ptr 2 0 0), (82, .d (encRuns rs)), (83, .d (.int .i64 rs.length)), (84, .d (.int .i64 k)), (15, .ptr 3 0 0)] [(0, some ⟨24, 1, [[.d (encRows R)]]⟩), (2, some ⟨50, 2, [[.d (.int .i64 y), .d (encRuns rs)]]⟩), (3, some ⟨52, 2, [[.d (.int .i64 r.a), .d (.int .i64 r.b)]]⟩)] rfl rfl rfl rfl (by intro k hk h; simp only [find] at h; (repeat' split at h) <;> simp_all) rfl ?_ ?_ ?_ ?_ ?_ ?_
                    · simp [upT, up, upL, push_cast, find_app, find_dynN]
                    · simp [upH, upR, upL, up, push_cast, find_app, find_dyn, find_dynN]
                    · simp [namesOk, push_cast]
                    · simp [olds]
                    · intro K hK
                      simp [push_cast]
                      refine hK _ ?_
                      refine weak_map (A := kl (A)) [(0, some 0), (1, some 1), (2, some 2), (3, some 3)] (idsN (kl (A)).length) [(0, some ⟨24, 1, [[.d (encRows R)]]⟩), (2, some ⟨50, 2, [[.d (.int .i64 y), .d (encRuns rs)]]⟩), (3, some ⟨52, 2, [[.d (.int .i64 r.a), .d (.int .i64 r.b)]]⟩)] 1 1 rfl rfl rfl (by have := gk.2.1; omega) (idsN_length _) rfl ?_ rfl ?_ ?_ ?_ ?_ (idsN_nodup _) ?_ ?_
                      · simp [upT, up, upL, push_cast, find_app, find_dynN]
                      · simp [push_cast, find_dyn]
                      · simp [upH, upR, upL, up, push_cast, find_app, find_dyn, find_dynN]
                      · simp [namesOk, push_cast]
                      · simp [olds]
                      · intro x hx; have h1 := idsN_mem.1 hx; have := gk.2.1; simp [olds]; omega
                      · intro q x p hx hp1; obtain ⟨hq, rfl⟩ := idsN_get' hx; have := gk.2.1
                        have hz := fun (e m : Nat) => SA_find (e := e) (m := m) hp1
                        simp [push_cast, find_dyn0, hz]
                        repeat rw [if_neg (by omega)]
                        try rfl
                    · refine Nav.imp ?_
                      refine awp_region_map cx [] [_, _, _, _, _, _, _] _ rfl rfl rfl rfl ⟨106, [(95, .hm 1), (101, .d (.agg (⟨⟨r.a, y + 1⟩, .s⟩ : Crk).p.row)), (1, .ptr 0 0 0), (3, .hm 1), (18, .d (encRows R)), (19, .d (.int .i64 R.length)), (20, .d (.int .i64 i)), (5, .ptr 2 0 0), (82, .d (encRuns rs)), (83, .d (.int .i64 rs.length)), (84, .d (.int .i64 k)), (15, .ptr 3 0 0)], (1, some ⟨54, mapM, mrows (idsN (kl ((addA A (⟨⟨r.b, y⟩, .n⟩ : Crk)))).length) (kl ((addA A (⟨⟨r.b, y⟩, .n⟩ : Crk))))⟩) :: [(0, some ⟨24, 1, [[.d (encRows R)]]⟩), (2, some ⟨50, 2, [[.d (.int .i64 y), .d (encRuns rs)]]⟩), (3, some ⟨52, 2, [[.d (.int .i64 r.a), .d (.int .i64 r.b)]]⟩)] ++ dyn 96 1 0 (SA (kl ((addA A (⟨⟨r.b, y⟩, .n⟩ : Crk))))), 1000000000000⟩ 54 [] rfl [.hm 0, .d (.agg (⟨⟨r.a, y + 1⟩, .s⟩ : Crk).p.row), .d (.int .i64 3)] (kl ((addA A (⟨⟨r.b, y⟩, .n⟩ : Crk)))) (kl (addA ((addA A (⟨⟨r.b, y⟩, .n⟩ : Crk))) (⟨⟨r.a, y + 1⟩, .s⟩ : Crk))) 1 rfl (by decide) (objs_dyn rfl) (Nat.le_refl _) (add_px ((addA A (⟨⟨r.b, y⟩, .n⟩ : Crk))) (⟨⟨r.a, y + 1⟩, .s⟩ : Crk) g2.1 g2.2.2) (by have := g2.2.1; omega) (by have := g2n; omega) (by simp [rnsOk, rn, push_cast]) (Nat.le_of_ble_eq_true rfl) [(0, some 0), (1, some 1), (2, some 2), (3, some 3)] [(1, .ptr 0 0 0), (3, .hm 1), (18, .d (encRows R)), (19, .d (.int .i64 R.length)), (20, .d (.int .i64 i)), (5, .ptr 2 0 0), (82, .d (encRuns rs)), (83, .d (.int .i64 rs.length)), (84, .d (.int .i64 k)), (15, .ptr 3 0 0)] [(0, some ⟨24, 1, [[.d (encRows R)]]⟩), (2, some ⟨50, 2, [[.d (.int .i64 y), .d (encRuns rs)]]⟩), (3, some ⟨52, 2, [[.d (.int .i64 r.a), .d (.int .i64 r.b)]]⟩)] rfl rfl rfl rfl (by intro k hk h; simp only [find] at h; (repeat' split at h) <;> simp_all) rfl ?_ ?_ ?_ ?_ ?_ ?_
                      · simp [upT, up, upL, push_cast, find_app, find_dynN]
                      · simp [upH, upR, upL, up, push_cast, find_app, find_dyn, find_dynN]
                      · simp [namesOk, push_cast]
                      · simp [olds]
                      · intro K hK
                        simp [push_cast, e3]
                        refine hK _ ?_
                        refine weak_map (A := kl ((addA A (⟨⟨r.b, y⟩, .n⟩ : Crk)))) [(0, some 0), (1, some 1), (2, some 2), (3, some 3)] (idsN (kl ((addA A (⟨⟨r.b, y⟩, .n⟩ : Crk)))).length) [(0, some ⟨24, 1, [[.d (encRows R)]]⟩), (2, some ⟨50, 2, [[.d (.int .i64 y), .d (encRuns rs)]]⟩), (3, some ⟨52, 2, [[.d (.int .i64 r.a), .d (.int .i64 r.b)]]⟩)] 1 1 rfl rfl rfl (by have := g2.2.1; omega) (idsN_length _) rfl ?_ rfl ?_ ?_ ?_ ?_ (idsN_nodup _) ?_ ?_
                        · simp [upT, up, upL, push_cast, find_app, find_dynN]
                        · simp [push_cast, find_dyn]
                        · simp [upH, upR, upL, up, push_cast, find_app, find_dyn, find_dynN]
                        · simp [namesOk, push_cast]
                        · simp [olds]
                        · intro x hx; have h1 := idsN_mem.1 hx; have := g2.2.1; simp [olds]; omega
                        · intro q x p hx hp1; obtain ⟨hq, rfl⟩ := idsN_get' hx; have := g2.2.1
                          have hz := fun (e m : Nat) => SA_find (e := e) (m := m) hp1
                          simp [push_cast, find_dyn0, hz]
                          repeat rw [if_neg (by omega)]
                          try rfl
                      · refine Nav.imp ?_
                        refine awp_region cx [] fun K hK => ?_
                        simp [push_cast, e0]
                        repeat (refine And.intro (by clear hK; intros; first | omega | (simp_all; done) | (simp_all <;> omega)) ?_)
                        refine hK _ ?_; clear hK K; refine Nav.imp ?_
                        refine ⟨(k + 1, addA (addA A (⟨⟨r.b, y⟩, .n⟩ : Crk)) (⟨⟨r.a, y + 1⟩, .s⟩ : Crk)), ⟨hlt, hacc3⟩, by simp only; omega, ?_⟩
                        refine weak_map (A := kl (addA (addA A (⟨⟨r.b, y⟩, .n⟩ : Crk)) (⟨⟨r.a, y + 1⟩, .s⟩ : Crk))) [(0, some 0), (1, some 1), (2, some 2)] (idsN (kl (addA (addA A (⟨⟨r.b, y⟩, .n⟩ : Crk)) (⟨⟨r.a, y + 1⟩, .s⟩ : Crk))).length) [(0, some ⟨24, 1, [[.d (encRows R)]]⟩), (2, some ⟨50, 2, [[.d (.int .i64 y), .d (encRuns rs)]]⟩)] 1 1 rfl rfl rfl (by have := g2n; omega) (idsN_length _) rfl ?_ rfl ?_ ?_ ?_ ?_ (idsN_nodup _) ?_ ?_
                        · simp [upT, up, upL, push_cast, find_app, find_dynN]
                        · simp [push_cast, find_dyn]
                        · simp [upH, upR, upL, up, push_cast, find_app, find_dyn, find_dynN]
                        · simp [namesOk, push_cast]
                        · simp [olds]
                        · intro x hx; have h1 := idsN_mem.1 hx; have := g2n; simp [olds]; omega
                        · intro q x p hx hp1; obtain ⟨hq, rfl⟩ := idsN_get' hx; have := g2n
                          have hz := fun (e m : Nat) => SA_find (e := e) (m := m) hp1
                          simp [push_cast, find_dyn0, hz]
                          repeat rw [if_neg (by omega)]
                          try rfl
                · have hke : k = rs.length := by simp at hb; omega
                  subst hke
                  rw [List.drop_length, List.flatMap_nil, List.nil_append] at hacc
                  refine awp_region cx [] fun K hK => ?_
                  simp [push_cast, e0]
                  repeat (refine And.intro (by clear hK; intros; first | omega | (simp_all; done) | (simp_all <;> omega)) ?_)
                  refine hK _ ?_; clear hK K; refine Nav.imp ?_
                  refine ⟨(i + 1, A), ⟨hlt, by rw [hT, ← hT3] at hacc; exact hacc⟩, by simp only; omega, ?_⟩
                  refine weak_map (A := kl (A)) [(0, some 0), (1, some 1)] (idsN (kl (A)).length) [(0, some ⟨24, 1, [[.d (encRows R)]]⟩)] 1 1 rfl rfl rfl (by have := gk.2.1; omega) (idsN_length _) rfl ?_ rfl ?_ ?_ ?_ ?_ (idsN_nodup _) ?_ ?_
                  · simp [upT, up, upL, push_cast, find_app, find_dynN]
                  · simp [push_cast, find_dyn]
                  · simp [upH, upR, upL, up, push_cast, find_app, find_dyn, find_dynN]
                  · simp [namesOk, push_cast]
                  · simp [olds]
                  · intro x hx; have h1 := idsN_mem.1 hx; have := gk.2.1; simp [olds]; omega
                  · intro q x p hx hp1; obtain ⟨hq, rfl⟩ := idsN_get' hx; have := gk.2.1
                    have hz := fun (e m : Nat) => SA_find (e := e) (m := m) hp1
                    simp [push_cast, find_dyn0, hz]
                    repeat rw [if_neg (by omega)]
                    try rfl
    · have hie : i = R.length := by simp at hb; omega
      subst hie
      rw [List.drop_length, List.flatMap_nil] at hacc
      obtain ⟨pre, hpre, hfe⟩ := hacc
      rw [List.append_nil] at hfe
      subst hfe
      subst hpre
      generalize hAA : addAll [] full = AA at *
      refine awp_weak (s' := ⟨106, [(3, .hm 1)], (1, some ⟨54, mapM, mrows (idsN (kl (AA)).length) (kl (AA))⟩) :: [] ++ dyn 96 1 0 (SA (kl (AA))), 1000000000000⟩) ?_ ?_
      · refine weak_map (A := kl (AA)) [(1, some 1)] (idsN (kl (AA)).length) [] 1 1 rfl rfl rfl (by have := ga.2.1; omega) (idsN_length _) rfl ?_ rfl ?_ ?_ ?_ ?_ (idsN_nodup _) ?_ ?_
        · simp [upT, up, upL, push_cast, find_app, find_dynN]
        · simp [push_cast, find_dyn]
        · simp [upH, upR, upL, up, push_cast, find_app, find_dyn, find_dynN]
        · simp [namesOk, push_cast]
        · simp [olds]
        · intro x hx; have h1 := idsN_mem.1 hx; have := ga.2.1; simp [olds]; omega
        · intro q x p hx hp1; obtain ⟨hq, rfl⟩ := idsN_get' hx; have := ga.2.1
          have hz := fun (e m : Nat) => SA_find (e := e) (m := m) hp1
          simp [push_cast, find_dyn0, hz]
          repeat rw [if_neg (by omega)]
          try rfl
      · refine awp_weak (weak_fzmap (by decide) rfl (kl AA)) ?_
        rw [mdata_kl]
        refine awp_region cx [] fun K hK => ?_
        simp [push_cast]
        repeat (refine And.intro (by clear hK; intros; first | omega | (simp_all; done) | (simp_all <;> omega)) ?_)
        refine hK _ ?_; clear hK K; refine Nav.imp ?_
        first | refine rx_r [(0, 1)] ?_ | refine rx_n [(0, 1)] ?_
        simp [push_cast]
        try decide
end Go.Proofs.YtgicofpllopjmaaGreat

namespace Go.Proofs.YtgicofpllopjmaaGreat
open Go.Abs Go.Shelf Go.RowKit Go.Lib Go.Sort

def sortPt_ren : Go.Shelf.Ren := ⟨fun | 6 => 27 | 15 => 56 | 14 => 55 | 28 => 86 | 29 => 87 | 20 => 78 | 21 => 79 | 22 => 80 | 23 => 81 | 24 => 82 | 25 => 83 | 26 => 84 | 27 => 85 | 46 => 112 | 47 => 113 | 48 => 114 | 49 => 115 | 50 => 116 | 57 => 131 | n => n, fun | 22 => 38 | 24 => 43 | 25 => 44 | 3 => 3 | 39 => 99 | 0 => 0 | 53 => 129 | 55 => 131 | 4 => 4 | 46 => 122 | 45 => 121 | 50 => 126 | 5 => 5 | 9 => 9 | 66 => 152 | 70 => 156 | 76 => 166 | 77 => 167 | n => n, fun n => n⟩
theorem sortPt_lays : SlLaysF0.n6 Tryz.prog sortPt_ren where
  mixed := by kernel_rfl
  f6 := ⟨Tryz.f27.name, by kernel_rfl, Tryz.func27.trans (congrArg some (by kernel_rfl))⟩
  f14 := ⟨Tryz.f55.name, by kernel_rfl, Tryz.func55.trans (congrArg some (by kernel_rfl))⟩
  f15 := Tryz.func56.trans (congrArg some (by kernel_rfl))
  f20 := ⟨Tryz.f78.name, by kernel_rfl, Tryz.func78.trans (congrArg some (by kernel_rfl))⟩
  f21 := ⟨Tryz.f79.name, by kernel_rfl, Tryz.func79.trans (congrArg some (by kernel_rfl))⟩
  f22 := ⟨Tryz.f80.name, by kernel_rfl, Tryz.func80.trans (congrArg some (by kernel_rfl))⟩
  f23 := ⟨Tryz.f81.name, by kernel_rfl, Tryz.func81.trans (congrArg some (by kernel_rfl))⟩
  f24 := ⟨Tryz.f82.name, by kernel_rfl, Tryz.func82.trans (congrArg some (by kernel_rfl))⟩
  f25 := ⟨Tryz.f83.name, by kernel_rfl, Tryz.func83.trans (congrArg some (by kernel_rfl))⟩
  f26 := ⟨Tryz.f84.name, by kernel_rfl, Tryz.func84.trans (congrArg some (by kernel_rfl))⟩
  f27 := ⟨Tryz.f85.name, by kernel_rfl, Tryz.func85.trans (congrArg some (by kernel_rfl))⟩
  f28 := Tryz.func86.trans (congrArg some (by kernel_rfl))
  f29 := Tryz.func87.trans (congrArg some (by kernel_rfl))
  f46 := ⟨Tryz.f112.name, by kernel_rfl, Tryz.func112.trans (congrArg some (by kernel_rfl))⟩
  f47 := Tryz.func113.trans (congrArg some (by kernel_rfl))
  f48 := Tryz.func114.trans (congrArg some (by kernel_rfl))
  f49 := ⟨Tryz.f115.name, by kernel_rfl, Tryz.func115.trans (congrArg some (by kernel_rfl))⟩
  f50 := ⟨Tryz.f116.name, by kernel_rfl, Tryz.func116.trans (congrArg some (by kernel_rfl))⟩
  f57 := ⟨Tryz.f131.name, by kernel_rfl, Tryz.func131.trans (congrArg some (by kernel_rfl))⟩
  t0 := Tryz.underlying0
  a0 := Tryz.isAgg0
  z0 := Tryz.sizeOf0
  v0 := Tryz.zeroValue0
  t3 := Tryz.underlying3
  a3 := Tryz.isAgg3
  z3 := Tryz.sizeOf3
  v3 := Tryz.zeroValue3
  t4 := Tryz.underlying4
  a4 := Tryz.isAgg4
  z4 := Tryz.sizeOf4
  v4 := Tryz.zeroValue4
  t5 := Tryz.underlying5
  a5 := Tryz.isAgg5
  z5 := Tryz.sizeOf5
  v5 := Tryz.zeroValue5
  t9 := Tryz.underlying9
  a9 := Tryz.isAgg9
  z9 := Tryz.sizeOf9
  v9 := Tryz.zeroValue9
  t22 := Tryz.underlying38
  a22 := Tryz.isAgg38
  z22 := Tryz.sizeOf38
  v22 := Tryz.zeroValue38
  t25 := Tryz.underlying44
  a25 := Tryz.isAgg44
  z25 := Tryz.sizeOf44
  v25 := Tryz.zeroValue44
  t39 := Tryz.underlying99
  a39 := Tryz.isAgg99
  z39 := Tryz.sizeOf99
  v39 := Tryz.zeroValue99
  t45 := Tryz.underlying121
  a45 := Tryz.isAgg121
  z45 := Tryz.sizeOf121
  v45 := Tryz.zeroValue121
  t46 := Tryz.underlying122
  a46 := Tryz.isAgg122
  z46 := Tryz.sizeOf122
  v46 := Tryz.zeroValue122
  t50 := Tryz.underlying126
  a50 := Tryz.isAgg126
  z50 := Tryz.sizeOf126
  v50 := Tryz.zeroValue126
  t53 := Tryz.underlying129
  a53 := Tryz.isAgg129
  z53 := Tryz.sizeOf129
  v53 := Tryz.zeroValue129
  t55 := Tryz.underlying131
  a55 := Tryz.isAgg131
  z55 := Tryz.sizeOf131
  v55 := Tryz.zeroValue131
  t66 := Tryz.underlying152
  a66 := Tryz.isAgg152
  z66 := Tryz.sizeOf152
  v66 := Tryz.zeroValue152
  t70 := Tryz.underlying156
  a70 := Tryz.isAgg156
  z70 := Tryz.sizeOf156
  v70 := Tryz.zeroValue156
  t76 := Tryz.underlying166
  a76 := Tryz.isAgg166
  z76 := Tryz.sizeOf166
  v76 := Tryz.zeroValue166
  t77 := Tryz.underlying167
  a77 := Tryz.isAgg167
  z77 := Tryz.sizeOf167
  v77 := Tryz.zeroValue167
def cfP : List D → List D → Int
  | [.int _ ax, .int _ ay], [.int _ bx, .int _ by'] => if ay ≠ by' then ay - by' else ax - bx
  | _, _ => 0
def nearC (c : Cell) : Prop := -100000 ≤ c.x ∧ c.x ≤ 100000 ∧ -100000 ≤ c.y ∧ c.y ≤ 100000
def VP (r : List D) : Prop := ∃ c : Cell, r = c.row ∧ nearC c
set_option maxHeartbeats 1000000 in
theorem cmpP_ok : CmpOk Tryz.prog 28 VP cfP := by
  rintro ro w a b va vb hro ⟨⟨ax, ay⟩, rfl, h1⟩ ⟨⟨bx, by'⟩, rfl, h2⟩ ha hb _ _
  simp only [nearC] at h1 h2
  simp only [Cell.row, RepDs, RepD] at ha hb
  obtain ⟨_, _, rfl, rfl, _, _, rfl, rfl, rfl⟩ := ha
  obtain ⟨_, _, rfl, rfl, _, _, rfl, rfl, rfl⟩ := hb
  have w1 : IntKind.i64.wrap (ax - bx) = ax - bx := wrap_i64 (by omega) (by omega)
  have w2 : IntKind.i64.wrap (ay - by') = ay - by' := wrap_i64 (by omega) (by omega)
  go_enter Tryz.func28, Tryz.ntmps28
  go_wp2
  · rename_i h
    go_ret
    refine ⟨?_, 0, _, by rw [alloc_eq_grow, alloc_eq_grow, grow_grow]; rfl⟩
    simp at h
    simp [cfP, h]
  · rename_i h
    go_ret
    refine ⟨?_, 0, _, by rw [alloc_eq_grow, alloc_eq_grow, grow_grow]; rfl⟩
    simp at h
    simp [cfP, h]
theorem cfP_ord : CmpOrd VP cfP where
  irrefl := by rintro _ ⟨⟨ax, ay⟩, rfl, _⟩; simp [cfP, Cell.row]
  trans := by
    rintro _ _ _ ⟨⟨ax, ay⟩, rfl, _⟩ ⟨⟨bx, by'⟩, rfl, _⟩ ⟨⟨dx, dy⟩, rfl, _⟩
    simp only [cfP, Cell.row]
    intro h1 h2
    split at h1 <;> split at h2 <;> split <;> omega
  ntrans := by
    rintro _ _ _ ⟨⟨ax, ay⟩, rfl, _⟩ ⟨⟨bx, by'⟩, rfl, _⟩ ⟨⟨dx, dy⟩, rfl, _⟩
    simp only [cfP, Cell.row]
    intro h1 h2
    split at h1 <;> split at h2 <;> split <;> omega
theorem cfP_cells (a b : Cell) : cfP a.row b.row < 0 ↔ lowC a b := by
  obtain ⟨ax, ay⟩ := a
  obtain ⟨bx, by'⟩ := b
  simp only [cfP, Cell.row, lowC]
  split <;> omega
theorem sortPt_px (l s : List Cell) (hp : s.Perm l) (hs : s.Pairwise lowC) (hon : ∀ c ∈ l, nearC c) (hl : l.length ≤ 100000000) : PX Tryz.prog 27 [.hs 0 0 l.length, .d (.fn (.func 28) [])] [(0, ⟨43, 2, dr (l.map Cell.row)⟩)] [(0, 0)] [(0, ⟨43, 2, dr (s.map Cell.row)⟩)] (.tup []) := by
  have h := sortFunc_all (P := Tryz.prog) sortPt_lays (k := 2) (by decide) (fun w => by kernel_rfl) (fun w => by kernel_rfl) ⟨_, Tryz.func27, by kernel_rfl, by kernel_rfl⟩ (cg := 28) (fun args w => by kernel_rfl) cmpP_ok cfP_ord 43 (rows := l.map Cell.row) (rows' := s.map Cell.row)
    (fun r hr => by obtain ⟨c, hc, rfl⟩ := List.mem_map.1 hr; exact ⟨c, rfl, hon c hc⟩)
    (fun a ha b hb h1 h2 => by
      obtain ⟨c, hc, rfl⟩ := List.mem_map.1 ha
      obtain ⟨d, hd, rfl⟩ := List.mem_map.1 hb
      rw [cfP_cells] at h1 h2
      rcases lowC_tri c d with h | h | h
      · exact absurd h h2
      · rw [h]
      · exact absurd h h1)
    (hp.map _) (by
      rw [List.pairwise_map]
      refine hs.imp fun {a b} h => ?_
      rw [cfP_cells]
      exact lowC_asym h) (by simp; omega)
  simp only [List.length_map] at h
  exact h
theorem pw_of_lowC : ∀ {l : List Cell}, l.Nodup → ∃ s : List Cell, s.Perm l ∧ s.Pairwise lowC := fun {l} hd => by
  let le : Cell → Cell → Bool := fun a b => decide (a.y < b.y) || (decide (a.y = b.y) && decide (a.x ≤ b.x))
  have h1 : (l.mergeSort le).Pairwise fun a b => le a b = true := List.pairwise_mergeSort (fun a b c h1 h2 => by simp [le] at *; omega) (fun a b => by simp [le]; omega) l
  have h2 : (l.mergeSort le).Nodup := (List.mergeSort_perm l le).nodup_iff.2 hd
  refine ⟨_, List.mergeSort_perm l le, ?_⟩
  refine (h1.and h2).imp fun {a b} h => ?_
  obtain ⟨ha, hb⟩ := h
  simp [le] at ha
  rcases lowC_tri a b with h | h | h
  · exact h
  · exact absurd h hb
  · unfold lowC at *; omega
end Go.Proofs.YtgicofpllopjmaaGreat

namespace Go.Proofs.YtgicofpllopjmaaGreat
open Go.Abs Go.Shelf

local instance (priority := 5000) nav_stop5 {P : Program} {l : Array Oper} {b : Bool} {c : Code} {Q : Exit → St → Prop} {s : St} : Nav (AWp P (.seq (.region 5 l b) c) Q s) (AWp P (.seq (.region 5 l b) c) Q s) := ⟨id⟩
theorem offIds_ds {id : Nat} : ∀ l : List D, offIds id (l.map AV.d) = true
  | [] => rfl
  | d :: l => by
    show offIds id (.d d :: l.map AV.d) = true
    simp only [offIds, offId, offIds_ds l, Bool.and_self]
theorem offIds_dr {id : Nat} (R : List (List D)) {r : List AV} (h : r ∈ dr R) : offIds id r = true := by
  unfold dr at h
  obtain ⟨l, _, rfl⟩ := List.mem_map.1 h
  exact offIds_ds l
theorem zip_rows : ∀ A : List (Cell × List Hd), List.zipWith (fun (k : Cell) (v : D) => [D.agg k.row, v]) (A.map (·.1)) (A.map fun p => encHs p.2) = cRows A
  | [] => rfl
  | p :: A => by
    simp only [List.map_cons, List.zipWith_cons_cons, zip_rows A]
    rfl
set_option maxHeartbeats 8000000 in
theorem trace_ok (R : List Row) (hR : smallR R) (hbig : validR R = true → (collectL R).length ≤ 1000000) (Ls : List (List Crk)) (hL : validR R = true → Lps (Sof R) Ls) : PC Tryz.prog 10 [.agg (regRow R)] (.p (.sl (if validR R then Ls.map fun L => [encCells (polyOf L)] else []))) := by
  have c1 := valid_ok R hR
  have hv0 : validR R = validR R := rfl
  generalize hv : validR R = v at c1 hL hbig
  refine pc_of_awp cx (fn := Tryz.f10) (c := _) Tryz.func10 rfl rfl (Nat.le_of_ble_eq_true rfl) ?_
  rw [Tryz.ntmps10]; refine Nav.imp ?_
  refine awp_region cx [] fun K hK => ?_
  simp [push_cast]
  repeat (refine And.intro (by clear hK; intros; first | omega | (simp_all; done) | (simp_all <;> omega)) ?_)
  refine hK _ ?_; clear hK K; refine Nav.imp ?_
  refine awp_region cx [(1, .p (.bool v))] fun K hK => ?_
  simp [push_cast, c1]
  repeat (refine And.intro (by clear hK; intros; first | omega | (simp_all; done) | (simp_all <;> omega)) ?_)
  refine hK _ ?_; clear hK K; refine Nav.imp ?_
  refine awp_cond (b := !v) (by simp [push_cast]) (fun hb => ?_) (fun hb => ?_) <;> (refine Nav.imp ?_)
  · simp at hb
    subst hb
    refine awp_region cx [] fun K hK => ?_
    simp [push_cast]
    repeat (refine And.intro (by clear hK; intros; first | omega | (simp_all; done) | (simp_all <;> omega)) ?_)
    refine hK _ ?_; clear hK K; refine Nav.imp ?_
    simp [push_cast]
  · simp at hb
    subst hb
    have hbig := hbig rfl
    have hL := hL rfl
    have c2 := collect_px R hv hR (by omega)
    refine awp_region cx [(1, .x ⟨[], [.d (.agg (regRow R))], [], [], some 0, [(0, ⟨54, mapM, dr (cRows (addAll [] (collectL R)))⟩)], .hm 0⟩)] fun K hK => ?_
    simp [push_cast, c2]
    repeat (refine And.intro (by clear hK; intros; first | omega | (simp_all; done) | (simp_all <;> omega)) ?_)
    refine hK _ ?_; clear hK K; refine Nav.imp ?_
    refine awp_region cx [] fun K hK => ?_
    simp [push_cast]
    repeat (refine And.intro (by clear hK; intros; first | omega | (simp_all; done) | (simp_all <;> omega)) ?_)
    refine hK _ ?_; clear hK K; refine Nav.imp ?_
    generalize hA : addAll [] (collectL R) = A at *
    have hnk := (collect_map hv).keys
    rw [hA] at hnk
    have h16 : ∀ xs : List Cell, xs.length < (A.map (·.1)).length → (xs.length + 1) * 16 ≤ 140737488355328 := fun xs h => by
      have := (addAll_good (collectL R)).1
      rw [hA] at this
      simp at h; omega
    refine awp_maprange cx [] _ _ _ _ _ _ _ rfl rfl rfl rfl rfl rfl rfl rfl rfl rfl rfl rfl rfl rfl rfl rfl rfl rfl rfl (by decide) rfl rfl (A.map (·.1)) (fun c => .agg c.row) (A.map fun p => encHs p.2) (id := 6) (o := ⟨54, mapM, dr (cRows A)⟩) rfl rfl (Nat.le_of_ble_eq_true rfl) (by rw [zip_rows]) (by simp) (by simp [push_cast]) (fun u v xs => ⟨45, [(15, .lit u), (3, .lit v), (4, .hs 7 0 xs.length)], [(7, some ⟨43, 2, dr (xs.map Cell.row)⟩)], 8⟩) ?_ ?_ ?_ ?_
    · intro u v xs
      refine ⟨⟨fun t => ?_, ?_, ?_⟩, rfl, rfl, by simp [push_cast], rfl⟩
      · simp [push_cast, offId]
        (repeat' split) <;> simp [offId]
      · simp [push_cast, offId]
      · intro x o ho i r hr
        simp [push_cast] at ho
        split at ho
        · simp at ho
          subst ho
          exact offIds_dr _ (List.mem_of_getElem? hr)
        · simp at ho
    · intro u v
      refine weak_of [(7, none)] rfl (by simp [upT, up, upL, push_cast]) (by simp [upH, upR, upL, up, push_cast]) (by simp [namesOk, push_cast]) (by simp [olds])
    · intro u v xs k hk hx K hK
      have h16 := h16 xs hx
      simp [push_cast, entSt]
      refine hK _ ?_
      refine awp_region cx [] fun K hK => ?_
      simp [push_cast, h16]
      repeat (refine And.intro (by clear hK; intros; first | omega | (simp_all; done) | (simp_all <;> omega)) ?_)
      refine hK _ ?_; clear hK K; refine Nav.imp ?_
      refine weak_of [(7, some 13)] rfl (by simp [upT, up, upL, push_cast]) (by simp [upH, upR, upL, up, push_cast]) (by simp [namesOk, push_cast]) (by simp [olds])
    · intro u v xs hxs
      obtain ⟨P, hP1, hP2⟩ := pw_of_lowC (l := xs) (hxs.nodup_iff.2 hnk)
      have hmap := collect_map hv
      rw [hA] at hmap
      have hC := collect_cracks hv
      have hbd : ∀ d ∈ collectL R, -100000 ≤ d.p.x ∧ d.p.x ≤ 100000 ∧ -100000 ≤ d.p.y ∧ d.p.y ≤ 100000 := fun d hd => by
        have := collect_near hv hd; omega
      have hnear : ∀ c ∈ xs, nearC c := fun c hc => by
        obtain ⟨d, hd, rfl⟩ := heads_near hC hmap (hxs.mem_iff.1 hc)
        have := collect_near hv hd
        simp only [nearC]; omega
      have hAl := (addAll_good (collectL R)).1
      rw [hA] at hAl
      have hxl := hxs.length_eq
      rw [List.length_map] at hxl
      have c3 := sortPt_px xs P hP1 hP2 hnear (by omega)
      have hPl := hP1.length_eq
      refine Nav.imp ?_
      refine awp_region cx [(1, .x ⟨[(0, 7)], [.hs 0 0 xs.length, .d (.fn (.func 28) [])], [(0, ⟨43, 2, dr (xs.map Cell.row)⟩)], [(0, 0)], none, [(0, ⟨43, 2, dr (P.map Cell.row)⟩)], .tup []⟩)] fun K hK => ?_
      simp [push_cast, c3]
      repeat (refine And.intro (by clear hK; intros; first | omega | (simp_all; done) | (simp_all <;> omega)) ?_)
      refine hK _ ?_; clear hK K; refine Nav.imp ?_
      rw [← hPl]
      refine awp_freeze 7 (P.map Cell.row) rfl (by simp [push_cast]) fun K hK => ?_
      simp [push_cast, St.fz, fzT, fzH, fzO, fz, fzL, fzR, fzR_dr, fzR_app, fzR_set, fzL_map]
      refine hK _ ?_; clear hK K; refine Nav.imp ?_
      refine awp_region cx [] fun K hK => ?_
      simp [push_cast]
      repeat (refine And.intro (by clear hK; intros; first | omega | (simp_all; done) | (simp_all <;> omega)) ?_)
      refine hK _ ?_; clear hK K; refine Nav.imp ?_
      refine awp_region cx [] fun K hK => ?_
      simp [push_cast]
      repeat (refine And.intro (by clear hK; intros; first | omega | (simp_all; done) | (simp_all <;> omega)) ?_)
      refine hK _ ?_; clear hK K; refine Nav.imp ?_
      have hP63 : P.length ≤ 1000000 := by omega
      refine awp_loop (β := Nat × List (List Crk) × List (Cell × List Hd)) (fun s => ⟨45, [(3, .hm 6), (26, .d (encCells P)), (27, .d (.int .i64 P.length)), (28, .d (.int .i64 s.1)), (6, .hs 7 0 s.2.1.length)], [(6, some ⟨54, mapM, dr (cRows s.2.2)⟩), (7, some ⟨40, 1, dr (s.2.1.map fun L => [encCells (polyOf L)])⟩)], 8⟩)
        (fun s => s.1 ≤ P.length ∧ TInv (Sof R) P s.1 s.2.1 s.2.2) (fun s => P.length - s.1) (0, [], A) ?_ ⟨Nat.zero_le _, TInv.init hmap (hP1.trans hxs)⟩ ?_
      · refine weak_of [(6, some 6), (7, none)] rfl (by simp [upT, up, upL, push_cast]) (by simp [upH, upR, upL, up, push_cast]) (by simp [namesOk, push_cast]) (by simp [olds])
      · rintro ⟨j, Fs, A⟩ ⟨hj, hI⟩
        simp only at hj hI
        have hFl := hI.len
        refine Nav.imp ?_
        refine awp_region cx [] fun K hK => ?_
        simp [push_cast]
        repeat (refine And.intro (by clear hK; intros; first | omega | (simp_all; done) | (simp_all <;> omega)) ?_)
        refine hK _ ?_; clear hK K; refine Nav.imp ?_
        refine awp_cond (b := decide ((j : Int) < P.length)) (by simp [push_cast]) (fun hb => ?_) (fun hb => ?_) <;> (refine Nav.imp ?_)
        · have hlt : j < P.length := by simpa using hb
          obtain ⟨p, hp⟩ := getq hlt
          have e0 := wrap_i64 (n := (j : Int) + 1) (by omega) (by omega)
          have l0 := look_c p A
          refine awp_region cx [] fun K hK => ?_
          simp [push_cast, hp]
          repeat (refine And.intro (by clear hK; intros; first | omega | (simp_all; done) | (simp_all <;> omega)) ?_)
          refine hK _ ?_; clear hK K; refine Nav.imp ?_
          cases hh : headsAt A p with
          | nil =>
            rw [hh] at l0
            have l1 : lookIs .nl false (lookA (.agg [.int .i64 p.x, .int .i64 p.y]) (dr (cRows A))) (encHs []) = True := l0
            refine awp_region cx [(2, .p (encHs []))] fun K hK => ?_
            simp [push_cast, l1]
            repeat (refine And.intro (by clear hK; intros; first | omega | (simp_all; done) | (simp_all <;> omega)) ?_)
            refine hK _ ?_; clear hK K; refine Nav.imp ?_
            refine awp_cond (b := false) (by simp [push_cast]) (fun hb => ?_) (fun hb => ?_) <;> (refine Nav.imp ?_)
            · simp at hb
            · refine awp_region cx [] fun K hK => ?_
              simp [push_cast, e0]
              repeat (refine And.intro (by clear hK; intros; first | omega | (simp_all; done) | (simp_all <;> omega)) ?_)
              refine hK _ ?_; clear hK K; refine Nav.imp ?_
              refine ⟨(j + 1, Fs, A), ⟨hlt, hI.skip hp hh⟩, by simp only; omega, ?_⟩
              refine weak_of [(6, some 6), (7, some 7)] rfl (by simp [upT, up, upL, push_cast]) (by simp [upH, upR, upL, up, push_cast]) (by simp [namesOk, push_cast]) (by simp [olds])
          | cons k hs0 =>
            rw [hh] at l0
            obtain ⟨n, pn, hnl, hr, lc, hI2⟩ := hI.go hC hP2 hp hh
            have c4 := walk_px hC hbd hI.map (fun d hd => hd.1) pn (by omega) hr lc hh
            have l1 : lookIs .nl false (lookA (.agg [.int .i64 p.x, .int .i64 p.y]) (dr (cRows A))) (encHs (k :: hs0)) = True := l0
            generalize orb (suc (Sof R)) n ⟨p, k⟩ = L at *
            unfold walkO at c4
            have h8 : (Fs.length + 1) * 8 ≤ 140737488355328 := by omega
            have h24 : (Fs.length + 1) * 24 ≤ 140737488355328 := by omega
            refine awp_region cx [(2, .p (encHs (k :: hs0)))] fun K hK => ?_
            simp [push_cast, l1]
            repeat (refine And.intro (by clear hK; intros; first | omega | (simp_all; done) | (simp_all <;> omega)) ?_)
            refine hK _ ?_; clear hK K; refine Nav.imp ?_
            refine awp_cond (b := true) (by simp [push_cast]) (fun hb => ?_) (fun hb => ?_) <;> (refine Nav.imp ?_)
            · refine awp_region cx [(3, .x ⟨[(0, 6)], [.hm 0, .d (.agg [.int .i64 p.x, .int .i64 p.y])], [(0, ⟨54, mapM, dr (cRows A)⟩)], [(0, 0)], none, [(0, ⟨54, mapM, dr (cRows (takeAll A L))⟩)], .d (.agg [encCells (polyOf L)])⟩)] fun K hK => ?_
              simp [push_cast, c4, h8, h24]
              repeat (refine And.intro (by clear hK; intros; first | omega | (simp_all; done) | (simp_all <;> omega)) ?_)
              refine hK _ ?_; clear hK K; refine Nav.imp ?_
              refine awp_region cx [] fun K hK => ?_
              simp [push_cast, e0]
              repeat (refine And.intro (by clear hK; intros; first | omega | (simp_all; done) | (simp_all <;> omega)) ?_)
              refine hK _ ?_; clear hK K; refine Nav.imp ?_
              refine ⟨(j + 1, Fs ++ [L], takeAll A L), ⟨hlt, hI2⟩, by simp only; omega, ?_⟩
              refine weak_of [(6, some 6), (7, some 23)] rfl (by simp [upT, up, upL, push_cast]) (by simp [upH, upR, upL, up, push_cast]) (by simp [namesOk, push_cast]) (by simp [olds])
            · simp at hb
        · have hje : P.length ≤ j := by simp at hb; omega
          have := lps_uniq hC (hI.done hje) hL
          rw [← this]
          refine awp_freeze 7 (Fs.map fun L => [encCells (polyOf L)]) rfl (by simp [push_cast]) fun K hK => ?_
          simp [push_cast, St.fz, fzT, fzH, fzO, fz, fzL, fzR, fzR_dr, fzR_app, fzR_set, fzL_map]
          refine hK _ ?_; clear hK K; refine Nav.imp ?_
          refine awp_region cx [] fun K hK => ?_
          simp [push_cast]
          repeat (refine And.intro (by clear hK; intros; first | omega | (simp_all; done) | (simp_all <;> omega)) ?_)
          refine hK _ ?_; clear hK K; refine Nav.imp ?_
          simp [push_cast]
end Go.Proofs.YtgicofpllopjmaaGreat

namespace Go.Proofs.YtgicofpllopjmaaGreat
open Go.Abs

def bef (a b : Cell) : Bool := decide (a.y < b.y) || (decide (a.y = b.y) && decide (a.x < b.x))
def InsAt (l : List Cell) (i : Nat) (Z : List Cell) (k : Nat) : Prop :=
  ∃ (P : List Cell) (c : Cell) (Q T : List Cell), Z = P ++ c :: (Q ++ T) ∧ P.length = k ∧ P.length + Q.length = i ∧ Z.Perm l ∧ ((P ++ Q).Pairwise fun a b => leY a b = true) ∧ ∀ q ∈ Q, leY c q = true
def UpTo (l : List Cell) (i : Nat) (Z : List Cell) : Prop := Z.Perm l ∧ ((Z.take i).Pairwise fun a b => leY a b = true)

end Go.Proofs.YtgicofpllopjmaaGreat

namespace Go.Proofs.YtgicofpllopjmaaGreat
open Go.Abs

end Go.Proofs.YtgicofpllopjmaaGreat

namespace Go.Proofs.YtgicofpllopjmaaGreat
open Go.Abs

def ofR (l : List Cell) : List Row := if l.all onG then build (sortY l) else []
def ofE (l : List Cell) : Int := if l.all onG then 0 else 8
abbrev ofD (l : List Cell) : D := .tup [.agg (regRow (ofR l)), .int .i64 (ofE l)]

end Go.Proofs.YtgicofpllopjmaaGreat

namespace Go.Proofs.YtgicofpllopjmaaGreat
open Go.Abs

set_option maxHeartbeats 1000000 in
theorem rsame_ok (a b : List Row) (ha : smallR a) : PC Tryz.prog 18 [.agg (regRow a), .agg (regRow b)] (.p (.bool (decide (a = b)))) := by
  have hal := ha.1
  refine pc_of_awp cx (fn := Tryz.f18) (c := _) Tryz.func18 rfl rfl (Nat.le_of_ble_eq_true rfl) ?_
  rw [Tryz.ntmps18]; refine Nav.imp ?_
  refine awp_region cx [] fun K hK => ?_
  simp [push_cast]
  repeat (refine And.intro (by clear hK; intros; first | omega | (simp_all; done) | (simp_all <;> omega)) ?_)
  refine hK _ ?_; clear hK K; refine Nav.imp ?_
  refine awp_region cx [] fun K hK => ?_
  simp [push_cast]
  repeat (refine And.intro (by clear hK; intros; first | omega | (simp_all; done) | (simp_all <;> omega)) ?_)
  refine hK _ ?_; clear hK K; refine Nav.imp ?_
  refine awp_cond (by simp [push_cast] <;> exact rfl) (fun hb => ?_) (fun hb => ?_) <;> (refine Nav.imp ?_)
  · simp at hb
    have hne : a ≠ b := by intro e; subst e; simp at hb
    refine awp_region cx [] fun K hK => ?_
    simp [push_cast]
    repeat (refine And.intro (by clear hK; intros; first | omega | (simp_all; done) | (simp_all <;> omega)) ?_)
    refine hK _ ?_; clear hK K; refine Nav.imp ?_
    simp [push_cast, hne]
  · have hlen : a.length = b.length := by simp at hb; omega
    clear hb
    refine awp_region cx [] fun K hK => ?_
    simp [push_cast]
    repeat (refine And.intro (by clear hK; intros; first | omega | (simp_all; done) | (simp_all <;> omega)) ?_)
    refine hK _ ?_; clear hK K; refine Nav.imp ?_
    refine awp_loop (β := Nat) (fun k => ⟨65, [(2, .ptr 0 0 0), (3, .ptr 1 0 0), (5, .d (.int .i64 k))], [(0, some ⟨24, 1, [(regRow a).map .d]⟩), (1, some ⟨24, 1, [(regRow b).map .d]⟩)], 2⟩) (fun k => k ≤ a.length ∧ a.take k = b.take k) (fun k => a.length - k) 0 ?_ ⟨Nat.zero_le _, by simp⟩ ?_
    · refine weak_of [(0, some 0), (1, some 1)] rfl (by simp [upT, up, upL, push_cast]) (by simp [upH, upR, upL, up, push_cast]) (by simp [namesOk, push_cast]) (by simp [olds])
    · rintro k ⟨hk, hpre⟩
      refine Nav.imp ?_
      refine awp_region cx [] fun K hK => ?_
      simp [push_cast]
      repeat (refine And.intro (by clear hK; intros; first | omega | (simp_all; done) | (simp_all <;> omega)) ?_)
      refine hK _ ?_; clear hK K; refine Nav.imp ?_
      refine awp_cond (b := decide ((k : Int) < a.length)) (by simp [push_cast]) (fun hb => ?_) (fun hb => ?_) <;> (refine Nav.imp ?_)
      · have hlt : k < a.length := by simpa using hb
        obtain ⟨x, hx⟩ := getq hlt
        obtain ⟨y, hy⟩ : ∃ y, b[k]? = some y := getq (by omega)
        have e0 := wrap_i64 (n := (k : Int) + 1) (by omega) (by omega)
        have hxl := ha.2 x (List.mem_of_getElem? hx)
        have hno : x ≠ y → a ≠ b := fun h e => by
          subst e
          rw [hx] at hy
          exact h (Option.some.inj hy)
        obtain ⟨xy, xr⟩ := x
        obtain ⟨yy, yr⟩ := y
        simp only at hxl
        refine awp_region_draw cx mixed [] fun K hK => ?_
        simp [push_cast, hx, hy, Row.row]
        repeat (refine And.intro (by clear hK; intros; first | omega | (simp_all; done) | (simp_all <;> omega)) ?_)
        refine hK _ _ (by kernel_rfl) ?_; clear hK K; refine Nav.imp ?_
        refine awp_region cx [] fun K hK => ?_
        simp [push_cast, Row.row]
        repeat (refine And.intro (by clear hK; intros; first | omega | (simp_all; done) | (simp_all <;> omega)) ?_)
        refine hK _ ?_; clear hK K; refine Nav.imp ?_
        refine awp_cond (by simp [push_cast] <;> exact rfl) (fun hb => ?_) (fun hb => ?_) <;> (refine Nav.imp ?_)
        · have hn : a ≠ b := hno (by rintro ⟨⟩; simp at hb)
          refine awp_region cx [] fun K hK => ?_
          simp [push_cast]
          repeat (refine And.intro (by clear hK; intros; first | omega | (simp_all; done) | (simp_all <;> omega)) ?_)
          refine hK _ ?_; clear hK K; refine Nav.imp ?_
          simp [push_cast, hn]
        · simp at hb
          obtain ⟨hy0, hl0⟩ := hb
          have hl0 : xr.length = yr.length := by omega
          subst hy0
          refine awp_region cx [] fun K hK => ?_
          simp [push_cast]
          repeat (refine And.intro (by clear hK; intros; first | omega | (simp_all; done) | (simp_all <;> omega)) ?_)
          refine hK _ ?_; clear hK K; refine Nav.imp ?_
          refine awp_loop (β := Nat) (fun j => ⟨65, [(2, .ptr 0 0 0), (3, .ptr 1 0 0), (5, .d (.int .i64 k)), (6, .ptr 2 0 0), (7, .ptr 3 0 0), (8, .d (.int .i64 j))], [(0, some ⟨24, 1, [(regRow a).map .d]⟩), (1, some ⟨24, 1, [(regRow b).map .d]⟩), (2, some ⟨50, 2, [(Row.row ⟨xy, xr⟩).map .d]⟩), (3, some ⟨50, 2, [(Row.row ⟨xy, yr⟩).map .d]⟩)], 4⟩) (fun j => j ≤ xr.length ∧ xr.take j = yr.take j) (fun j => xr.length - j) 0 ?_ ⟨Nat.zero_le _, by simp⟩ ?_
          · refine weak_of [(0, some 0), (1, some 1), (2, some 17), (3, some 18)] rfl (by simp [upT, up, upL, push_cast, Row.row]) (by simp [upH, upR, upL, up, push_cast, Row.row]) (by simp [namesOk, push_cast]) (by simp [olds])
          · rintro j ⟨hj, hpr⟩
            refine Nav.imp ?_
            refine awp_region cx [] fun K hK => ?_
            simp [push_cast, Row.row]
            repeat (refine And.intro (by clear hK; intros; first | omega | (simp_all; done) | (simp_all <;> omega)) ?_)
            refine hK _ ?_; clear hK K; refine Nav.imp ?_
            refine awp_cond (b := decide ((j : Int) < xr.length)) (by simp [push_cast]) (fun hb => ?_) (fun hb => ?_) <;> (refine Nav.imp ?_)
            · have hjl : j < xr.length := by simpa using hb
              obtain ⟨p, hp⟩ := getq hjl
              obtain ⟨q, hq⟩ : ∃ y, yr[j]? = some y := getq (by omega)
              have e1 := wrap_i64 (n := (j : Int) + 1) (by omega) (by omega)
              have hn2 : p ≠ q → a ≠ b := fun h => hno fun e => by
                injection e with _ e2
                subst e2
                rw [hp] at hq
                exact h (Option.some.inj hq)
              obtain ⟨pa, pb⟩ := p
              obtain ⟨qa, qb⟩ := q
              refine awp_region_draw cx mixed [] fun K hK => ?_
              simp [push_cast, hp, hq, Row.row, Run.row]
              repeat (refine And.intro (by clear hK; intros; first | omega | (simp_all; done) | (simp_all <;> omega)) ?_)
              refine hK _ _ (by kernel_rfl) ?_; clear hK K; refine Nav.imp ?_
              refine awp_cond (by simp [push_cast] <;> exact rfl) (fun hb => ?_) (fun hb => ?_) <;> (refine Nav.imp ?_)
              · have hn : a ≠ b := hn2 (by rintro ⟨⟩; simp at hb)
                refine awp_region cx [] fun K hK => ?_
                simp [push_cast]
                repeat (refine And.intro (by clear hK; intros; first | omega | (simp_all; done) | (simp_all <;> omega)) ?_)
                refine hK _ ?_; clear hK K; refine Nav.imp ?_
                simp [push_cast, hn]
              · simp at hb
                obtain ⟨h1, h2⟩ := hb
                subst h1 h2
                refine awp_region cx [] fun K hK => ?_
                simp [push_cast, e1]
                repeat (refine And.intro (by clear hK; intros; first | omega | (simp_all; done) | (simp_all <;> omega)) ?_)
                refine hK _ ?_; clear hK K; refine Nav.imp ?_
                refine ⟨j + 1, ⟨hjl, take_eq_step hpr hp hq rfl⟩, by omega, ?_⟩
                refine weak_of [(0, some 0), (1, some 1), (2, some 2), (3, some 3)] rfl (by simp [upT, up, upL, push_cast, Row.row]) (by simp [upH, upR, upL, up, push_cast, Row.row]) (by simp [namesOk, push_cast]) (by simp [olds])
            · have hjn : j = xr.length := by simp at hb; omega
              subst hjn
              rw [List.take_length, hl0, List.take_length] at hpr
              subst hpr
              refine awp_region cx [] fun K hK => ?_
              simp [push_cast, e0]
              repeat (refine And.intro (by clear hK; intros; first | omega | (simp_all; done) | (simp_all <;> omega)) ?_)
              refine hK _ ?_; clear hK K; refine Nav.imp ?_
              refine ⟨k + 1, ⟨hlt, take_eq_step hpre hx hy rfl⟩, by omega, ?_⟩
              refine weak_of [(0, some 0), (1, some 1)] rfl (by simp [upT, up, upL, push_cast]) (by simp [upH, upR, upL, up, push_cast]) (by simp [namesOk, push_cast]) (by simp [olds])
      · have hge : k = a.length := by simp at hb; omega
        subst hge
        rw [List.take_length, hlen, List.take_length] at hpre
        refine awp_region cx [] fun K hK => ?_
        simp [push_cast]
        repeat (refine And.intro (by clear hK; intros; first | omega | (simp_all; done) | (simp_all <;> omega)) ?_)
        refine hK _ ?_; clear hK K; refine Nav.imp ?_
        simp [push_cast, hpre]
end Go.Proofs.YtgicofpllopjmaaGreat

namespace Go.Proofs.YtgicofpllopjmaaGreat
open Go.Abs

def cfD : List D → List D → Int
  | [.int _ ax, .int _ ay], [.int _ bx, .int _ by'] => orI (cmpI ay by') (cmpI ax bx)
  | _, _ => 0
def ofTl : Option (Int × List Run) → List (List AV)
  | none => []
  | some (y, L) => [[.d (.int .i64 y), .hs 3 0 L.length]]
def ofRl : Option (Int × List Run) → List Run
  | none => []
  | some (_, L) => L
def ofX (P : List Row) : Option (Int × List Run) → List Row
  | none => P
  | some (y, L) => P ++ [⟨y, L⟩]

end Go.Proofs.YtgicofpllopjmaaGreat
