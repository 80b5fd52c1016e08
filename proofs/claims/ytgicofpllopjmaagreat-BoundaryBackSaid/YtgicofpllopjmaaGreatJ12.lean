/-
  Texts of this seat put together: U1, BW14, BK8, BW10, BW13, BW15.
-/
import Derived.Test.YtgicofpllopjmaaGreatJ11
import Derived.Test.YtgicofpllopjmaaGreatJ6
import Derived.Test.YtgicofpllopjmaaGreatJ7
import Derived.Test.YtgicofpllopjmaaGreatJ10
import Derived.Test.YtgicofpllopjmaaGreatJ8
set_option linter.unusedVariables false
set_option linter.unusedSimpArgs false
set_option maxRecDepth 100000
namespace Go.Proofs.YtgicofpllopjmaaGreat
open Go.Abs

def lenN (l : List Run) : Nat := (l.flatMap (runCells 0)).length
theorem lenN_take {l : List Run} {k : Nat} {r : Run} (h : l[k]? = some r) : lenN (l.take (k + 1)) = lenN (l.take k) + (r.b - r.a).toNat := by
  unfold lenN
  rw [flat_take _ h, List.length_append, runCells_len]
theorem lenN_bound {l : List Run} (h : rvalid l = true) : ∀ k, k ≤ l.length → lenN (l.take k) ≤ k * 2097152
  | 0, _ => by simp [lenN]
  | k + 1, hk => by
    obtain ⟨r, hr⟩ := getq (show k < l.length by omega)
    have h1 := lenN_bound h k (by omega)
    have h2 := fitsB_bd (rvalid_at h hr).2
    rw [lenN_take hr, Nat.succ_mul]
    omega

theorem length_ok (l : List Run) (hl : l.length ≤ 1000000) (hv : rvalid l = true) : PC Tryz.prog 35 [encRuns l] (.p (.int .i64 (lenN l))) := by
  have c1 := rvalid_ok l hl
  rw [hv] at c1
  refine pc_of_awp cx (fn := Tryz.f35) (c := _) Tryz.func35 rfl rfl (Nat.le_of_ble_eq_true rfl) ?_
  rw [Tryz.ntmps35]; refine Nav.imp ?_
  refine awp_region cx [] fun K hK => ?_
  simp [push_cast]
  repeat (refine And.intro (by clear hK; intros; first | omega | (simp_all; done) | (simp_all <;> omega)) ?_)
  refine hK _ ?_; clear hK K; refine Nav.imp ?_
  refine awp_region cx [(1, .p (.bool true))] fun K hK => ?_
  simp [push_cast, c1]
  repeat (refine And.intro (by clear hK; intros; first | omega | (simp_all; done) | (simp_all <;> omega)) ?_)
  refine hK _ ?_; clear hK K; refine Nav.imp ?_
  refine awp_cond (b := false) (by simp [push_cast]) (fun hb => ?_) (fun hb => ?_) <;> (refine Nav.imp ?_)
  · simp at hb
  · refine awp_region cx [] fun K hK => ?_
    simp [push_cast]
    repeat (refine And.intro (by clear hK; intros; first | omega | (simp_all; done) | (simp_all <;> omega)) ?_)
    refine hK _ ?_; clear hK K; refine Nav.imp ?_
    refine awp_region cx [] fun K hK => ?_
    simp [push_cast]
    repeat (refine And.intro (by clear hK; intros; first | omega | (simp_all; done) | (simp_all <;> omega)) ?_)
    refine hK _ ?_; clear hK K; refine Nav.imp ?_
    refine awp_loop (β := Nat × Nat) (fun b => ⟨24, [(3, .d (.int .i64 b.2)), (9, .d (encRuns l)), (10, .d (.int .i64 l.length)), (11, .d (.int .i64 b.1))], [], 0⟩) (fun b => b.1 ≤ l.length ∧ b.2 = lenN (l.take b.1)) (fun b => l.length - b.1) (0, 0) ?_ ⟨Nat.zero_le _, by simp [lenN]⟩ ?_
    · refine weak_of [] rfl (by simp [upT, up, upL, push_cast]) (by simp [upH, upR, upL, up, push_cast]) (by simp [namesOk, push_cast]) (by simp [olds])
    · rintro ⟨k, n0⟩ ⟨hk, hn⟩
      simp only at hk hn
      refine Nav.imp ?_
      refine awp_region cx [] fun K hK => ?_
      simp [push_cast]
      repeat (refine And.intro (by clear hK; intros; first | omega | (simp_all; done) | (simp_all <;> omega)) ?_)
      refine hK _ ?_; clear hK K; refine Nav.imp ?_
      refine awp_cond (b := decide ((k : Int) < l.length)) (by simp [push_cast]) (fun hb => ?_) (fun hb => ?_) <;> (refine Nav.imp ?_)
      · have hlt : k < l.length := by simpa using hb
        obtain ⟨r, hr⟩ := getq hlt
        have hs := lenN_take hr
        have hbd := lenN_bound hv k (by omega)
        rw [← hn] at hs hbd
        have hrf := rvalid_at hv hr
        have hf := fitsB_bd hrf.2
        obtain ⟨ra, rb⟩ := r
        simp only at hs hrf hf
        have e0 := wrap_i64 (n := (k : Int) + 1) (by omega) (by omega)
        have e1 := wrap_i64 (n := rb - ra) (by omega) (by omega)
        have e2 := wrap_i64 (n := (n0 : Int) + (rb - ra)) (by omega) (by omega)
        have e3 : (n0 : Int) + (rb - ra) = (lenN (l.take (k + 1)) : Nat) := by rw [hs]; omega
        rw [e3] at e2
        generalize hn1 : lenN (l.take (k + 1)) = n1 at *
        refine awp_region cx [] fun K hK => ?_
        simp [push_cast, hr, Run.row]
        repeat (refine And.intro (by clear hK; intros; first | omega | (simp_all; done) | (simp_all <;> omega)) ?_)
        refine hK _ ?_; clear hK K; refine Nav.imp ?_
        refine awp_region cx [] fun K hK => ?_
        simp [push_cast, e1, e2, e3, Run.row]
        repeat (refine And.intro (by clear hK; intros; first | omega | (simp_all; done) | (simp_all <;> omega)) ?_)
        refine hK _ ?_; clear hK K; refine Nav.imp ?_
        refine awp_region cx [] fun K hK => ?_
        simp [push_cast, e0]
        repeat (refine And.intro (by clear hK; intros; first | omega | (simp_all; done) | (simp_all <;> omega)) ?_)
        refine hK _ ?_; clear hK K; refine Nav.imp ?_
        refine ⟨(k + 1, n1), ⟨hlt, hn1.symm⟩, by simp only; omega, ?_⟩
        refine weak_of [] rfl (by simp [upT, up, upL, push_cast]) (by simp [upH, upR, upL, up, push_cast]) (by simp [namesOk, push_cast]) (by simp [olds])
      · have hge : k = l.length := by simp at hb; omega
        subst hge
        rw [List.take_length] at hn
        subst hn
        refine awp_region cx [] fun K hK => ?_
        simp [push_cast]
        repeat (refine And.intro (by clear hK; intros; first | omega | (simp_all; done) | (simp_all <;> omega)) ?_)
        refine hK _ ?_; clear hK K; refine Nav.imp ?_
        simp [push_cast]

def countR (R : List Row) : Nat := if validR R then (regCells R).length else 0
def smallB (R : List Row) : Bool := decide (R.length ≤ 40) && R.all (fun w => decide (w.runs.length ≤ 40)) && decide (countR R ≤ 600)
end Go.Proofs.YtgicofpllopjmaaGreat

namespace Go.Proofs.YtgicofpllopjmaaGreat
open Go.Abs

theorem eflat_len (y : Int) (l : List Run) : (l.flatMap (eRun y)).length = lenN l := by
  unfold lenN
  rw [List.length_flatMap, List.length_flatMap]
  simp only [runCells_len]
  simp [eRun]
theorem wflat_len (y : Int) (l : List Run) : (l.flatMap (wRun y)).length = lenN l := by
  unfold lenN
  rw [List.length_flatMap, List.length_flatMap]
  simp only [runCells_len]
  simp [wRun]
theorem vflat_len (y : Int) : ∀ (l : List Run), (l.flatMap (vRun y)).length = 2 * l.length
  | [] => rfl
  | r :: l => by
    have := vflat_len y l
    simp only [List.flatMap_cons, List.length_append, vRun, List.length_cons, List.length_nil] at *
    omega
set_option maxHeartbeats 16000000 in
theorem blength_ok (R : List Row) (hR : smallR R) (hbig : validR R = true → (collectL R).length ≤ 10000000) : PC Tryz.prog 12 [.agg (regRow R)] (.p (.int .i64 (if validR R then (collectL R).length else 0 : Nat))) := by
  have c1 := valid_ok R hR
  have hv0 : validR R = validR R := rfl
  generalize hv : validR R = v at c1 hbig
  have hl := hR.1
  refine pc_of_awp cx (fn := Tryz.f12) (c := _) Tryz.func12 rfl rfl (Nat.le_of_ble_eq_true rfl) ?_
  rw [Tryz.ntmps12]; refine Nav.imp ?_
  refine awp_region cx [] fun K hK => ?_
  simp [push_cast]
  repeat (refine And.intro (by clear hK; intros; first | omega | (simp_all; done) | (simp_all <;> omega)) ?_)
  refine hK _ ?_; clear hK K; refine Nav.imp ?_
  refine awp_region cx [(1, .p (.bool v))] fun K hK => ?_
  simp [push_cast, c1]
  repeat (refine And.intro (by clear hK; intros; first | omega | (simp_all; done) | (simp_all <;> omega)) ?_)
  refine hK _ ?_; clear hK K; refine Nav.imp ?_
  refine awp_cond (b := !v) (by simp [push_cast]) (fun hb => ?_) (fun hb => ?_) <;> (refine Nav.imp ?_)
  · simp at hb
    subst hb
    refine awp_region cx [] fun K hK => ?_
    simp [push_cast]
    repeat (refine And.intro (by clear hK; intros; first | omega | (simp_all; done) | (simp_all <;> omega)) ?_)
    refine hK _ ?_; clear hK K; refine Nav.imp ?_
    simp [push_cast]
  · simp at hb
    subst hb
    have hbig := hbig rfl
    rw [if_pos rfl]
    obtain ⟨full, hfull⟩ : ∃ full, full = collectL R := ⟨_, rfl⟩
    have htk : ∀ i, i ≤ R.length → ((R.take i).flatMap (rowCr R)).length ≤ 10000000 := fun i _ => by
      have e : collectL R = (R.take i).flatMap (rowCr R) ++ (R.drop i).flatMap (rowCr R) := by
        unfold collectL
        rw [← List.flatMap_append, List.take_append_drop]
      rw [e, List.length_append] at hbig
      omega
    have hend : collectL R = (R.take R.length).flatMap (rowCr R) := by rw [List.take_length]; rfl
    rw [hend]
    have hnx : ∀ i w, R[i]? = some w → ((R.take (i + 1)).flatMap (rowCr R)).length = ((R.take i).flatMap (rowCr R)).length + (rowCr R w).length := fun i w h => by rw [flat_take _ h, List.length_append]
    generalize hC : (fun i => ((R.take i).flatMap (rowCr R)).length) = C at *
    have hC' : ∀ i, ((R.take i).flatMap (rowCr R)).length = C i := fun i => by rw [← hC]
    have hC0 : C 0 = 0 := by rw [← hC]; rfl
    simp only [hC'] at htk hnx ⊢
    clear hC hC' hend hfull
    refine awp_region cx [] fun K hK => ?_
    simp [push_cast]
    repeat (refine And.intro (by clear hK; intros; first | omega | (simp_all; done) | (simp_all <;> omega)) ?_)
    refine hK _ ?_; clear hK K; refine Nav.imp ?_
    refine awp_region cx [] fun K hK => ?_
    simp [push_cast]
    repeat (refine And.intro (by clear hK; intros; first | omega | (simp_all; done) | (simp_all <;> omega)) ?_)
    refine hK _ ?_; clear hK K; refine Nav.imp ?_
    refine awp_loop (β := Nat) (fun i => ⟨45, [(1, .ptr 0 0 0), (3, .d (.int .i64 (C i : Nat))), (12, .d (encRows R)), (13, .d (.int .i64 R.length)), (14, .d (.int .i64 i))], [(0, some ⟨24, 1, [[.d (encRows R)]]⟩)], 1⟩) (fun i => i ≤ R.length) (fun i => R.length - i) 0 ?_ (Nat.zero_le _) ?_
    · refine weak_of [(0, some 0)] rfl (by simp [upT, up, upL, push_cast, hC0]) (by simp [upH, upR, upL, up, push_cast, hC0]) (by simp [namesOk, push_cast]) (by simp [olds])
    · intro i hi
      refine Nav.imp ?_
      refine awp_region cx [] fun K hK => ?_
      simp [push_cast]
      repeat (refine And.intro (by clear hK; intros; first | omega | (simp_all; done) | (simp_all <;> omega)) ?_)
      refine hK _ ?_; clear hK K; refine Nav.imp ?_
      refine awp_cond (b := decide ((i : Int) < R.length)) (by simp [push_cast]) (fun hb => ?_) (fun hb => ?_) <;> (refine Nav.imp ?_)
      · have hlt : i < R.length := by simpa using hb
        obtain ⟨w, hw⟩ := getq hlt
        have c1 := around_ok R i w hv hR hw
        have e0 := wrap_i64 (n := (i : Int) + 1) (by omega) (by omega)
        obtain ⟨hy, hfw⟩ := validR_at hv hw
        have hB := rowOf_rv hv (w.y - 1)
        have hU := rowOf_rv hv (w.y + 1)
        have hBl : (rowOf R (w.y - 1)).length ≤ 1000000 := rowOf_len3 hR _
        have hUl : (rowOf R (w.y + 1)).length ≤ 1000000 := rowOf_len3 hR _
        have hwl := hR.2 w (List.mem_of_getElem? hw)
        have c2 := subtract_ok w.runs _ hwl hBl (fine_rv hfw) hB
        have c3 := subtract_ok w.runs _ hwl hUl (fine_rv hfw) hU
        have hL1 := sub_bd hfw hB
        have hL2 := sub_bd hfw hU
        have hLl1 := sub_len hfw hB
        have hLl2 := sub_len hfw hU
        have v1 : rvalid (sweep fD w.runs (rowOf R (w.y - 1))) = true := sweep_valid rfl (fine_rv hfw) hB
        have v2 : rvalid (sweep fD w.runs (rowOf R (w.y + 1))) = true := sweep_valid rfl (fine_rv hfw) hU
        have c4 := length_ok _ hLl1 v1
        have c5 := length_ok _ hLl2 v2
        have q1 := eflat_len w.y (sweep fD w.runs (rowOf R (w.y - 1)))
        have q2 := wflat_len w.y (sweep fD w.runs (rowOf R (w.y + 1)))
        have q3 := vflat_len w.y w.runs
        have hn1 := hnx i w hw
        have ht1 := htk (i + 1) hlt
        have ht0 := htk i hi
        unfold rowCr at hn1
        rw [List.length_append, List.length_append, q3] at hn1
        obtain ⟨y, rs⟩ := w
        simp only at *
        generalize rowOf R (y - 1) = B at *
        generalize rowOf R (y + 1) = U at *
        generalize sweep fD rs B = L1 at *
        generalize sweep fD rs U = L2 at *
        generalize (L1.flatMap (eRun y)).length = n1 at *
        generalize (L2.flatMap (wRun y)).length = n2 at *
        rw [← q1] at c4
        rw [← q2] at c5
        have hC1 : ((C (i + 1) : Nat) : Int) = (C i : Int) + (n1 + n2 + 2 * rs.length) := by omega
        have ht2 : (C i : Int) + (n1 + n2 + 2 * rs.length) ≤ 10000000 := by omega
        generalize C i = C0 at *
        have w1 := wrap_i64 (n := (n1 : Int) + n2) (by omega) (by omega)
        have w2 := wrap_i64 (n := (2 : Int) * rs.length) (by omega) (by omega)
        have w3 := wrap_i64 (n := (n1 : Int) + n2 + 2 * rs.length) (by omega) (by omega)
        have w4 := wrap_i64 (n := (C0 : Int) + (n1 + n2 + 2 * rs.length)) (by omega) (by omega)
        refine awp_region cx [] fun K hK => ?_
        simp [push_cast, hw]
        repeat (refine And.intro (by clear hK; intros; first | omega | (simp_all; done) | (simp_all <;> omega)) ?_)
        refine hK _ ?_; clear hK K; refine Nav.imp ?_
        refine awp_region cx [(2, .p (.tup [encRuns B, encRuns U]))] fun K hK => ?_
        simp [push_cast, c1]
        repeat (refine And.intro (by clear hK; intros; first | omega | (simp_all; done) | (simp_all <;> omega)) ?_)
        refine hK _ ?_; clear hK K; refine Nav.imp ?_
        refine awp_region_draw cx mixed [(4, .p (encRuns L1)), (5, .p (.int .i64 n1)), (9, .p (encRuns L2)), (10, .p (.int .i64 n2))] fun K hK => ?_
        simp [push_cast, c2, c3, c4, c5, w1, w2, w3, w4]
        repeat (refine And.intro (by clear hK; intros; first | omega | (simp_all; done) | (simp_all <;> omega)) ?_)
        refine hK _ _ (by kernel_rfl) ?_; clear hK K; refine Nav.imp ?_
        refine awp_region cx [] fun K hK => ?_
        simp [push_cast, e0]
        repeat (refine And.intro (by clear hK; intros; first | omega | (simp_all; done) | (simp_all <;> omega)) ?_)
        refine hK _ ?_; clear hK K; refine Nav.imp ?_
        refine ⟨i + 1, hlt, by omega, ?_⟩
        refine weak_of [(0, some 0)] rfl (by simp [upT, up, upL, push_cast, hC1]) (by simp [upH, upR, upL, up, push_cast, hC1]) (by simp [namesOk, push_cast]) (by simp [olds])
      · have hie : i = R.length := by simp at hb; omega
        subst hie
        refine awp_region cx [] fun K hK => ?_
        simp [push_cast]
        repeat (refine And.intro (by clear hK; intros; first | omega | (simp_all; done) | (simp_all <;> omega)) ?_)
        refine hK _ ?_; clear hK K; refine Nav.imp ?_
        simp [push_cast]
end Go.Proofs.YtgicofpllopjmaaGreat

namespace Go.Proofs.YtgicofpllopjmaaGreat
open Go.Abs

theorem mv_bad {a : Cell} {h : Hd} {k : Int} (hk : 1 ≤ k) (ha : (-4096 ≤ a.x ∧ a.x ≤ 4096) ∧ -4096 ≤ a.y ∧ a.y ≤ 4096) : badE a (mv a h k) = false := by
  unfold badE
  simp only [Bool.or_eq_false_iff, decide_eq_false_iff_not]
  refine ⟨⟨by omega, by omega⟩, ?_⟩
  cases h <;> simp [mv] <;> omega
theorem poly_near {R : List Row} (hv : validR R = true) {L : List Crk} (hL : IsLp (Sof R) L) : ∀ p ∈ polyOf L, (-4096 ≤ p.x ∧ p.x ≤ 4096) ∧ -4096 ≤ p.y ∧ p.y ≤ 4096 := by
  have hC : ∀ d ∈ L, d ∈ collectL R := fun d hd => by
    obtain ⟨c, n, hc, pc, rfl, _⟩ := hL
    exact (collect_mem hv d).2 (orb_isC hc hd)
  intro p hp
  have : ∃ d ∈ L, d.p = p := by
    cases L with
    | nil => cases hp
    | cons c t =>
      rcases List.mem_cons.1 hp with rfl | hp
      · exact ⟨c, by simp, rfl⟩
      · obtain ⟨d, hd, e⟩ := turnG_mem hp; exact ⟨d, by simp [hd], e⟩
  obtain ⟨d, hd, rfl⟩ := this
  exact collect_near hv (hC d hd)
theorem trace_good {R : List Row} (hv : validR R = true) {Ls : List (List Crk)} (h : Lps (Sof R) Ls) : badL (Ls.map polyOf) = false := by
  unfold badL
  rw [List.any_eq_false]
  intro P hP
  obtain ⟨L, hL, rfl⟩ := List.mem_map.1 hP
  have hl := h.each L hL
  have hn := poly_near hv hl
  obtain ⟨p, P, hPe, hst, _⟩ := loop_path hl
  rw [hPe] at hn ⊢
  unfold badP
  rw [Bool.not_eq_true, List.any_eq_false]
  intro k hk
  rw [List.mem_range] at hk
  obtain ⟨h1, h2⟩ := cyc_get (p := p) (P := P) (k := k) (by simpa using hk)
  obtain ⟨a, ha⟩ := getq hk
  obtain ⟨b, hb⟩ := getq (l := p :: P) (k := (k + 1) % (p :: P).length) (Nat.mod_lt _ (by simp))
  rw [badAt_some ha hb, Bool.not_eq_true]
  obtain ⟨d, j, hj, rfl⟩ := pathAll_get hst k a b (h1.trans ha) (h2.trans hb)
  exact mv_bad hj (hn a (List.mem_of_getElem? ha))
theorem flat_sum_len : ∀ Ls : List (List Crk), ((Ls.map polyOf).map List.length).sum ≤ Ls.flatten.length
  | [] => by simp
  | L :: Ls => by
    have h1 := flat_sum_len Ls
    have h2 := polyOf_len L
    simp only [List.map_cons, List.sum_cons, List.flatten_cons, List.length_append]
    omega
theorem mem_sum_le : ∀ {l : List (List Cell)} {P : List Cell}, P ∈ l → P.length ≤ (l.map List.length).sum
  | Q :: l, P, h => by
    rw [List.map_cons, List.sum_cons]
    rcases List.mem_cons.1 h with rfl | h
    · omega
    · have := mem_sum_le h; omega
theorem len_le_flat {S : Cell → Bool} : ∀ {Ls : List (List Crk)}, (∀ L ∈ Ls, IsLp S L) → Ls.length ≤ Ls.flatten.length
  | [], _ => by simp
  | L :: Ls, h => by
    have h1 := len_le_flat fun M hM => h M (List.mem_cons_of_mem L hM)
    obtain ⟨c, n, hc, pc, rfl, _⟩ := h L (by simp)
    have := pc.pos
    rw [List.flatten_cons, List.length_append, orb_length, List.length_cons]
    omega
theorem trace_sizes {R : List Row} (hv : validR R = true) {Ls : List (List Crk)} (h : Lps (Sof R) Ls) : Ls.length ≤ (collectL R).length ∧ ((Ls.map polyOf).map List.length).sum ≤ (collectL R).length := by
  have hp := (lps_perm (collect_cracks hv) (collect_nodup hv) h).length_eq
  have h1 := len_le_flat h.each
  have h2 := flat_sum_len Ls
  omega
theorem back_trace {R : List Row} (hv : validR R = true) (hbig : (collectL R).length ≤ 1000000) {Ls : List (List Crk)} (h : Lps (Sof R) Ls) : PC Tryz.prog 16 [encPs (Ls.map polyOf)] (.p (.tup [.agg (regRow R), .int .i64 0])) := by
  obtain ⟨s1, s2⟩ := trace_sizes hv h
  obtain ⟨B, hB, hBc⟩ := back_spec (Ls.map polyOf) (by rw [List.length_map]; omega) (fun P hP => by have := mem_sum_le hP; omega) (by omega)
  have hg := trace_good hv h
  obtain ⟨b1, b2⟩ := hBc hg
  rw [hg] at hB
  have : B = R := region_uniq b1 hv fun c => by
    rw [b2, trace_wS hv h, rowOf_in hv]
    unfold Sof
    split
    · rename_i h; simp [h]
    · rename_i h; simp [h]
  rw [this] at hB
  exact hB

def R0 : List Row := [⟨1, [⟨2, 3⟩]⟩]
set_option maxHeartbeats 4000000 in
theorem awake_ok : PC Tryz.prog 14 [] (.p (.bool true)) := by
  have hv : validR R0 = true := by decide
  have hsm : smallR R0 := ⟨by decide, by decide⟩
  have hlen : (collectL R0).length = 4 := by decide
  obtain ⟨Ls, hL⟩ := lps_ex (collect_cracks hv)
  have c1 := trace_ok R0 hsm (fun _ => by omega) Ls fun _ => hL
  have c2 := back_trace hv (by omega) hL
  have c3 := blength_ok R0 hsm fun _ => by omega
  rw [hv, if_pos rfl] at c1 c3
  rw [hlen] at c3
  have c4 := rsame_ok R0 R0 hsm
  have e : Ls.map (fun L => [encCells (polyOf L)]) = (Ls.map polyOf).map polyRow := by rw [List.map_map]; rfl
  rw [e] at c1
  simp only [decide_true] at c4
  change PC _ _ [.sl ((Ls.map polyOf).map polyRow)] _ at c2
  generalize (Ls.map polyOf).map polyRow = ps at *
  have hR : regRow R0 = [.sl [[.int .i64 1, .sl [[.int .i64 2, .int .i64 3]]]]] := rfl
  rw [hR] at c1 c2 c3 c4
  clear e hL hlen hsm hv
  refine pc_of_awp cx (fn := Tryz.f14) (c := _) Tryz.func14 rfl rfl (Nat.le_of_ble_eq_true rfl) ?_
  rw [Tryz.ntmps14]; refine Nav.imp ?_
  refine awp_region cx [] fun K hK => ?_
  simp [push_cast]
  repeat (refine And.intro (by clear hK; intros; first | omega | (simp_all; done) | (simp_all <;> omega)) ?_)
  refine hK _ ?_; clear hK K; refine Nav.imp ?_
  refine awp_region cx [(1, .f (.sl [[.int .i64 2, .int .i64 3]])), (3, .f (.sl [[.int .i64 1, .sl [[.int .i64 2, .int .i64 3]]]]))] fun K hK => ?_
  simp [push_cast]
  repeat (refine And.intro (by clear hK; intros; first | omega | (simp_all; done) | (simp_all <;> omega)) ?_)
  refine hK _ ?_; clear hK K; refine Nav.imp ?_
  refine awp_region cx [(1, .p (.sl ps)), (2, .p (.tup [.agg [.sl [[.int .i64 1, .sl [[.int .i64 2, .int .i64 3]]]]], .int .i64 0]))] fun K hK => ?_
  simp [push_cast, c1, c2]
  repeat (refine And.intro (by clear hK; intros; first | omega | (simp_all; done) | (simp_all <;> omega)) ?_)
  refine hK _ ?_; clear hK K; refine Nav.imp ?_
  refine awp_region cx [(1, .p (.int .i64 4)), (10, .p (.bool true))] fun K hK => ?_
  simp [push_cast, c3, c4]
  repeat (refine And.intro (by clear hK; intros; first | omega | (simp_all; done) | (simp_all <;> omega)) ?_)
  refine hK _ ?_; clear hK K; refine Nav.imp ?_
  simp [push_cast]
end Go.Proofs.YtgicofpllopjmaaGreat

namespace Go.Proofs.YtgicofpllopjmaaGreat
open Go.Abs

theorem refC_eq (R : List Row) (x y : Int) : refC R ⟨x, y⟩ = (if Sof R ⟨x, y - 1⟩ = true then [] else [⟨⟨x, y⟩, .e⟩]) ++ ((if Sof R ⟨x + 1, y⟩ = true then [] else [⟨⟨x + 1, y⟩, .n⟩]) ++ ((if Sof R ⟨x, y + 1⟩ = true then [] else [⟨⟨x + 1, y + 1⟩, .w⟩]) ++ (if Sof R ⟨x - 1, y⟩ = true then [] else [⟨⟨x, y + 1⟩, .s⟩]))) := by
  have h1 : x + 1 - 1 = x := by omega
  have h2 : y + 1 - 1 = y := by omega
  simp only [refC, crks, List.filter_cons, List.filter_nil, rcell, h1, h2]
  cases Sof R ⟨x, y - 1⟩ <;> cases Sof R ⟨x + 1, y⟩ <;> cases Sof R ⟨x, y + 1⟩ <;> cases Sof R ⟨x - 1, y⟩ <;> rfl
theorem refC_len (R : List Row) : ∀ l : List Cell, (l.flatMap (refC R)).length ≤ 4 * l.length
  | [] => by simp
  | c :: l => by
    have h1 := refC_len R l
    have h2 : (refC R c).length ≤ 4 := Nat.le_trans (List.length_filter_le _ _) (by simp [crks])
    rw [List.flatMap_cons, List.length_append, List.length_cons]
    omega
theorem conB_S {R : List Row} (hv : validR R = true) (c : Cell) : conB R c = Sof R c := by simp [conB, hv, Sof]
set_option maxHeartbeats 16000000 in
theorem cracks22_ok (R : List Row) (hR : smallR R) (hv : validR R = true) (hn : (regCells R).length ≤ 1000000) : PC Tryz.prog 30 [.agg (regRow R)] (.p (encCk (refL R))) := by
  have c0 := rcells_ok R hR (fun _ => hn)
  have hcl : cellsOf R = regCells R := by unfold cellsOf; rw [if_pos hv]
  rw [hcl] at c0
  have hcon : ∀ c : Cell, PC Tryz.prog 63 [.agg (regRow R), .agg c.row] (.p (.bool (Sof R c))) := fun c => by
    have := contains18_ok R c hR
    rw [conB_S hv] at this
    exact this
  have hbd : ∀ c ∈ regCells R, -4096 ≤ c.x ∧ c.x < 4096 ∧ -4096 ≤ c.y ∧ c.y < 4096 := fun c hc => by
    have := cells_on hv hc
    simp [onG] at this; omega
  have hfull : refL R = (regCells R).flatMap (refC R) := rfl
  generalize refL R = full at *
  generalize regCells R = l at *
  have hlen : ∀ i, ((l.take i).flatMap (refC R)).length ≤ 4000000 := fun i => by
    have h1 := refC_len R (l.take i)
    have h2 : (l.take i).length ≤ l.length := by rw [List.length_take]; omega
    omega
  refine pc_of_awp cx (fn := Tryz.f30) (c := _) Tryz.func30 rfl rfl (Nat.le_of_ble_eq_true rfl) ?_
  rw [Tryz.ntmps30]; refine Nav.imp ?_
  refine awp_region cx [] fun K hK => ?_
  simp [push_cast]
  repeat (refine And.intro (by clear hK; intros; first | omega | (simp_all; done) | (simp_all <;> omega)) ?_)
  refine hK _ ?_; clear hK K; refine Nav.imp ?_
  refine awp_region cx [] fun K hK => ?_
  simp [push_cast]
  repeat (refine And.intro (by clear hK; intros; first | omega | (simp_all; done) | (simp_all <;> omega)) ?_)
  refine hK _ ?_; clear hK K; refine Nav.imp ?_
  refine awp_region cx [(1, .p (encCells l))] fun K hK => ?_
  simp [push_cast, c0]
  repeat (refine And.intro (by clear hK; intros; first | omega | (simp_all; done) | (simp_all <;> omega)) ?_)
  refine hK _ ?_; clear hK K; refine Nav.imp ?_
  refine awp_region cx [] fun K hK => ?_
  simp [push_cast]
  repeat (refine And.intro (by clear hK; intros; first | omega | (simp_all; done) | (simp_all <;> omega)) ?_)
  refine hK _ ?_; clear hK K; refine Nav.imp ?_
  refine awp_loop (β := Nat × List Crk) (fun s => ⟨99, [(1, .ptr 0 0 0), (3, .hs 1 0 s.2.length), (4, .d (encCells l)), (5, .d (.int .i64 s.1))], [(0, some ⟨24, 1, [[.d (encRows R)]]⟩), (1, some ⟨64, 4, dr (s.2.map ck)⟩)], 2⟩) (fun s => s.1 ≤ l.length ∧ s.2 = (l.take s.1).flatMap (refC R)) (fun s => l.length - s.1) (0, []) ?_ ⟨Nat.zero_le _, by simp⟩ ?_
  · refine weak_of [(0, some 0), (1, none)] rfl (by simp [upT, up, upL, push_cast]) (by simp [upH, upR, upL, up, push_cast]) (by simp [namesOk, push_cast]) (by simp [olds])
  · rintro ⟨i, out⟩ ⟨hi, hout⟩
    simp only at hi hout
    refine Nav.imp ?_
    refine awp_region cx [] fun K hK => ?_
    simp [push_cast]
    repeat (refine And.intro (by clear hK; intros; first | omega | (simp_all; done) | (simp_all <;> omega)) ?_)
    refine hK _ ?_; clear hK K; refine Nav.imp ?_
    refine awp_cond (b := decide ((i : Int) < l.length)) (by simp [push_cast]) (fun hb => ?_) (fun hb => ?_) <;> (refine Nav.imp ?_)
    · have hlt : i < l.length := by simpa using hb
      obtain ⟨c, hc⟩ := getq hlt
      have hcb := hbd c (List.mem_of_getElem? hc)
      have e0 := wrap_i64 (n := (i : Int) + 1) (by omega) (by omega)
      have hol := hlen i
      rw [← hout] at hol
      have hnx := flat_take (refC R) hc
      rw [← hout] at hnx
      have hol2 := hlen (i + 1)
      rw [hnx] at hol2
      obtain ⟨x, y⟩ := c
      simp only at hcb
      rw [refC_eq] at hnx hol2
      have w1 := wrap_i64 (n := x + 1) (by omega) (by omega)
      have w2 := wrap_i64 (n := y + 1) (by omega) (by omega)
      have w3 := wrap_i64 (n := x - 1) (by omega) (by omega)
      have w4 := wrap_i64 (n := y - 1) (by omega) (by omega)
      have k1 := hcon ⟨x, y - 1⟩
      have k2 := hcon ⟨x + 1, y⟩
      have k3 := hcon ⟨x, y + 1⟩
      have k4 := hcon ⟨x - 1, y⟩
      generalize Sof R ⟨x, y - 1⟩ = b1 at *
      generalize Sof R ⟨x + 1, y⟩ = b2 at *
      generalize Sof R ⟨x, y + 1⟩ = b3 at *
      generalize Sof R ⟨x - 1, y⟩ = b4 at *
      simp only [← List.append_assoc] at hnx
      obtain ⟨o1, ho1⟩ : ∃ o1, o1 = out ++ (if b1 = true then [] else [⟨⟨x, y⟩, .e⟩]) := ⟨_, rfl⟩
      rw [← ho1] at hnx
      obtain ⟨o2, ho2⟩ : ∃ o2, o2 = o1 ++ (if b2 = true then [] else [⟨⟨x + 1, y⟩, .n⟩]) := ⟨_, rfl⟩
      rw [← ho2] at hnx
      obtain ⟨o3, ho3⟩ : ∃ o3, o3 = o2 ++ (if b3 = true then [] else [⟨⟨x + 1, y + 1⟩, .w⟩]) := ⟨_, rfl⟩
      rw [← ho3] at hnx
      obtain ⟨o4, ho4⟩ : ∃ o4, o4 = o3 ++ (if b4 = true then [] else [⟨⟨x, y + 1⟩, .s⟩]) := ⟨_, rfl⟩
      rw [← ho4] at hnx
      have l1 : o1.length ≤ out.length + 1 := by rw [ho1]; split <;> simp
      have l2 : o2.length ≤ o1.length + 1 := by rw [ho2]; split <;> simp
      have l3 : o3.length ≤ o2.length + 1 := by rw [ho3]; split <;> simp
      have h320 : (out.length + 1) * 32 ≤ 140737488355328 := by omega
      have h321 : (o1.length + 1) * 32 ≤ 140737488355328 := by omega
      have h322 : (o2.length + 1) * 32 ≤ 140737488355328 := by omega
      have h323 : (o3.length + 1) * 32 ≤ 140737488355328 := by omega
      refine awp_region cx [] fun K hK => ?_
      simp [push_cast, hc]
      repeat (refine And.intro (by clear hK; intros; first | omega | (simp_all; done) | (simp_all <;> omega)) ?_)
      refine hK _ ?_; clear hK K; refine Nav.imp ?_
      refine awp_region cx [] fun K hK => ?_
      simp [push_cast, hc]
      repeat (refine And.intro (by clear hK; intros; first | omega | (simp_all; done) | (simp_all <;> omega)) ?_)
      refine hK _ ?_; clear hK K; refine Nav.imp ?_
      refine awp_region cx [] fun K hK => ?_
      simp [push_cast]
      repeat (refine And.intro (by clear hK; intros; first | omega | (simp_all; done) | (simp_all <;> omega)) ?_)
      refine hK _ ?_; clear hK K; refine Nav.imp ?_
      refine awp_region cx [] fun K hK => ?_
      simp [push_cast, w1]
      repeat (refine And.intro (by clear hK; intros; first | omega | (simp_all; done) | (simp_all <;> omega)) ?_)
      refine hK _ ?_; clear hK K; refine Nav.imp ?_
      refine awp_region cx [] fun K hK => ?_
      simp [push_cast, w1, w2]
      repeat (refine And.intro (by clear hK; intros; first | omega | (simp_all; done) | (simp_all <;> omega)) ?_)
      refine hK _ ?_; clear hK K; refine Nav.imp ?_
      refine awp_region cx [] fun K hK => ?_
      simp [push_cast, w2]
      repeat (refine And.intro (by clear hK; intros; first | omega | (simp_all; done) | (simp_all <;> omega)) ?_)
      refine hK _ ?_; clear hK K; refine Nav.imp ?_
      refine awp_weak (s' := ⟨99, [(1, .ptr 0 0 0), (3, .hs 1 0 out.length), (4, .d (encCells l)), (5, .d (.int .i64 i)), (6, .d (.int .i64 x)), (7, .d (.int .i64 y)), (8, .ptr 2 0 0), (9, .ptr 3 0 0), (10, .ptr 4 0 0), (11, .ptr 5 0 0)], [(0, some ⟨24, 1, [[.d (encRows R)]]⟩), (1, some ⟨64, 4, dr (out.map ck)⟩), (2, some ⟨43, 2, [[.d (.int .i64 (x)), .d (.int .i64 (y))]]⟩), (3, some ⟨43, 2, [[.d (.int .i64 (x + 1)), .d (.int .i64 (y))]]⟩), (4, some ⟨43, 2, [[.d (.int .i64 (x + 1)), .d (.int .i64 (y + 1))]]⟩), (5, some ⟨43, 2, [[.d (.int .i64 (x)), .d (.int .i64 (y + 1))]]⟩)], 6⟩) ?_ ?_
      · refine weak_of [(0, some 0), (1, some 1), (2, some 21), (3, some 27), (4, some 34), (5, some 40)] rfl (by simp [upT, up, upL, push_cast]) (by simp [upH, upR, upL, up, push_cast]) (by simp [namesOk, push_cast]) (by simp [olds])
      apply cut_
      · intro key
        refine awp_region cx [(5, .p (.bool b1))] fun K hK => ?_
        simp [push_cast, k1, w1, w2, w3, w4]
        repeat (refine And.intro (by clear hK; intros; first | omega | (simp_all; done) | (simp_all <;> omega)) ?_)
        refine hK _ ?_; clear hK K; refine Nav.imp ?_
        refine awp_cond (b := !b1) (by simp [push_cast]) (fun hb => ?_) (fun hb => ?_) <;> (refine Nav.imp ?_)
        · simp at hb
          rw [hb] at ho1
          simp only [Bool.false_eq_true, if_false] at ho1
          refine awp_region cx [] fun K hK => ?_
          simp [push_cast, h320]
          repeat (refine And.intro (by clear hK; intros; first | omega | (simp_all; done) | (simp_all <;> omega)) ?_)
          refine hK _ ?_; clear hK K; refine Nav.imp ?_
          refine awp_weak (s' := ⟨99, [(1, .ptr 0 0 0), (3, .hs 1 0 o1.length), (4, .d (encCells l)), (5, .d (.int .i64 i)), (6, .d (.int .i64 x)), (7, .d (.int .i64 y)), (8, .ptr 2 0 0), (9, .ptr 3 0 0), (10, .ptr 4 0 0), (11, .ptr 5 0 0)], [(0, some ⟨24, 1, [[.d (encRows R)]]⟩), (1, some ⟨64, 4, dr (o1.map ck)⟩), (2, some ⟨43, 2, [[.d (.int .i64 (x)), .d (.int .i64 (y))]]⟩), (3, some ⟨43, 2, [[.d (.int .i64 (x + 1)), .d (.int .i64 (y))]]⟩), (4, some ⟨43, 2, [[.d (.int .i64 (x + 1)), .d (.int .i64 (y + 1))]]⟩), (5, some ⟨43, 2, [[.d (.int .i64 (x)), .d (.int .i64 (y + 1))]]⟩)], 6⟩) ?_ key.h
          refine weak_of [(0, some 0), (1, some 18), (2, some 2), (3, some 3), (4, some 4), (5, some 5)] rfl (by simp [upT, up, upL, push_cast, ho1, ck, Crk.q, stp]) (by simp [upH, upR, upL, up, push_cast, ho1, ck, Crk.q, stp]) (by simp [namesOk, push_cast]) (by simp [olds])
        · simp at hb
          rw [hb] at ho1
          simp only [if_true, List.append_nil] at ho1
          refine awp_weak (s' := ⟨99, [(1, .ptr 0 0 0), (3, .hs 1 0 o1.length), (4, .d (encCells l)), (5, .d (.int .i64 i)), (6, .d (.int .i64 x)), (7, .d (.int .i64 y)), (8, .ptr 2 0 0), (9, .ptr 3 0 0), (10, .ptr 4 0 0), (11, .ptr 5 0 0)], [(0, some ⟨24, 1, [[.d (encRows R)]]⟩), (1, some ⟨64, 4, dr (o1.map ck)⟩), (2, some ⟨43, 2, [[.d (.int .i64 (x)), .d (.int .i64 (y))]]⟩), (3, some ⟨43, 2, [[.d (.int .i64 (x + 1)), .d (.int .i64 (y))]]⟩), (4, some ⟨43, 2, [[.d (.int .i64 (x + 1)), .d (.int .i64 (y + 1))]]⟩), (5, some ⟨43, 2, [[.d (.int .i64 (x)), .d (.int .i64 (y + 1))]]⟩)], 6⟩) ?_ key.h
          refine weak_of [(0, some 0), (1, some 1), (2, some 2), (3, some 3), (4, some 4), (5, some 5)] rfl (by simp [upT, up, upL, push_cast, ho1]) (by simp [upH, upR, upL, up, push_cast, ho1]) (by simp [namesOk, push_cast]) (by simp [olds])
      apply cut_
      · intro key
        refine awp_region cx [(5, .p (.bool b2))] fun K hK => ?_
        simp [push_cast, k2, w1, w2, w3, w4]
        repeat (refine And.intro (by clear hK; intros; first | omega | (simp_all; done) | (simp_all <;> omega)) ?_)
        refine hK _ ?_; clear hK K; refine Nav.imp ?_
        refine awp_cond (b := !b2) (by simp [push_cast]) (fun hb => ?_) (fun hb => ?_) <;> (refine Nav.imp ?_)
        · simp at hb
          rw [hb] at ho2
          simp only [Bool.false_eq_true, if_false] at ho2
          refine awp_region cx [] fun K hK => ?_
          simp [push_cast, h321]
          repeat (refine And.intro (by clear hK; intros; first | omega | (simp_all; done) | (simp_all <;> omega)) ?_)
          refine hK _ ?_; clear hK K; refine Nav.imp ?_
          refine awp_weak (s' := ⟨99, [(1, .ptr 0 0 0), (3, .hs 1 0 o2.length), (4, .d (encCells l)), (5, .d (.int .i64 i)), (6, .d (.int .i64 x)), (7, .d (.int .i64 y)), (8, .ptr 2 0 0), (9, .ptr 3 0 0), (10, .ptr 4 0 0), (11, .ptr 5 0 0)], [(0, some ⟨24, 1, [[.d (encRows R)]]⟩), (1, some ⟨64, 4, dr (o2.map ck)⟩), (2, some ⟨43, 2, [[.d (.int .i64 (x)), .d (.int .i64 (y))]]⟩), (3, some ⟨43, 2, [[.d (.int .i64 (x + 1)), .d (.int .i64 (y))]]⟩), (4, some ⟨43, 2, [[.d (.int .i64 (x + 1)), .d (.int .i64 (y + 1))]]⟩), (5, some ⟨43, 2, [[.d (.int .i64 (x)), .d (.int .i64 (y + 1))]]⟩)], 6⟩) ?_ key.h
          refine weak_of [(0, some 0), (1, some 18), (2, some 2), (3, some 3), (4, some 4), (5, some 5)] rfl (by simp [upT, up, upL, push_cast, ho2, ck, Crk.q, stp]) (by simp [upH, upR, upL, up, push_cast, ho2, ck, Crk.q, stp]) (by simp [namesOk, push_cast]) (by simp [olds])
        · simp at hb
          rw [hb] at ho2
          simp only [if_true, List.append_nil] at ho2
          refine awp_weak (s' := ⟨99, [(1, .ptr 0 0 0), (3, .hs 1 0 o2.length), (4, .d (encCells l)), (5, .d (.int .i64 i)), (6, .d (.int .i64 x)), (7, .d (.int .i64 y)), (8, .ptr 2 0 0), (9, .ptr 3 0 0), (10, .ptr 4 0 0), (11, .ptr 5 0 0)], [(0, some ⟨24, 1, [[.d (encRows R)]]⟩), (1, some ⟨64, 4, dr (o2.map ck)⟩), (2, some ⟨43, 2, [[.d (.int .i64 (x)), .d (.int .i64 (y))]]⟩), (3, some ⟨43, 2, [[.d (.int .i64 (x + 1)), .d (.int .i64 (y))]]⟩), (4, some ⟨43, 2, [[.d (.int .i64 (x + 1)), .d (.int .i64 (y + 1))]]⟩), (5, some ⟨43, 2, [[.d (.int .i64 (x)), .d (.int .i64 (y + 1))]]⟩)], 6⟩) ?_ key.h
          refine weak_of [(0, some 0), (1, some 1), (2, some 2), (3, some 3), (4, some 4), (5, some 5)] rfl (by simp [upT, up, upL, push_cast, ho2]) (by simp [upH, upR, upL, up, push_cast, ho2]) (by simp [namesOk, push_cast]) (by simp [olds])
      apply cut_
      · intro key
        refine awp_region cx [(5, .p (.bool b3))] fun K hK => ?_
        simp [push_cast, k3, w1, w2, w3, w4]
        repeat (refine And.intro (by clear hK; intros; first | omega | (simp_all; done) | (simp_all <;> omega)) ?_)
        refine hK _ ?_; clear hK K; refine Nav.imp ?_
        refine awp_cond (b := !b3) (by simp [push_cast]) (fun hb => ?_) (fun hb => ?_) <;> (refine Nav.imp ?_)
        · simp at hb
          rw [hb] at ho3
          simp only [Bool.false_eq_true, if_false] at ho3
          refine awp_region cx [] fun K hK => ?_
          simp [push_cast, h322]
          repeat (refine And.intro (by clear hK; intros; first | omega | (simp_all; done) | (simp_all <;> omega)) ?_)
          refine hK _ ?_; clear hK K; refine Nav.imp ?_
          refine awp_weak (s' := ⟨99, [(1, .ptr 0 0 0), (3, .hs 1 0 o3.length), (4, .d (encCells l)), (5, .d (.int .i64 i)), (6, .d (.int .i64 x)), (7, .d (.int .i64 y)), (8, .ptr 2 0 0), (9, .ptr 3 0 0), (10, .ptr 4 0 0), (11, .ptr 5 0 0)], [(0, some ⟨24, 1, [[.d (encRows R)]]⟩), (1, some ⟨64, 4, dr (o3.map ck)⟩), (2, some ⟨43, 2, [[.d (.int .i64 (x)), .d (.int .i64 (y))]]⟩), (3, some ⟨43, 2, [[.d (.int .i64 (x + 1)), .d (.int .i64 (y))]]⟩), (4, some ⟨43, 2, [[.d (.int .i64 (x + 1)), .d (.int .i64 (y + 1))]]⟩), (5, some ⟨43, 2, [[.d (.int .i64 (x)), .d (.int .i64 (y + 1))]]⟩)], 6⟩) ?_ key.h
          refine weak_of [(0, some 0), (1, some 18), (2, some 2), (3, some 3), (4, some 4), (5, some 5)] rfl (by simp [upT, up, upL, push_cast, ho3, ck, Crk.q, stp]) (by simp [upH, upR, upL, up, push_cast, ho3, ck, Crk.q, stp]) (by simp [namesOk, push_cast]) (by simp [olds])
        · simp at hb
          rw [hb] at ho3
          simp only [if_true, List.append_nil] at ho3
          refine awp_weak (s' := ⟨99, [(1, .ptr 0 0 0), (3, .hs 1 0 o3.length), (4, .d (encCells l)), (5, .d (.int .i64 i)), (6, .d (.int .i64 x)), (7, .d (.int .i64 y)), (8, .ptr 2 0 0), (9, .ptr 3 0 0), (10, .ptr 4 0 0), (11, .ptr 5 0 0)], [(0, some ⟨24, 1, [[.d (encRows R)]]⟩), (1, some ⟨64, 4, dr (o3.map ck)⟩), (2, some ⟨43, 2, [[.d (.int .i64 (x)), .d (.int .i64 (y))]]⟩), (3, some ⟨43, 2, [[.d (.int .i64 (x + 1)), .d (.int .i64 (y))]]⟩), (4, some ⟨43, 2, [[.d (.int .i64 (x + 1)), .d (.int .i64 (y + 1))]]⟩), (5, some ⟨43, 2, [[.d (.int .i64 (x)), .d (.int .i64 (y + 1))]]⟩)], 6⟩) ?_ key.h
          refine weak_of [(0, some 0), (1, some 1), (2, some 2), (3, some 3), (4, some 4), (5, some 5)] rfl (by simp [upT, up, upL, push_cast, ho3]) (by simp [upH, upR, upL, up, push_cast, ho3]) (by simp [namesOk, push_cast]) (by simp [olds])
      apply cut_
      · intro key
        refine awp_region cx [(5, .p (.bool b4))] fun K hK => ?_
        simp [push_cast, k4, w1, w2, w3, w4]
        repeat (refine And.intro (by clear hK; intros; first | omega | (simp_all; done) | (simp_all <;> omega)) ?_)
        refine hK _ ?_; clear hK K; refine Nav.imp ?_
        refine awp_cond (b := !b4) (by simp [push_cast]) (fun hb => ?_) (fun hb => ?_) <;> (refine Nav.imp ?_)
        · simp at hb
          rw [hb] at ho4
          simp only [Bool.false_eq_true, if_false] at ho4
          refine awp_region cx [] fun K hK => ?_
          simp [push_cast, h323]
          repeat (refine And.intro (by clear hK; intros; first | omega | (simp_all; done) | (simp_all <;> omega)) ?_)
          refine hK _ ?_; clear hK K; refine Nav.imp ?_
          refine awp_weak (s' := ⟨99, [(1, .ptr 0 0 0), (3, .hs 1 0 o4.length), (4, .d (encCells l)), (5, .d (.int .i64 i)), (6, .d (.int .i64 x)), (7, .d (.int .i64 y)), (8, .ptr 2 0 0), (9, .ptr 3 0 0), (10, .ptr 4 0 0), (11, .ptr 5 0 0)], [(0, some ⟨24, 1, [[.d (encRows R)]]⟩), (1, some ⟨64, 4, dr (o4.map ck)⟩), (2, some ⟨43, 2, [[.d (.int .i64 (x)), .d (.int .i64 (y))]]⟩), (3, some ⟨43, 2, [[.d (.int .i64 (x + 1)), .d (.int .i64 (y))]]⟩), (4, some ⟨43, 2, [[.d (.int .i64 (x + 1)), .d (.int .i64 (y + 1))]]⟩), (5, some ⟨43, 2, [[.d (.int .i64 (x)), .d (.int .i64 (y + 1))]]⟩)], 6⟩) ?_ key.h
          refine weak_of [(0, some 0), (1, some 18), (2, some 2), (3, some 3), (4, some 4), (5, some 5)] rfl (by simp [upT, up, upL, push_cast, ho4, ck, Crk.q, stp]) (by simp [upH, upR, upL, up, push_cast, ho4, ck, Crk.q, stp]) (by simp [namesOk, push_cast]) (by simp [olds])
        · simp at hb
          rw [hb] at ho4
          simp only [if_true, List.append_nil] at ho4
          refine awp_weak (s' := ⟨99, [(1, .ptr 0 0 0), (3, .hs 1 0 o4.length), (4, .d (encCells l)), (5, .d (.int .i64 i)), (6, .d (.int .i64 x)), (7, .d (.int .i64 y)), (8, .ptr 2 0 0), (9, .ptr 3 0 0), (10, .ptr 4 0 0), (11, .ptr 5 0 0)], [(0, some ⟨24, 1, [[.d (encRows R)]]⟩), (1, some ⟨64, 4, dr (o4.map ck)⟩), (2, some ⟨43, 2, [[.d (.int .i64 (x)), .d (.int .i64 (y))]]⟩), (3, some ⟨43, 2, [[.d (.int .i64 (x + 1)), .d (.int .i64 (y))]]⟩), (4, some ⟨43, 2, [[.d (.int .i64 (x + 1)), .d (.int .i64 (y + 1))]]⟩), (5, some ⟨43, 2, [[.d (.int .i64 (x)), .d (.int .i64 (y + 1))]]⟩)], 6⟩) ?_ key.h
          refine weak_of [(0, some 0), (1, some 1), (2, some 2), (3, some 3), (4, some 4), (5, some 5)] rfl (by simp [upT, up, upL, push_cast, ho4]) (by simp [upH, upR, upL, up, push_cast, ho4]) (by simp [namesOk, push_cast]) (by simp [olds])
      refine awp_region cx [] fun K hK => ?_
      simp [push_cast, e0]
      repeat (refine And.intro (by clear hK; intros; first | omega | (simp_all; done) | (simp_all <;> omega)) ?_)
      refine hK _ ?_; clear hK K; refine Nav.imp ?_
      refine ⟨(i + 1, o4), ⟨hlt, hnx.symm⟩, by simp only; omega, ?_⟩
      refine weak_of [(0, some 0), (1, some 1)] rfl (by simp [upT, up, upL, push_cast]) (by simp [upH, upR, upL, up, push_cast]) (by simp [namesOk, push_cast]) (by simp [olds])
    · have hie : i = l.length := by simp at hb; omega
      subst hie
      rw [List.take_length] at hout
      rw [hfull, ← hout]
      refine awp_freeze 1 (out.map ck) rfl (by simp [push_cast]) fun K hK => ?_
      simp [push_cast, St.fz, fzT, fzH, fzO, fz, fzL, fzR, fzR_dr, fzR_app, fzR_set, fzL_map]
      refine hK _ ?_; clear hK K; refine Nav.imp ?_
      refine awp_region cx [] fun K hK => ?_
      simp [push_cast]
      repeat (refine And.intro (by clear hK; intros; first | omega | (simp_all; done) | (simp_all <;> omega)) ?_)
      refine hK _ ?_; clear hK K; refine Nav.imp ?_
      simp [push_cast]
theorem rlength_ok (R : List Row) (hR : smallR R) (hn : validR R = true → (regCells R).length ≤ 1000000) : PC Tryz.prog 13 [.agg (regRow R)] (.p (.int .i64 (if validR R then (collectL R).length else 0 : Nat))) := by
  have c1 := validR_ok R hR
  have hl := fun h => refL_len (R := R) h
  have c2 := fun h => cracks22_ok R hR h (hn h)
  generalize hv : validR R = v at *
  refine pc_of_awp cx (fn := Tryz.f13) (c := _) Tryz.func13 rfl rfl (Nat.le_of_ble_eq_true rfl) ?_
  rw [Tryz.ntmps13]; refine Nav.imp ?_
  refine awp_region cx [] fun K hK => ?_
  simp [push_cast]
  repeat (refine And.intro (by clear hK; intros; first | omega | (simp_all; done) | (simp_all <;> omega)) ?_)
  refine hK _ ?_; clear hK K; refine Nav.imp ?_
  refine awp_region cx [(1, .p (.bool v))] fun K hK => ?_
  simp [push_cast, c1]
  repeat (refine And.intro (by clear hK; intros; first | omega | (simp_all; done) | (simp_all <;> omega)) ?_)
  refine hK _ ?_; clear hK K; refine Nav.imp ?_
  refine awp_cond (b := !v) (by simp [push_cast]) (fun hb => ?_) (fun hb => ?_) <;> (refine Nav.imp ?_)
  · simp at hb
    subst hb
    refine awp_region cx [] fun K hK => ?_
    simp [push_cast]
    repeat (refine And.intro (by clear hK; intros; first | omega | (simp_all; done) | (simp_all <;> omega)) ?_)
    refine hK _ ?_; clear hK K; refine Nav.imp ?_
    simp [push_cast]
  · simp at hb
    subst hb
    have c2 := c2 rfl
    have hl := hl rfl
    refine awp_region cx [(1, .p (encCk (refL R)))] fun K hK => ?_
    simp [push_cast, c2]
    repeat (refine And.intro (by clear hK; intros; first | omega | (simp_all; done) | (simp_all <;> omega)) ?_)
    refine hK _ ?_; clear hK K; refine Nav.imp ?_
    simp [push_cast, hl]
end Go.Proofs.YtgicofpllopjmaaGreat

namespace Go.Proofs.YtgicofpllopjmaaGreat
open Go.Abs

set_option maxHeartbeats 16000000 in
theorem rtrace_ok (R : List Row) (hR : smallR R) (hn : validR R = true → (regCells R).length ≤ 100000) (Ls : List (List Crk)) (hL : validR R = true → Lps (Sof R) Ls) : PC Tryz.prog 11 [.agg (regRow R)] (.p (encPs (if validR R then Ls.map polyOf else []))) := by
  have c1 := validR_ok R hR
  have c2 := fun h => cracks22_ok R hR h (by have := hn h; omega)
  have hnd := fun h => refL_nodup (R := R) h
  have hC := fun h => refL_cracks (R := R) h
  have hlen := fun h => refL_len (R := R) h
  have hcl := fun h => collect_len (R := R) h
  generalize refL R = l at *
  generalize hv : validR R = v at *
  refine pc_of_awp cx (fn := Tryz.f11) (c := _) Tryz.func11 rfl rfl (Nat.le_of_ble_eq_true rfl) ?_
  rw [Tryz.ntmps11]; refine Nav.imp ?_
  refine awp_region cx [] fun K hK => ?_
  simp [push_cast]
  repeat (refine And.intro (by clear hK; intros; first | omega | (simp_all; done) | (simp_all <;> omega)) ?_)
  refine hK _ ?_; clear hK K; refine Nav.imp ?_
  refine awp_region cx [(1, .p (.bool v))] fun K hK => ?_
  simp [push_cast, c1]
  repeat (refine And.intro (by clear hK; intros; first | omega | (simp_all; done) | (simp_all <;> omega)) ?_)
  refine hK _ ?_; clear hK K; refine Nav.imp ?_
  refine awp_cond (b := !v) (by simp [push_cast]) (fun hb => ?_) (fun hb => ?_) <;> (refine Nav.imp ?_)
  · simp at hb
    subst hb
    refine awp_region cx [] fun K hK => ?_
    simp [push_cast]
    repeat (refine And.intro (by clear hK; intros; first | omega | (simp_all; done) | (simp_all <;> omega)) ?_)
    refine hK _ ?_; clear hK K; refine Nav.imp ?_
    simp [push_cast]
  · simp at hb
    subst hb
    have c2 := c2 rfl
    have hnd := hnd rfl
    have hC := hC rfl
    have hL := hL rfl
    have hl : l.length ≤ 1000000 := by
      have h1 := hlen rfl
      have h2 := hcl rfl
      have h3 := hn rfl
      omega
    clear hlen hcl hn
    rw [if_pos rfl]
    have hrep : dr ((fl l []).map bR) = (List.replicate l.length [AV.d (.bool false)]) := by rw [fl_nil]; simp [dr, bR]
    have hrep2 : (List.replicate l.length [AV.d (.bool false)]) = dr ((fl l []).map bR) := hrep.symm
    refine awp_region cx [(1, .p (encCk l))] fun K hK => ?_
    simp [push_cast, c2]
    repeat (refine And.intro (by clear hK; intros; first | omega | (simp_all; done) | (simp_all <;> omega)) ?_)
    refine hK _ ?_; clear hK K; refine Nav.imp ?_
    refine awp_region cx [] fun K hK => ?_
    simp [push_cast]
    repeat (refine And.intro (by clear hK; intros; first | omega | (simp_all; done) | (simp_all <;> omega)) ?_)
    refine hK _ ?_; clear hK K; refine Nav.imp ?_
    refine awp_region cx [] fun K hK => ?_
    simp [push_cast]
    repeat (refine And.intro (by clear hK; intros; first | omega | (simp_all; done) | (simp_all <;> omega)) ?_)
    refine hK _ ?_; clear hK K; refine Nav.imp ?_
    refine awp_region cx [] fun K hK => ?_
    simp [push_cast]
    repeat (refine And.intro (by clear hK; intros; first | omega | (simp_all; done) | (simp_all <;> omega)) ?_)
    refine hK _ ?_; clear hK K; refine Nav.imp ?_
    refine awp_loop (β := Nat × List (List Crk) × List Crk) (fun s => ⟨50, [(3, .d (encCk l)), (4, .hs 0 0 l.length), (5, .hs 1 0 s.2.1.length), (6, .d (.int .i64 s.1))], [(0, some ⟨4, 1, dr ((fl l s.2.2).map bR)⟩), (1, some ⟨40, 1, dr ((s.2.1.map polyOf).map polyRow)⟩)], 2⟩) (fun s => s.1 ≤ l.length ∧ TR (Sof R) l s.1 s.2.1 s.2.2) (fun s => l.length - s.1) (0, [], []) ?_ ⟨Nat.zero_le _, TR.init _ _⟩ ?_
    · refine weak_of [(0, some 10), (1, none)] rfl (by simp [upT, up, upL, push_cast, hrep2]) (by simp [upH, upR, upL, up, push_cast, hrep2]) (by simp [namesOk, push_cast]) (by simp [olds])
    · rintro ⟨i, Fs, dn⟩ ⟨hi, hI⟩
      simp only at hi hI
      have hFl := hI.len
      have hpol := hI.polys
      refine Nav.imp ?_
      refine awp_region cx [] fun K hK => ?_
      simp [push_cast]
      repeat (refine And.intro (by clear hK; intros; first | omega | (simp_all; done) | (simp_all <;> omega)) ?_)
      refine hK _ ?_; clear hK K; refine Nav.imp ?_
      refine awp_cond (b := decide ((i : Int) < l.length)) (by simp [push_cast]) (fun hb => ?_) (fun hb => ?_) <;> (refine Nav.imp ?_)
      · have hlt : i < l.length := by simpa using hb
        obtain ⟨c0, hc0⟩ := getq hlt
        have e0 := wrap_i64 (n := (i : Int) + 1) (by omega) (by omega)
        have hcC := (hC c0).1 (List.mem_of_getElem? hc0)
        obtain ⟨n, pn, hnl⟩ := per_ex hC.cl hC.inj ((hC c0).2 hcC)
        have hol : ∀ m, (orb (suc (Sof R)) m c0).length = m := fun m => orb_length m c0
        generalize hPs : Fs.map polyOf = Ps at *
        have hPl : Ps.length = Fs.length := by rw [← hPs, List.length_map]
        have hPs2 : List.map (polyRow ∘ polyOf) Fs = Ps.map polyRow := by rw [← hPs, List.map_map]
        rw [← hPl]
        refine awp_region cx [] fun K hK => ?_
        simp [push_cast]
        repeat (refine And.intro (by clear hK; intros; first | omega | (simp_all; done) | (simp_all <;> omega)) ?_)
        refine hK _ ?_; clear hK K; refine Nav.imp ?_
        refine awp_region cx [] fun K hK => ?_
        simp [push_cast]
        repeat (refine And.intro (by clear hK; intros; first | omega | (simp_all; done) | (simp_all <;> omega)) ?_)
        refine hK _ ?_; clear hK K; refine Nav.imp ?_
        refine awp_loop (β := Nat × Nat) (fun s => ⟨50, [(3, .d (encCk l)), (4, .hs 0 0 l.length), (5, .hs 1 0 Ps.length), (6, .d (.int .i64 i)), (7, .hs 2 0 s.1), (8, .d (.int .i64 s.2))], [(0, some ⟨4, 1, dr ((fl l (dn ++ orb (suc (Sof R)) s.1 c0)).map bR)⟩), (1, some ⟨40, 1, dr (Ps.map polyRow)⟩), (2, some ⟨64, 4, dr ((orb (suc (Sof R)) s.1 c0).map ck)⟩)], 3⟩) (fun s => s.1 ≤ n ∧ l[s.2]? = some (itn (suc (Sof R)) s.1 c0) ∧ (s.1 = 0 ∨ c0 ∉ dn)) (fun s => n + 1 - s.1) (0, i) ?_ ⟨Nat.zero_le _, hc0, .inl rfl⟩ ?_
        · refine weak_of [(0, some 0), (1, some 1), (2, none)] rfl (by simp [upT, up, upL, push_cast, orb, hPs2]) (by simp [upH, upR, upL, up, push_cast, orb, hPs2]) (by simp [namesOk, push_cast]) (by simp [olds])
        · rintro ⟨m, k⟩ ⟨hm, hk, h0⟩
          simp only at hm hk h0
          have hfl := loop_flag hC hI hcC pn hm h0
          have hg := fl_get (dn := dn ++ orb (suc (Sof R)) m c0) hk
          have hst := fl_set (dn := dn ++ orb (suc (Sof R)) m c0) hnd hk
          rw [List.append_assoc, ← orb_succ] at hst
          have hos := orb_succ (f := suc (Sof R)) m c0
          have hkl := (List.getElem?_eq_some_iff.1 hk).1
          have hFL := fl_len l (dn ++ orb (suc (Sof R)) m c0)
          have hm1 := hol m
          have hcm := (hC _).1 (List.mem_of_getElem? hk)
          have c3 := after_ok l k _ hk hl
          obtain ⟨k2, ek, hk2⟩ := aftK_suc hC hnd hcm
          rw [ek] at c3
          have his := itn_succ (f := suc (Sof R)) m c0
          rw [← his] at hk2
          generalize hF : fl l (dn ++ orb (suc (Sof R)) m c0) = F at *
          generalize hO : orb (suc (Sof R)) m c0 = O at *
          generalize hcc : itn (suc (Sof R)) m c0 = cc at *
          have h32 : (m + 1) * 32 ≤ 140737488355328 := by omega
          have hgr : (F.map bR)[k]? = some [.bool (decide (cc ∈ dn ++ O))] := by rw [List.getElem?_map, hg]; rfl
          have hkF : k < F.length := by omega
          refine Nav.imp ?_
          refine awp_region cx [] fun K hK => ?_
          simp [push_cast, hgr, hFL]
          repeat (refine And.intro (by clear hK; intros; first | omega | (simp_all; done) | (simp_all <;> omega)) ?_)
          refine hK _ ?_; clear hK K; refine Nav.imp ?_
          refine awp_cond (b := !decide (cc ∈ dn ++ O)) (by simp [push_cast]) (fun hb => ?_) (fun hb => ?_) <;> (refine Nav.imp ?_)
          · simp only [Bool.not_eq_true', decide_eq_false_iff_not] at hb
            rw [hos] at hst
            have hmn : m < n := by
              rcases Nat.lt_or_ge m n with h | h
              · exact h
              · exfalso
                have : m = n := by omega
                by_cases hd : c0 ∈ dn
                · exact hb (hfl.2 (.inl ⟨hd, h0.resolve_right fun h => h hd⟩))
                · exact hb (hfl.2 (.inr ⟨hd, this⟩))
            have hnd0 : m + 1 = 0 ∨ c0 ∉ dn := .inr fun hd => hb (hfl.2 (.inl ⟨hd, h0.resolve_right fun h => h hd⟩))
            have ht1 : List.take m (O.map ck) = O.map ck := List.take_of_length_le (by simp [hm1])
            refine awp_region cx [] fun K hK => ?_
            simp [push_cast, hg, hFL]
            repeat (refine And.intro (by clear hK; intros; first | omega | (simp_all; done) | (simp_all <;> omega)) ?_)
            refine hK _ ?_; clear hK K; refine Nav.imp ?_
            refine awp_region cx [] fun K hK => ?_
            simp [push_cast, hk, h32, hm1]
            repeat (refine And.intro (by clear hK; intros; first | omega | (simp_all; done) | (simp_all <;> omega)) ?_)
            refine hK _ ?_; clear hK K; refine Nav.imp ?_
            refine awp_region cx [(2, .p (.int .i64 k2))] fun K hK => ?_
            simp [push_cast, c3]
            repeat (refine And.intro (by clear hK; intros; first | omega | (simp_all; done) | (simp_all <;> omega)) ?_)
            refine hK _ ?_; clear hK K; refine Nav.imp ?_
            refine ⟨(m + 1, k2), ⟨by omega, hk2, hnd0⟩, by simp only; omega, ?_⟩
            simp only [hos, ← hst]
            refine weak_of [(0, some 0), (1, some 1), (2, some 18)] rfl (by simp [upT, up, upL, push_cast, hm1, ht1]) (by simp [upH, upR, upL, up, push_cast, hm1, ht1]) (by simp [namesOk, push_cast]) (by simp [olds])
          · simp only [Bool.not_eq_false', decide_eq_true_eq] at hb
            rcases hfl.1 hb with ⟨hd, hm0⟩ | ⟨hd, hmn⟩
            · subst hm0
              have hO0 : O = [] := List.eq_nil_of_length_eq_zero hm1
              rw [hO0, List.append_nil] at hF
              refine awp_region cx [] fun K hK => ?_
              simp [push_cast]
              repeat (refine And.intro (by clear hK; intros; first | omega | (simp_all; done) | (simp_all <;> omega)) ?_)
              refine hK _ ?_; clear hK K; refine Nav.imp ?_
              refine awp_cond (b := false) (by simp [push_cast]) (fun hb => ?_) (fun hb => ?_) <;> (refine Nav.imp ?_)
              · simp at hb
              · refine awp_region cx [] fun K hK => ?_
                simp [push_cast, e0]
                repeat (refine And.intro (by clear hK; intros; first | omega | (simp_all; done) | (simp_all <;> omega)) ?_)
                refine hK _ ?_; clear hK K; refine Nav.imp ?_
                refine ⟨(i + 1, Fs, dn), ⟨hlt, hI.skip hc0 hd⟩, by simp only; omega, ?_⟩
                refine weak_of [(0, some 0), (1, some 1)] rfl (by simp [upT, up, upL, push_cast, hF, hPs2, hPl]) (by simp [upH, upR, upL, up, push_cast, hF, hPs2, hPl]) (by simp [namesOk, push_cast]) (by simp [olds])
            · obtain ⟨Ms, hI2, hins, hne⟩ := hI.go hC hc0 hd pn
              rw [hPs] at hins
              rw [← hmn, hO] at hins hne hI2
              have hpos := pn.pos
              have hOl : O.length ≤ 1000000 := by omega
              have c5 := polygon_ok O hOl (by omega)
              have c6 := insert_own Ps (polyR O) (by omega) hpol hne
              rw [hins] at c6
              have hMl := hI2.len
              generalize polyR O = pg at *
              have hm0 : (0 : Int) < m := by omega
              have hm00 : 0 < m := by omega
              have ht1 : List.take m (O.map ck) = O.map ck := List.take_of_length_le (by simp [hm1])
              have hle : m ≤ O.length := by omega
              refine awp_freeze 2 (O.map ck) rfl (by simp [push_cast, ht1, hle]) fun K hK => ?_
              simp [push_cast, St.fz, fzT, fzH, fzO, fz, fzL, fzR, fzR_dr, fzR_app, fzR_set, fzL_map, ht1, hle]
              refine hK _ ?_; clear hK K; refine Nav.imp ?_
              refine awp_freeze 1 (Ps.map polyRow) rfl (by simp [push_cast]) fun K hK => ?_
              simp [push_cast, St.fz, fzT, fzH, fzO, fz, fzL, fzR, fzR_dr, fzR_app, fzR_set, fzL_map]
              refine hK _ ?_; clear hK K; refine Nav.imp ?_
              refine awp_region cx [] fun K hK => ?_
              simp [push_cast]
              repeat (refine And.intro (by clear hK; intros; first | omega | (simp_all; done) | (simp_all <;> omega)) ?_)
              refine hK _ ?_; clear hK K; refine Nav.imp ?_
              have hm01 : 0 < O.length := by omega
              refine awp_cond (b := true) (by simp [push_cast, hm0, hm00, hm01]) (fun hb => ?_) (fun hb => ?_) <;> (refine Nav.imp ?_)
              · refine awp_region cx [(2, .p (.agg [encCells pg])), (3, .o 40 1 ((Ms.map polyOf).map polyRow))] fun K hK => ?_
                simp [push_cast, c5, c6]
                repeat (refine And.intro (by clear hK; intros; first | omega | (simp_all; done) | (simp_all <;> omega)) ?_)
                refine hK _ ?_; clear hK K; refine Nav.imp ?_
                refine awp_region cx [] fun K hK => ?_
                simp [push_cast, e0]
                repeat (refine And.intro (by clear hK; intros; first | omega | (simp_all; done) | (simp_all <;> omega)) ?_)
                refine hK _ ?_; clear hK K; refine Nav.imp ?_
                refine ⟨(i + 1, Ms, dn ++ O), ⟨hlt, hI2⟩, by simp only; omega, ?_⟩
                refine weak_of [(0, some 0), (1, some 14)] rfl (by simp [upT, up, upL, push_cast, hF]) (by simp [upH, upR, upL, up, push_cast, hF]) (by simp [namesOk, push_cast]) (by simp [olds])
              · simp at hb
      · have hie : i = l.length := by simp at hb; omega
        subst hie
        have := lps_uniq hC (hI.done hC) hL
        rw [← this]
        refine awp_freeze 1 ((Fs.map polyOf).map polyRow) rfl (by simp [push_cast]) fun K hK => ?_
        simp [push_cast, St.fz, fzT, fzH, fzO, fz, fzL, fzR, fzR_dr, fzR_app, fzR_set, fzL_map]
        refine hK _ ?_; clear hK K; refine Nav.imp ?_
        refine awp_region cx [] fun K hK => ?_
        simp [push_cast]
        repeat (refine And.intro (by clear hK; intros; first | omega | (simp_all; done) | (simp_all <;> omega)) ?_)
        refine hK _ ?_; clear hK K; refine Nav.imp ?_
        simp [push_cast]
end Go.Proofs.YtgicofpllopjmaaGreat

namespace Go.Proofs.YtgicofpllopjmaaGreat
open Go.Abs

def cut20 (x : Run) : Run := if x.a < x.b ∧ -4097 < x.a ∧ x.b < 4097 ∧ x.a < x.b - 20 then ⟨x.a, x.a + 20⟩ else x
def fewW (w : Row) : Row := ⟨w.y, (w.runs.take 4).map cut20⟩
def fewR (R : List Row) : List Row := (R.take 12).map fewW

theorem few_small (R : List Row) : smallR (fewR R) := by
  refine ⟨by simp [fewR]; omega, fun w hw => ?_⟩
  obtain ⟨v, _, rfl⟩ := List.mem_map.1 hw
  simp [fewW]; omega

theorem cut20_le (x : Run) (h : -4096 ≤ (cut20 x).a ∧ (cut20 x).b ≤ 4096) : ((cut20 x).b - (cut20 x).a).toNat ≤ 20 := by
  unfold cut20 at *
  split
  · simp only; omega
  · rename_i hc
    rw [if_neg hc] at h
    by_cases h1 : x.a < x.b
    · have : ¬ x.a < x.b - 20 := fun h2 => hc ⟨h1, by omega, by omega, h2⟩
      omega
    · omega
theorem flat_cap {α β : Type} (f : α → List β) (n : Nat) : ∀ l : List α, (∀ a ∈ l, (f a).length ≤ n) → (l.flatMap f).length ≤ n * l.length
  | [], _ => by simp
  | a :: l, h => by
    have h1 := h a (by simp)
    have h2 := flat_cap f n l fun b hb => h b (by simp [hb])
    rw [List.flatMap_cons, List.length_append, List.length_cons, Nat.mul_add]
    omega
theorem few_cells22 {R : List Row} (h : validR (fewR R) = true) : (regCells (fewR R)).length ≤ 960 := by
  have h1 : (fewR R).length ≤ 12 := by simp [fewR]; omega
  have h2 := flat_cap rowCells 80 (fewR R) fun w hw => by
    have hf := (row_fine h hw).2
    obtain ⟨v, _, rfl⟩ := List.mem_map.1 hw
    obtain ⟨_, ha, hb⟩ := fine_apart.1 hf
    have hl : (fewW v).runs.length ≤ 4 := by simp [fewW]; omega
    have h3 := flat_cap (runCells (fewW v).y) 20 (fewW v).runs fun r hr => by
      rw [runCells_len]
      have hrb := hb r hr
      obtain ⟨x, _, rfl⟩ := List.mem_map.1 hr
      exact cut20_le x hrb
    unfold rowCells
    omega
  unfold regCells
  omega
set_option maxHeartbeats 4000000 in
theorem few22_ok (R : List Row) : PC Tryz.prog 8 [.agg (regRow R)] (.p (.agg (regRow (fewR R)))) := by
  refine pc_of_awp cx (fn := Tryz.f8) (c := _) Tryz.func8 rfl rfl (Nat.le_of_ble_eq_true rfl) ?_
  rw [Tryz.ntmps8]; refine Nav.imp ?_
  refine awp_region cx [] fun K hK => ?_
  simp [push_cast]
  repeat (refine And.intro (by clear hK; intros; first | omega | (simp_all; done) | (simp_all <;> omega)) ?_)
  refine hK _ ?_; clear hK K; refine Nav.imp ?_
  refine awp_region cx [] fun K hK => ?_
  simp [push_cast]
  repeat (refine And.intro (by clear hK; intros; first | omega | (simp_all; done) | (simp_all <;> omega)) ?_)
  refine hK _ ?_; clear hK K; refine Nav.imp ?_
  refine awp_region cx [] fun K hK => ?_
  simp [push_cast]
  repeat (refine And.intro (by clear hK; intros; first | omega | (simp_all; done) | (simp_all <;> omega)) ?_)
  refine hK _ ?_; clear hK K; refine Nav.imp ?_
  refine awp_loop (β := Nat × List Row) (fun b => ⟨86, [(1, .ptr 0 0 0), (2, .ptr 1 0 0), (3, .ptr 2 0 0), (4, .d (.int .i64 b.1))], [(0, some ⟨24, 1, [(regRow R).map .d]⟩), (1, some ⟨24, 1, [[.nl]]⟩), (2, some ⟨24, 1, [[.hs 3 0 b.2.length]]⟩), (3, some ⟨50, 2, dr (b.2.map Row.row)⟩)], 4⟩) (fun b => b.1 ≤ R.length ∧ b.1 ≤ 12 ∧ b.2 = (R.take b.1).map fewW) (fun b => R.length - b.1) (0, []) ?_ ⟨Nat.zero_le _, by omega, by simp⟩ ?_
  · refine weak_of [(0, some 0), (1, some 1), (2, some 2), (3, none)] rfl (by simp [upT, up, upL, push_cast]) (by simp [upH, upR, upL, up, push_cast]) (by simp [namesOk, push_cast]) (by simp [olds])
  · rintro ⟨k, out⟩ ⟨hk, hk2, hout⟩
    simp only at hk hk2 hout
    refine Nav.imp ?_
    refine awp_region cx [] fun K hK => ?_
    simp [push_cast]
    repeat (refine And.intro (by clear hK; intros; first | omega | (simp_all; done) | (simp_all <;> omega)) ?_)
    refine hK _ ?_; clear hK K; refine Nav.imp ?_
    refine awp_cond (by simp [push_cast] <;> exact rfl) (fun hb => ?_) (fun hb => ?_) <;> (refine Nav.imp ?_)
    · simp at hb
      obtain ⟨hlt, h12⟩ := hb
      obtain ⟨w, hw⟩ := getq hlt
      have e0 := wrap_i64 (n := (k : Int) + 1) (by omega) (by omega)
      have hnext : (R.take (k + 1)).map fewW = (R.take k).map fewW ++ [fewW w] := by rw [take_get hw]; simp
      have hol : out.length ≤ 12 := by rw [hout]; simp; omega
      have ho40 : (out.length + 1) * 32 ≤ 140737488355328 := by omega
      obtain ⟨y, ru⟩ := w
      refine awp_region cx [] fun K hK => ?_
      simp [push_cast, hw, Row.row]
      repeat (refine And.intro (by clear hK; intros; first | omega | (simp_all; done) | (simp_all <;> omega)) ?_)
      refine hK _ ?_; clear hK K; refine Nav.imp ?_
      refine awp_region cx [] fun K hK => ?_
      simp [push_cast, Row.row]
      repeat (refine And.intro (by clear hK; intros; first | omega | (simp_all; done) | (simp_all <;> omega)) ?_)
      refine hK _ ?_; clear hK K; refine Nav.imp ?_
      apply cut_
      · intro key
        refine awp_cond (b := decide (4 < (ru.length : Int))) (by simp [push_cast]) (fun hb => ?_) (fun hb => ?_) <;> (refine Nav.imp ?_)
        · have hb : 4 < ru.length := by simp at hb; omega
          have h4 : 4 ≤ ru.length := by omega
          refine awp_region cx [] fun K hK => ?_
          simp [push_cast, Row.row, h4]
          repeat (refine And.intro (by clear hK; intros; first | omega | (simp_all; done) | (simp_all <;> omega)) ?_)
          refine hK _ ?_; clear hK K; refine Nav.imp ?_
          refine awp_weak (s' := ⟨86, [(1, .ptr 0 0 0), (2, .ptr 1 0 0), (3, .ptr 2 0 0), (4, .d (.int .i64 k)), (5, .ptr 4 0 0)], [(0, some ⟨24, 1, [(regRow R).map .d]⟩), (1, some ⟨24, 1, [[.nl]]⟩), (2, some ⟨24, 1, [[.hs 3 0 out.length]]⟩), (3, some ⟨50, 2, dr (out.map Row.row)⟩), (4, some ⟨50, 2, [(Row.row ⟨y, ru.take 4⟩).map .d]⟩)], 5⟩) ?_ key.h
          refine weak_of [(0, some 0), (1, some 1), (2, some 2), (3, some 3), (4, some 18)] rfl (by simp [upT, up, upL, push_cast, Row.row]) (by simp [upH, upR, upL, up, push_cast, Row.row]) (by simp [namesOk, push_cast]) (by simp [olds])
        · have hb : ru.take 4 = ru := List.take_of_length_le (by simp at hb; omega)
          refine awp_weak (s' := ⟨86, [(1, .ptr 0 0 0), (2, .ptr 1 0 0), (3, .ptr 2 0 0), (4, .d (.int .i64 k)), (5, .ptr 4 0 0)], [(0, some ⟨24, 1, [(regRow R).map .d]⟩), (1, some ⟨24, 1, [[.nl]]⟩), (2, some ⟨24, 1, [[.hs 3 0 out.length]]⟩), (3, some ⟨50, 2, dr (out.map Row.row)⟩), (4, some ⟨50, 2, [(Row.row ⟨y, ru.take 4⟩).map .d]⟩)], 5⟩) ?_ key.h
          rw [hb]
          refine weak_of [(0, some 0), (1, some 1), (2, some 2), (3, some 3), (4, some 18)] rfl (by simp [upT, up, upL, push_cast, Row.row]) (by simp [upH, upR, upL, up, push_cast, Row.row]) (by simp [namesOk, push_cast]) (by simp [olds])
      · have hW : fewW ⟨y, ru⟩ = ⟨y, (ru.take 4).map cut20⟩ := rfl
        rw [hW] at hnext
        have hl4 : (ru.take 4).length ≤ 4 := by simp; omega
        generalize ru.take 4 = l at *
        refine Nav.imp ?_
        refine awp_region cx [] fun K hK => ?_
        simp [push_cast]
        repeat (refine And.intro (by clear hK; intros; first | omega | (simp_all; done) | (simp_all <;> omega)) ?_)
        refine hK _ ?_; clear hK K; refine Nav.imp ?_
        refine awp_region cx [] fun K hK => ?_
        simp [push_cast]
        repeat (refine And.intro (by clear hK; intros; first | omega | (simp_all; done) | (simp_all <;> omega)) ?_)
        refine hK _ ?_; clear hK K; refine Nav.imp ?_
        refine awp_loop (β := Nat × List Run) (fun b => ⟨86, [(1, .ptr 0 0 0), (2, .ptr 1 0 0), (3, .ptr 2 0 0), (4, .d (.int .i64 k)), (5, .ptr 4 0 0), (6, .hs 5 0 b.2.length), (7, .d (.int .i64 b.1))], [(0, some ⟨24, 1, [(regRow R).map .d]⟩), (1, some ⟨24, 1, [[.nl]]⟩), (2, some ⟨24, 1, [[.hs 3 0 out.length]]⟩), (3, some ⟨50, 2, dr (out.map Row.row)⟩), (4, some ⟨50, 2, [(Row.row ⟨y, l⟩).map .d]⟩), (5, some ⟨52, 2, dr (b.2.map Run.row)⟩)], 6⟩) (fun b => b.1 ≤ l.length ∧ b.2 = (l.take b.1).map cut20) (fun b => l.length - b.1) (0, []) ?_ ⟨Nat.zero_le _, by simp⟩ ?_
        · refine weak_of [(0, some 0), (1, some 1), (2, some 2), (3, some 3), (4, some 4), (5, none)] rfl (by simp [upT, up, upL, push_cast, Row.row]) (by simp [upH, upR, upL, up, push_cast, Row.row]) (by simp [namesOk, push_cast]) (by simp [olds])
        · rintro ⟨j, L⟩ ⟨hj, hL⟩
          simp only at hj hL
          refine Nav.imp ?_
          refine awp_region cx [] fun K hK => ?_
          simp [push_cast, Row.row]
          repeat (refine And.intro (by clear hK; intros; first | omega | (simp_all; done) | (simp_all <;> omega)) ?_)
          refine hK _ ?_; clear hK K; refine Nav.imp ?_
          refine awp_cond (b := decide ((j : Int) < l.length)) (by simp [push_cast]) (fun hb => ?_) (fun hb => ?_) <;> (refine Nav.imp ?_)
          · have hjl : j < l.length := by simpa using hb
            obtain ⟨x, hx⟩ := getq hjl
            have e1 := wrap_i64 (n := (j : Int) + 1) (by omega) (by omega)
            have hLl : L.length ≤ 4 := by rw [hL]; simp; omega
            have hL16 : (L.length + 1) * 16 ≤ 140737488355328 := by omega
            have hnx : (l.take (j + 1)).map cut20 = (l.take j).map cut20 ++ [cut20 x] := by rw [take_get hx]; simp
            have hcx : cut20 x = if x.a < x.b ∧ -4097 < x.a ∧ x.b < 4097 ∧ x.a < x.b - 20 then ⟨x.a, x.a + 20⟩ else x := rfl
            rw [← hL] at hnx
            obtain ⟨xa, xb⟩ := x
            simp only at hcx
            refine awp_region cx [] fun K hK => ?_
            simp [push_cast, hx, Row.row, Run.row]
            repeat (refine And.intro (by clear hK; intros; first | omega | (simp_all; done) | (simp_all <;> omega)) ?_)
            refine hK _ ?_; clear hK K; refine Nav.imp ?_
            refine awp_region cx [] fun K hK => ?_
            simp [push_cast, Run.row]
            repeat (refine And.intro (by clear hK; intros; first | omega | (simp_all; done) | (simp_all <;> omega)) ?_)
            refine hK _ ?_; clear hK K; refine Nav.imp ?_
            apply cut_
            · intro ky
              refine awp_cond (by simp [push_cast] <;> exact rfl) (fun hb => ?_) (fun hb => ?_) <;> (refine Nav.imp ?_)
              · simp at hb
                obtain ⟨⟨⟨b1, b4⟩, b2⟩, b3⟩ := hb
                have e2 := wrap_i64 (n := xb - 20) (by omega) (by omega)
                rw [e2] at b4
                have e3 := wrap_i64 (n := xa + 20) (by omega) (by omega)
                have hc : cut20 ⟨xa, xb⟩ = ⟨xa, xa + 20⟩ := by rw [hcx, if_pos ⟨b1, by omega, b3, b4⟩]
                refine awp_region cx [] fun K hK => ?_
                simp [push_cast, Run.row, e3]
                repeat (refine And.intro (by clear hK; intros; first | omega | (simp_all; done) | (simp_all <;> omega)) ?_)
                refine hK _ ?_; clear hK K; refine Nav.imp ?_
                refine awp_weak (s' := ⟨86, [(1, .ptr 0 0 0), (2, .ptr 1 0 0), (3, .ptr 2 0 0), (4, .d (.int .i64 k)), (5, .ptr 4 0 0), (6, .hs 5 0 L.length), (7, .d (.int .i64 j)), (8, .ptr 6 0 0)], [(0, some ⟨24, 1, [(regRow R).map .d]⟩), (1, some ⟨24, 1, [[.nl]]⟩), (2, some ⟨24, 1, [[.hs 3 0 out.length]]⟩), (3, some ⟨50, 2, dr (out.map Row.row)⟩), (4, some ⟨50, 2, [(Row.row ⟨y, l⟩).map .d]⟩), (5, some ⟨52, 2, dr (L.map Run.row)⟩), (6, some ⟨52, 2, [(cut20 ⟨xa, xb⟩).row.map .d]⟩)], 7⟩) ?_ ky.h
                rw [hc]
                refine weak_of [(0, some 0), (1, some 1), (2, some 2), (3, some 3), (4, some 4), (5, some 5), (6, some 16)] rfl (by simp [upT, up, upL, push_cast, Row.row, Run.row]) (by simp [upH, upR, upL, up, push_cast, Row.row, Run.row]) (by simp [namesOk, push_cast]) (by simp [olds])
              · simp at hb
                have hc : cut20 ⟨xa, xb⟩ = ⟨xa, xb⟩ := by
                  rw [hcx, if_neg]
                  rintro ⟨b1, b2, b3, b4⟩
                  have e2 := wrap_i64 (n := xb - 20) (by omega) (by omega)
                  have := hb b1 (by rw [e2]; exact b4) (by omega)
                  omega
                refine awp_weak (s' := ⟨86, [(1, .ptr 0 0 0), (2, .ptr 1 0 0), (3, .ptr 2 0 0), (4, .d (.int .i64 k)), (5, .ptr 4 0 0), (6, .hs 5 0 L.length), (7, .d (.int .i64 j)), (8, .ptr 6 0 0)], [(0, some ⟨24, 1, [(regRow R).map .d]⟩), (1, some ⟨24, 1, [[.nl]]⟩), (2, some ⟨24, 1, [[.hs 3 0 out.length]]⟩), (3, some ⟨50, 2, dr (out.map Row.row)⟩), (4, some ⟨50, 2, [(Row.row ⟨y, l⟩).map .d]⟩), (5, some ⟨52, 2, dr (L.map Run.row)⟩), (6, some ⟨52, 2, [(cut20 ⟨xa, xb⟩).row.map .d]⟩)], 7⟩) ?_ ky.h
                rw [hc]
                refine weak_of [(0, some 0), (1, some 1), (2, some 2), (3, some 3), (4, some 4), (5, some 5), (6, some 16)] rfl (by simp [upT, up, upL, push_cast, Row.row, Run.row]) (by simp [upH, upR, upL, up, push_cast, Row.row, Run.row]) (by simp [namesOk, push_cast]) (by simp [olds])
            · generalize cut20 ⟨xa, xb⟩ = c at *
              obtain ⟨ca, cb⟩ := c
              refine Nav.imp ?_
              refine awp_region cx [] fun K hK => ?_
              simp [push_cast, Run.row, hL16]
              repeat (refine And.intro (by clear hK; intros; first | omega | (simp_all; done) | (simp_all <;> omega)) ?_)
              refine hK _ ?_; clear hK K; refine Nav.imp ?_
              refine awp_region cx [] fun K hK => ?_
              simp [push_cast, e1]
              repeat (refine And.intro (by clear hK; intros; first | omega | (simp_all; done) | (simp_all <;> omega)) ?_)
              refine hK _ ?_; clear hK K; refine Nav.imp ?_
              refine ⟨(j + 1, L ++ [⟨ca, cb⟩]), ⟨hjl, hnx.symm⟩, by simp only; omega, ?_⟩
              refine weak_of [(0, some 0), (1, some 1), (2, some 2), (3, some 3), (4, some 4), (5, some 10)] rfl (by simp [upT, up, upL, push_cast, Row.row, Run.row]) (by simp [upH, upR, upL, up, push_cast, Row.row, Run.row]) (by simp [namesOk, push_cast]) (by simp [olds])
          · have hjn : j = l.length := by simp at hb; omega
            subst hjn
            rw [List.take_length] at hL
            have hcl : (⟨y, l.map cut20⟩ : Row) = ⟨y, L⟩ := by rw [hL]
            rw [hcl, ← hout] at hnext
            refine awp_freeze 5 (L.map Run.row) rfl (by simp [push_cast, Run.row]) fun K hK => ?_
            simp [push_cast, St.fz, fzT, fzH, fzO, fz, fzL, fzR, fzR_dr, fzR_app, fzR_set, fzL_map, Run.row]
            refine hK _ ?_; clear hK K; refine Nav.imp ?_
            refine awp_region cx [] fun K hK => ?_
            simp [push_cast, Row.row, ho40]
            repeat (refine And.intro (by clear hK; intros; first | omega | (simp_all; done) | (simp_all <;> omega)) ?_)
            refine hK _ ?_; clear hK K; refine Nav.imp ?_
            refine awp_region cx [] fun K hK => ?_
            simp [push_cast, e0]
            repeat (refine And.intro (by clear hK; intros; first | omega | (simp_all; done) | (simp_all <;> omega)) ?_)
            refine hK _ ?_; clear hK K; refine Nav.imp ?_
            refine ⟨(k + 1, out ++ [⟨y, L⟩]), ⟨hlt, by simp only; omega, hnext.symm⟩, by simp only; omega, ?_⟩
            refine weak_of [(0, some 0), (1, some 1), (2, some 2), (3, some 18)] rfl (by simp [upT, up, upL, push_cast, Row.row]) (by simp [upH, upR, upL, up, push_cast, Row.row]) (by simp [namesOk, push_cast]) (by simp [olds])
    · simp at hb
      have hf : fewR R = out := by
        rw [hout]
        unfold fewR
        congr 1
        by_cases h : k < R.length
        · rw [show k = 12 from by have := hb h; omega]
        · rw [List.take_of_length_le (by omega), List.take_of_length_le (by omega)]
      rw [hf]
      clear hf hout
      refine awp_freeze 3 (out.map Row.row) rfl (by simp [push_cast, Row.row]) fun K hK => ?_
      simp [push_cast, St.fz, fzT, fzH, fzO, fz, fzL, fzR, fzR_dr, fzR_app, fzR_set, fzL_map, Row.row]
      refine hK _ ?_; clear hK K; refine Nav.imp ?_
      refine awp_region cx [] fun K hK => ?_
      simp [push_cast]
      repeat (refine And.intro (by clear hK; intros; first | omega | (simp_all; done) | (simp_all <;> omega)) ?_)
      refine hK _ ?_; clear hK K; refine Nav.imp ?_
      simp [push_cast]

set_option maxHeartbeats 4000000 in
theorem samePolys_ok (l : List (List Cell)) (hl : l.length ≤ 10000000) (hp : ∀ p ∈ l, p.length ≤ 10000000) : PC Tryz.prog 9 [.sl (l.map fun p => [encCells p]), .sl (l.map fun p => [encCells p])] (.p (.bool true)) := by
  refine pc_of_awp cx (fn := Tryz.f9) (c := _) Tryz.func9 rfl rfl (Nat.le_of_ble_eq_true rfl) ?_
  rw [Tryz.ntmps9]; refine Nav.imp ?_
  refine awp_region cx [] fun K hK => ?_
  simp [push_cast]
  repeat (refine And.intro (by clear hK; intros; first | omega | (simp_all; done) | (simp_all <;> omega)) ?_)
  refine hK _ ?_; clear hK K; refine Nav.imp ?_
  refine awp_region cx [] fun K hK => ?_
  simp [push_cast]
  repeat (refine And.intro (by clear hK; intros; first | omega | (simp_all; done) | (simp_all <;> omega)) ?_)
  refine hK _ ?_; clear hK K; refine Nav.imp ?_
  refine awp_cond (b := false) (by simp [push_cast]) (fun hb => ?_) (fun hb => ?_) <;> (refine Nav.imp ?_)
  · simp at hb
  · refine awp_region cx [] fun K hK => ?_
    simp [push_cast]
    repeat (refine And.intro (by clear hK; intros; first | omega | (simp_all; done) | (simp_all <;> omega)) ?_)
    refine hK _ ?_; clear hK K; refine Nav.imp ?_
    refine awp_loop (β := Nat) (fun i => ⟨58, [(0, .d (.sl (l.map fun p => [encCells p]))), (1, .d (.sl (l.map fun p => [encCells p]))), (5, .d (.int .i64 i))], [], 0⟩) (fun i => i ≤ l.length) (fun i => l.length - i) 0 ?_ (Nat.zero_le _) ?_
    · refine weak_of [] rfl (by simp [upT, up, upL, push_cast]) (by simp [upH, upR, upL, up, push_cast]) (by simp [namesOk, push_cast]) (by simp [olds])
    · intro i hi
      refine Nav.imp ?_
      refine awp_region cx [] fun K hK => ?_
      simp [push_cast]
      repeat (refine And.intro (by clear hK; intros; first | omega | (simp_all; done) | (simp_all <;> omega)) ?_)
      refine hK _ ?_; clear hK K; refine Nav.imp ?_
      refine awp_cond (b := decide ((i : Int) < l.length)) (by simp [push_cast]) (fun hb => ?_) (fun hb => ?_) <;> (refine Nav.imp ?_)
      · have hlt : i < l.length := by simpa using hb
        obtain ⟨p, hpi⟩ := getq hlt
        have hpl := hp p (List.mem_of_getElem? hpi)
        have e0 := wrap_i64 (n := (i : Int) + 1) (by omega) (by omega)
        refine awp_region_draw cx mixed [] fun K hK => ?_
        simp [push_cast, hpi]
        repeat (refine And.intro (by clear hK; intros; first | omega | (simp_all; done) | (simp_all <;> omega)) ?_)
        refine hK _ _ (by kernel_rfl) ?_; clear hK K; refine Nav.imp ?_
        refine awp_cond (b := false) (by simp [push_cast]) (fun hb => ?_) (fun hb => ?_) <;> (refine Nav.imp ?_)
        · simp at hb
        · refine awp_region cx [] fun K hK => ?_
          simp [push_cast]
          repeat (refine And.intro (by clear hK; intros; first | omega | (simp_all; done) | (simp_all <;> omega)) ?_)
          refine hK _ ?_; clear hK K; refine Nav.imp ?_
          refine awp_loop (β := Nat) (fun k => ⟨58, [(0, .d (.sl (l.map fun p => [encCells p]))), (1, .d (.sl (l.map fun p => [encCells p]))), (5, .d (.int .i64 i)), (6, .d (.int .i64 k))], [], 0⟩) (fun k => k ≤ p.length) (fun k => p.length - k) 0 ?_ (Nat.zero_le _) ?_
          · refine weak_of [] rfl (by simp [upT, up, upL, push_cast]) (by simp [upH, upR, upL, up, push_cast]) (by simp [namesOk, push_cast]) (by simp [olds])
          · intro k hk
            refine Nav.imp ?_
            refine awp_region cx [] fun K hK => ?_
            simp [push_cast, hpi]
            repeat (refine And.intro (by clear hK; intros; first | omega | (simp_all; done) | (simp_all <;> omega)) ?_)
            refine hK _ ?_; clear hK K; refine Nav.imp ?_
            refine awp_cond (b := decide ((k : Int) < p.length)) (by simp [push_cast]) (fun hb => ?_) (fun hb => ?_) <;> (refine Nav.imp ?_)
            · have hkl : k < p.length := by simpa using hb
              obtain ⟨c, hc⟩ := getq hkl
              have e1 := wrap_i64 (n := (k : Int) + 1) (by omega) (by omega)
              refine awp_region_draw cx mixed [] fun K hK => ?_
              simp [push_cast, hpi, hc]
              repeat (refine And.intro (by clear hK; intros; first | omega | (simp_all; done) | (simp_all <;> omega)) ?_)
              refine hK _ _ (by kernel_rfl) ?_; clear hK K; refine Nav.imp ?_
              refine awp_cond (b := false) (by simp [push_cast]) (fun hb => ?_) (fun hb => ?_) <;> (refine Nav.imp ?_)
              · simp at hb
              · refine awp_region cx [] fun K hK => ?_
                simp [push_cast, e1]
                repeat (refine And.intro (by clear hK; intros; first | omega | (simp_all; done) | (simp_all <;> omega)) ?_)
                refine hK _ ?_; clear hK K; refine Nav.imp ?_
                refine ⟨k + 1, hkl, by omega, ?_⟩
                refine weak_of [] rfl (by simp [upT, up, upL, push_cast]) (by simp [upH, upR, upL, up, push_cast]) (by simp [namesOk, push_cast]) (by simp [olds])
            · have hke : k = p.length := by simp at hb; omega
              subst hke
              refine awp_region cx [] fun K hK => ?_
              simp [push_cast, e0]
              repeat (refine And.intro (by clear hK; intros; first | omega | (simp_all; done) | (simp_all <;> omega)) ?_)
              refine hK _ ?_; clear hK K; refine Nav.imp ?_
              refine ⟨i + 1, hlt, by omega, ?_⟩
              refine weak_of [] rfl (by simp [upT, up, upL, push_cast]) (by simp [upH, upR, upL, up, push_cast]) (by simp [namesOk, push_cast]) (by simp [olds])
      · refine awp_region cx [] fun K hK => ?_
        simp [push_cast]
        repeat (refine And.intro (by clear hK; intros; first | omega | (simp_all; done) | (simp_all <;> omega)) ?_)
        refine hK _ ?_; clear hK K; refine Nav.imp ?_
        simp [push_cast]
end Go.Proofs.YtgicofpllopjmaaGreat
