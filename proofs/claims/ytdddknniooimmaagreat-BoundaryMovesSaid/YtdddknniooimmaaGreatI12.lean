/-
  Texts of this seat put together: BW14, BK8, U2, U3, U4, BK9, L0, BW15.
-/
import Derived.Test.YtdddknniooimmaaGreatI10
import Derived.Test.YtdddknniooimmaaGreatI7
import Derived.Test.YtdddknniooimmaaGreatI11
import Derived.Test.YtdddknniooimmaaGreatI4
import Derived.Test.YtdddknniooimmaaGreatI3
import Derived.Test.YtdddknniooimmaaGreatI6
import Derived.Test.YtdddknniooimmaaGreatI5
import Derived.Test.YtdddknniooimmaaGreatChecked
set_option linter.unusedVariables false
set_option linter.unusedSimpArgs false
set_option maxRecDepth 100000
namespace Go.Proofs.YtdddknniooimmaaGreat
open Go.Abs

theorem eflat_len (y : Int) (l : List Run) : (l.flatMap (eRun y)).length = lenN l := by
  unfold lenN
  rw [List.length_flatMap, List.length_flatMap]
  simp only [runCells_len]
  simp [eRun]
theorem wflat_len (y : Int) (l : List Run) : (l.flatMap (wRun y)).length = lenN l := by
  unfold lenN
  rw [List.length_flatMap, List.length_flatMap]
  simp only [runCells_len]
  simp [wRun]
theorem vflat_len (y : Int) : ∀ (l : List Run), (l.flatMap (vRun y)).length = 2 * l.length
  | [] => rfl
  | r :: l => by
    have := vflat_len y l
    simp only [List.flatMap_cons, List.length_append, vRun, List.length_cons, List.length_nil] at *
    omega
set_option maxHeartbeats 16000000 in
theorem blength_ok (R : List Row) (hR : smallR R) (hbig : validR R = true → (collectL R).length ≤ 10000000) : PC Tryz.prog 14 [.agg (regRow R)] (.p (.int .i64 (if validR R then (collectL R).length else 0 : Nat))) := by
  have c1 := valid_ok R hR
  have hv0 : validR R = validR R := rfl
  generalize hv : validR R = v at c1 hbig
  have hl := hR.1
  refine pc_of_awp cx (fn := Tryz.f14) (c := _) Tryz.func14 rfl rfl (Nat.le_of_ble_eq_true rfl) ?_
  rw [Tryz.ntmps14]; refine Nav.imp ?_
  refine awp_region cx [] fun K hK => ?_
  simp [push_cast]
  repeat (refine And.intro (by clear hK; intros; first | omega | (simp_all; done) | (simp_all <;> omega)) ?_)
  refine hK _ ?_; clear hK K; refine Nav.imp ?_
  refine awp_region cx [(1, .p (.bool v))] fun K hK => ?_
  simp [push_cast, c1]
  repeat (refine And.intro (by clear hK; intros; first | omega | (simp_all; done) | (simp_all <;> omega)) ?_)
  refine hK _ ?_; clear hK K; refine Nav.imp ?_
  refine awp_cond (b := !v) (by simp [push_cast]) (fun hb => ?_) (fun hb => ?_) <;> (refine Nav.imp ?_)
  · simp at hb
    subst hb
    refine awp_region cx [] fun K hK => ?_
    simp [push_cast]
    repeat (refine And.intro (by clear hK; intros; first | omega | (simp_all; done) | (simp_all <;> omega)) ?_)
    refine hK _ ?_; clear hK K; refine Nav.imp ?_
    simp [push_cast]
  · simp at hb
    subst hb
    have hbig := hbig rfl
    rw [if_pos rfl]
    obtain ⟨full, hfull⟩ : ∃ full, full = collectL R := ⟨_, rfl⟩
    have htk : ∀ i, i ≤ R.length → ((R.take i).flatMap (rowCr R)).length ≤ 10000000 := fun i _ => by
      have e : collectL R = (R.take i).flatMap (rowCr R) ++ (R.drop i).flatMap (rowCr R) := by
        unfold collectL
        rw [← List.flatMap_append, List.take_append_drop]
      rw [e, List.length_append] at hbig
      omega
    have hend : collectL R = (R.take R.length).flatMap (rowCr R) := by rw [List.take_length]; rfl
    rw [hend]
    have hnx : ∀ i w, R[i]? = some w → ((R.take (i + 1)).flatMap (rowCr R)).length = ((R.take i).flatMap (rowCr R)).length + (rowCr R w).length := fun i w h => by rw [flat_take _ h, List.length_append]
    generalize hC : (fun i => ((R.take i).flatMap (rowCr R)).length) = C at *
    have hC' : ∀ i, ((R.take i).flatMap (rowCr R)).length = C i := fun i => by rw [← hC]
    have hC0 : C 0 = 0 := by rw [← hC]; rfl
    simp only [hC'] at htk hnx ⊢
    clear hC hC' hend hfull
    refine awp_region cx [] fun K hK => ?_
    simp [push_cast]
    repeat (refine And.intro (by clear hK; intros; first | omega | (simp_all; done) | (simp_all <;> omega)) ?_)
    refine hK _ ?_; clear hK K; refine Nav.imp ?_
    refine awp_region cx [] fun K hK => ?_
    simp [push_cast]
    repeat (refine And.intro (by clear hK; intros; first | omega | (simp_all; done) | (simp_all <;> omega)) ?_)
    refine hK _ ?_; clear hK K; refine Nav.imp ?_
    refine awp_loop (β := Nat) (fun i => ⟨45, [(1, .ptr 0 0 0), (3, .d (.int .i64 (C i : Nat))), (12, .d (encRows R)), (13, .d (.int .i64 R.length)), (14, .d (.int .i64 i))], [(0, some ⟨24, 1, [[.d (encRows R)]]⟩)], 1⟩) (fun i => i ≤ R.length) (fun i => R.length - i) 0 ?_ (Nat.zero_le _) ?_
    · refine weak_of [(0, some 0)] rfl (by simp [upT, up, upL, push_cast, hC0]) (by simp [upH, upR, upL, up, push_cast, hC0]) (by simp [namesOk, push_cast]) (by simp [olds])
    · intro i hi
      refine Nav.imp ?_
      refine awp_region cx [] fun K hK => ?_
      simp [push_cast]
      repeat (refine And.intro (by clear hK; intros; first | omega | (simp_all; done) | (simp_all <;> omega)) ?_)
      refine hK _ ?_; clear hK K; refine Nav.imp ?_
      refine awp_cond (b := decide ((i : Int) < R.length)) (by simp [push_cast]) (fun hb => ?_) (fun hb => ?_) <;> (refine Nav.imp ?_)
      · have hlt : i < R.length := by simpa using hb
        obtain ⟨w, hw⟩ := getq hlt
        have c1 := around_ok R i w hv hR hw
        have e0 := wrap_i64 (n := (i : Int) + 1) (by omega) (by omega)
        obtain ⟨hy, hfw⟩ := validR_at hv hw
        have hB := rowOf_rv hv (w.y - 1)
        have hU := rowOf_rv hv (w.y + 1)
        have hBl : (rowOf R (w.y - 1)).length ≤ 1000000 := rowOf_len3 hR _
        have hUl : (rowOf R (w.y + 1)).length ≤ 1000000 := rowOf_len3 hR _
        have hwl := hR.2 w (List.mem_of_getElem? hw)
        have c2 := subtract_ok w.runs _ hwl hBl (fine_rv hfw) hB
        have c3 := subtract_ok w.runs _ hwl hUl (fine_rv hfw) hU
        have hL1 := sub_bd hfw hB
        have hL2 := sub_bd hfw hU
        have hLl1 := sub_len hfw hB
        have hLl2 := sub_len hfw hU
        have v1 : rvalid (sweep fD w.runs (rowOf R (w.y - 1))) = true := sweep_valid rfl (fine_rv hfw) hB
        have v2 : rvalid (sweep fD w.runs (rowOf R (w.y + 1))) = true := sweep_valid rfl (fine_rv hfw) hU
        have c4 := length_ok _ hLl1 v1
        have c5 := length_ok _ hLl2 v2
        have q1 := eflat_len w.y (sweep fD w.runs (rowOf R (w.y - 1)))
        have q2 := wflat_len w.y (sweep fD w.runs (rowOf R (w.y + 1)))
        have q3 := vflat_len w.y w.runs
        have hn1 := hnx i w hw
        have ht1 := htk (i + 1) hlt
        have ht0 := htk i hi
        unfold rowCr at hn1
        rw [List.length_append, List.length_append, q3] at hn1
        obtain ⟨y, rs⟩ := w
        simp only at *
        generalize rowOf R (y - 1) = B at *
        generalize rowOf R (y + 1) = U at *
        generalize sweep fD rs B = L1 at *
        generalize sweep fD rs U = L2 at *
        generalize (L1.flatMap (eRun y)).length = n1 at *
        generalize (L2.flatMap (wRun y)).length = n2 at *
        rw [← q1] at c4
        rw [← q2] at c5
        have hC1 : ((C (i + 1) : Nat) : Int) = (C i : Int) + (n1 + n2 + 2 * rs.length) := by omega
        have ht2 : (C i : Int) + (n1 + n2 + 2 * rs.length) ≤ 10000000 := by omega
        generalize C i = C0 at *
        have w1 := wrap_i64 (n := (n1 : Int) + n2) (by omega) (by omega)
        have w2 := wrap_i64 (n := (2 : Int) * rs.length) (by omega) (by omega)
        have w3 := wrap_i64 (n := (n1 : Int) + n2 + 2 * rs.length) (by omega) (by omega)
        have w4 := wrap_i64 (n := (C0 : Int) + (n1 + n2 + 2 * rs.length)) (by omega) (by omega)
        refine awp_region cx [] fun K hK => ?_
        simp [push_cast, hw]
        repeat (refine And.intro (by clear hK; intros; first | omega | (simp_all; done) | (simp_all <;> omega)) ?_)
        refine hK _ ?_; clear hK K; refine Nav.imp ?_
        refine awp_region cx [(2, .p (.tup [encRuns B, encRuns U]))] fun K hK => ?_
        simp [push_cast, c1]
        repeat (refine And.intro (by clear hK; intros; first | omega | (simp_all; done) | (simp_all <;> omega)) ?_)
        refine hK _ ?_; clear hK K; refine Nav.imp ?_
        refine awp_region_draw cx mixed [(4, .p (encRuns L1)), (5, .p (.int .i64 n1)), (9, .p (encRuns L2)), (10, .p (.int .i64 n2))] fun K hK => ?_
        simp [push_cast, c2, c3, c4, c5, w1, w2, w3, w4]
        repeat (refine And.intro (by clear hK; intros; first | omega | (simp_all; done) | (simp_all <;> omega)) ?_)
        refine hK _ _ (by kernel_rfl) ?_; clear hK K; refine Nav.imp ?_
        refine awp_region cx [] fun K hK => ?_
        simp [push_cast, e0]
        repeat (refine And.intro (by clear hK; intros; first | omega | (simp_all; done) | (simp_all <;> omega)) ?_)
        refine hK _ ?_; clear hK K; refine Nav.imp ?_
        refine ⟨i + 1, hlt, by omega, ?_⟩
        refine weak_of [(0, some 0)] rfl (by simp [upT, up, upL, push_cast, hC1]) (by simp [upH, upR, upL, up, push_cast, hC1]) (by simp [namesOk, push_cast]) (by simp [olds])
      · have hie : i = R.length := by simp at hb; omega
        subst hie
        refine awp_region cx [] fun K hK => ?_
        simp [push_cast]
        repeat (refine And.intro (by clear hK; intros; first | omega | (simp_all; done) | (simp_all <;> omega)) ?_)
        refine hK _ ?_; clear hK K; refine Nav.imp ?_
        simp [push_cast]
end Go.Proofs.YtdddknniooimmaaGreat

namespace Go.Proofs.YtdddknniooimmaaGreat
open Go.Abs

theorem mv_bad {a : Cell} {h : Hd} {k : Int} (hk : 1 ≤ k) (ha : (-4096 ≤ a.x ∧ a.x ≤ 4096) ∧ -4096 ≤ a.y ∧ a.y ≤ 4096) : badE a (mv a h k) = false := by
  unfold badE
  simp only [Bool.or_eq_false_iff, decide_eq_false_iff_not]
  refine ⟨⟨by omega, by omega⟩, ?_⟩
  cases h <;> simp [mv] <;> omega
theorem poly_near {R : List Row} (hv : validR R = true) {L : List Crk} (hL : IsLp (Sof R) L) : ∀ p ∈ polyOf L, (-4096 ≤ p.x ∧ p.x ≤ 4096) ∧ -4096 ≤ p.y ∧ p.y ≤ 4096 := by
  have hC : ∀ d ∈ L, d ∈ collectL R := fun d hd => by
    obtain ⟨c, n, hc, pc, rfl, _⟩ := hL
    exact (collect_mem hv d).2 (orb_isC hc hd)
  intro p hp
  have : ∃ d ∈ L, d.p = p := by
    cases L with
    | nil => cases hp
    | cons c t =>
      rcases List.mem_cons.1 hp with rfl | hp
      · exact ⟨c, by simp, rfl⟩
      · obtain ⟨d, hd, e⟩ := turnG_mem hp; exact ⟨d, by simp [hd], e⟩
  obtain ⟨d, hd, rfl⟩ := this
  exact collect_near hv (hC d hd)
theorem trace_good {R : List Row} (hv : validR R = true) {Ls : List (List Crk)} (h : Lps (Sof R) Ls) : badL (Ls.map polyOf) = false := by
  unfold badL
  rw [List.any_eq_false]
  intro P hP
  obtain ⟨L, hL, rfl⟩ := List.mem_map.1 hP
  have hl := h.each L hL
  have hn := poly_near hv hl
  obtain ⟨p, P, hPe, hst, _⟩ := loop_path hl
  rw [hPe] at hn ⊢
  unfold badP
  rw [Bool.not_eq_true, List.any_eq_false]
  intro k hk
  rw [List.mem_range] at hk
  obtain ⟨h1, h2⟩ := cyc_get (p := p) (P := P) (k := k) (by simpa using hk)
  obtain ⟨a, ha⟩ := getq hk
  obtain ⟨b, hb⟩ := getq (l := p :: P) (k := (k + 1) % (p :: P).length) (Nat.mod_lt _ (by simp))
  rw [badAt_some ha hb, Bool.not_eq_true]
  obtain ⟨d, j, hj, rfl⟩ := pathAll_get hst k a b (h1.trans ha) (h2.trans hb)
  exact mv_bad hj (hn a (List.mem_of_getElem? ha))
theorem flat_sum_len : ∀ Ls : List (List Crk), ((Ls.map polyOf).map List.length).sum ≤ Ls.flatten.length
  | [] => by simp
  | L :: Ls => by
    have h1 := flat_sum_len Ls
    have h2 := polyOf_len L
    simp only [List.map_cons, List.sum_cons, List.flatten_cons, List.length_append]
    omega
theorem mem_sum_le : ∀ {l : List (List Cell)} {P : List Cell}, P ∈ l → P.length ≤ (l.map List.length).sum
  | Q :: l, P, h => by
    rw [List.map_cons, List.sum_cons]
    rcases List.mem_cons.1 h with rfl | h
    · omega
    · have := mem_sum_le h; omega
theorem len_le_flat {S : Cell → Bool} : ∀ {Ls : List (List Crk)}, (∀ L ∈ Ls, IsLp S L) → Ls.length ≤ Ls.flatten.length
  | [], _ => by simp
  | L :: Ls, h => by
    have h1 := len_le_flat fun M hM => h M (List.mem_cons_of_mem L hM)
    obtain ⟨c, n, hc, pc, rfl, _⟩ := h L (by simp)
    have := pc.pos
    rw [List.flatten_cons, List.length_append, orb_length, List.length_cons]
    omega
theorem trace_sizes {R : List Row} (hv : validR R = true) {Ls : List (List Crk)} (h : Lps (Sof R) Ls) : Ls.length ≤ (collectL R).length ∧ ((Ls.map polyOf).map List.length).sum ≤ (collectL R).length := by
  have hp := (lps_perm (collect_cracks hv) (collect_nodup hv) h).length_eq
  have h1 := len_le_flat h.each
  have h2 := flat_sum_len Ls
  omega
theorem back_trace {R : List Row} (hv : validR R = true) (hbig : (collectL R).length ≤ 1000000) {Ls : List (List Crk)} (h : Lps (Sof R) Ls) : PC Tryz.prog 37 [encPs (Ls.map polyOf)] (.p (.tup [.agg (regRow R), .int .i64 0])) := by
  obtain ⟨s1, s2⟩ := trace_sizes hv h
  obtain ⟨B, hB, hBc⟩ := back_spec (Ls.map polyOf) (by rw [List.length_map]; omega) (fun P hP => by have := mem_sum_le hP; omega) (by omega)
  have hg := trace_good hv h
  obtain ⟨b1, b2⟩ := hBc hg
  rw [hg] at hB
  have : B = R := region_uniq b1 hv fun c => by
    rw [b2, trace_wS hv h, rowOf_in hv]
    unfold Sof
    split
    · rename_i h; simp [h]
    · rename_i h; simp [h]
  rw [this] at hB
  exact hB

def R0 : List Row := [⟨1, [⟨2, 3⟩]⟩]
set_option maxHeartbeats 4000000 in
theorem awake_ok : PC Tryz.prog 35 [] (.p (.bool true)) := by
  have hv : validR R0 = true := by decide
  have hsm : smallR R0 := ⟨by decide, by decide⟩
  have hlen : (collectL R0).length = 4 := by decide
  obtain ⟨Ls, hL⟩ := lps_ex (collect_cracks hv)
  have c1 := trace_ok R0 hsm (fun _ => by omega) Ls fun _ => hL
  have c2 := back_trace hv (by omega) hL
  have c3 := blength_ok R0 hsm fun _ => by omega
  rw [hv, if_pos rfl] at c1 c3
  rw [hlen] at c3
  have c4 := rsame_ok R0 R0 hsm
  have e : Ls.map (fun L => [encCells (polyOf L)]) = (Ls.map polyOf).map polyRow := by rw [List.map_map]; rfl
  rw [e] at c1
  simp only [decide_true] at c4
  change PC _ _ [.sl ((Ls.map polyOf).map polyRow)] _ at c2
  generalize (Ls.map polyOf).map polyRow = ps at *
  have hR : regRow R0 = [.sl [[.int .i64 1, .sl [[.int .i64 2, .int .i64 3]]]]] := rfl
  rw [hR] at c1 c2 c3 c4
  clear e hL hlen hsm hv
  refine pc_of_awp cx (fn := Tryz.f35) (c := _) Tryz.func35 rfl rfl (Nat.le_of_ble_eq_true rfl) ?_
  rw [Tryz.ntmps35]; refine Nav.imp ?_
  refine awp_region cx [] fun K hK => ?_
  simp [push_cast]
  repeat (refine And.intro (by clear hK; intros; first | omega | (simp_all; done) | (simp_all <;> omega)) ?_)
  refine hK _ ?_; clear hK K; refine Nav.imp ?_
  refine awp_region cx [(1, .f (.sl [[.int .i64 2, .int .i64 3]])), (3, .f (.sl [[.int .i64 1, .sl [[.int .i64 2, .int .i64 3]]]]))] fun K hK => ?_
  simp [push_cast]
  repeat (refine And.intro (by clear hK; intros; first | omega | (simp_all; done) | (simp_all <;> omega)) ?_)
  refine hK _ ?_; clear hK K; refine Nav.imp ?_
  refine awp_region cx [(1, .p (.sl ps)), (2, .p (.tup [.agg [.sl [[.int .i64 1, .sl [[.int .i64 2, .int .i64 3]]]]], .int .i64 0]))] fun K hK => ?_
  simp [push_cast, c1, c2]
  repeat (refine And.intro (by clear hK; intros; first | omega | (simp_all; done) | (simp_all <;> omega)) ?_)
  refine hK _ ?_; clear hK K; refine Nav.imp ?_
  refine awp_region cx [(1, .p (.int .i64 4)), (10, .p (.bool true))] fun K hK => ?_
  simp [push_cast, c3, c4]
  repeat (refine And.intro (by clear hK; intros; first | omega | (simp_all; done) | (simp_all <;> omega)) ?_)
  refine hK _ ?_; clear hK K; refine Nav.imp ?_
  simp [push_cast]
end Go.Proofs.YtdddknniooimmaaGreat

namespace Go.Proofs.YtdddknniooimmaaGreat
open Go.Abs

def fstA (w : Row) : Int := match w.runs[0]? with | some r => r.a | none => 0
def lstB (w : Row) : Int := match w.runs[w.runs.length - 1]? with | some r => r.b | none => 0
def lowX (R : List Row) : Int := R.foldl (fun m w => min m (fstA w)) 4096
def highX (R : List Row) : Int := R.foldl (fun m w => max m (lstB w - 1)) (-4096)
def fstY (R : List Row) : Int := match R[0]? with | some w => w.y | none => 0
def lstY (R : List Row) : Int := match R[R.length - 1]? with | some w => w.y | none => 0
def some? (R : List Row) : Bool := validR R && decide (0 < R.length)
def boxLo (R : List Row) : Cell := if some? R then ⟨lowX R, fstY R⟩ else ⟨0, 0⟩
def boxHi (R : List Row) : Cell := if some? R then ⟨highX R, lstY R⟩ else ⟨0, 0⟩
abbrev boxD (R : List Row) : D := .tup [.agg (boxLo R).row, .agg (boxHi R).row, .bool (some? R)]

theorem lowX_take {R : List Row} {k : Nat} {w : Row} (h : R[k]? = some w) : lowX (R.take (k + 1)) = min (lowX (R.take k)) (fstA w) := by simp [lowX, take_get h]
theorem highX_take {R : List Row} {k : Nat} {w : Row} (h : R[k]? = some w) : highX (R.take (k + 1)) = max (highX (R.take k)) (lstB w - 1) := by simp [highX, take_get h]
theorem foldMin {α : Type} (f : α → Int) : ∀ (l : List α) (m : Int), l.foldl (fun m w => min m (f w)) m ≤ m ∧ (∀ w ∈ l, l.foldl (fun m w => min m (f w)) m ≤ f w) ∧ ∀ b, b ≤ m → (∀ w ∈ l, b ≤ f w) → b ≤ l.foldl (fun m w => min m (f w)) m
  | [], m => by simp
  | x :: l, m => by
    obtain ⟨h1, h2, h3⟩ := foldMin f l (min m (f x))
    simp only [List.foldl_cons]
    refine ⟨by omega, fun w hw => ?_, fun b hb hl => ?_⟩
    · rcases List.mem_cons.1 hw with rfl | hw
      · omega
      · exact h2 w hw
    · have := hl x (by simp)
      exact h3 b (by omega) fun w hw => hl w (by simp [hw])
theorem foldMax {α : Type} (f : α → Int) : ∀ (l : List α) (m : Int), m ≤ l.foldl (fun m w => max m (f w)) m ∧ (∀ w ∈ l, f w ≤ l.foldl (fun m w => max m (f w)) m) ∧ ∀ b, m ≤ b → (∀ w ∈ l, f w ≤ b) → l.foldl (fun m w => max m (f w)) m ≤ b
  | [], m => by simp
  | x :: l, m => by
    obtain ⟨h1, h2, h3⟩ := foldMax f l (max m (f x))
    simp only [List.foldl_cons]
    refine ⟨by omega, fun w hw => ?_, fun b hb hl => ?_⟩
    · rcases List.mem_cons.1 hw with rfl | hw
      · omega
      · exact h2 w hw
    · have := hl x (by simp)
      exact h3 b (by omega) fun w hw => hl w (by simp [hw])
theorem rows_ends {R : List Row} (hv : validR R = true) {w : Row} (hw : w ∈ R) : fstY R ≤ w.y ∧ w.y ≤ lstY R := by
  obtain ⟨k, hk, rfl⟩ := List.mem_iff_getElem.1 hw
  have hp := List.pairwise_iff_getElem.1 (rows_pw hv)
  have e1 : fstY R = R[0].y := by simp [fstY, List.getElem?_eq_getElem (show 0 < R.length by omega)]
  have e2 : lstY R = R[R.length - 1].y := by simp [lstY, List.getElem?_eq_getElem (show R.length - 1 < R.length by omega)]
  rw [e1, e2]
  constructor
  · rcases Nat.eq_zero_or_pos k with h | h
    · subst h; exact Int.le_refl _
    · exact Int.le_of_lt (hp 0 k (by omega) hk h)
  · rcases Nat.lt_or_eq_of_le (show k ≤ R.length - 1 by omega) with h | h
    · exact Int.le_of_lt (hp k (R.length - 1) hk (by omega) h)
    · subst h; exact Int.le_refl _

theorem near_ok (d : Int) : PC Tryz.prog 105 [.int .i64 d] (.p (.bool (decide (-8192 ≤ d) && decide (d ≤ 8192)))) := by
  refine pc_of_awp cx (fn := Tryz.f105) (c := _) Tryz.func105 rfl rfl (Nat.le_of_ble_eq_true rfl) ?_
  rw [Tryz.ntmps105]; refine Nav.imp ?_
  refine awp_region cx [] fun K hK => ?_
  simp [push_cast]
  repeat (refine And.intro (by clear hK; intros; first | omega | (simp_all; done) | (simp_all <;> omega)) ?_)
  refine hK _ ?_; clear hK K; refine Nav.imp ?_
  refine awp_region cx [] fun K hK => ?_
  simp [push_cast]
  repeat (refine And.intro (by clear hK; intros; first | omega | (simp_all; done) | (simp_all <;> omega)) ?_)
  refine hK _ ?_; clear hK K; refine Nav.imp ?_
  simp [push_cast]

set_option maxHeartbeats 1000000 in
theorem box_ok (R : List Row) (hR : smallR R) : PC Tryz.prog 57 [.agg (regRow R)] (.p (boxD R)) := by
  have c1 := valid_ok R hR
  have hl := hR.1
  have hB : boxD R = .tup [.agg (boxLo R).row, .agg (boxHi R).row, .bool (some? R)] := rfl
  rw [hB]
  by_cases hsm : some? R = true
  · have hlo : boxLo R = ⟨lowX R, fstY R⟩ := by simp [boxLo, hsm]
    have hhi : boxHi R = ⟨highX R, lstY R⟩ := by simp [boxHi, hsm]
    rw [hlo, hhi, hsm]
    clear hlo hhi hB
    simp only [some?, Bool.and_eq_true, decide_eq_true_eq] at hsm
    obtain ⟨hv, hpos⟩ := hsm
    rw [hv] at c1
    obtain ⟨w0, hw0⟩ : ∃ w, R[0]? = some w := getq hpos
    obtain ⟨w1, hw1⟩ : ∃ w, R[R.length - 1]? = some w := getq (by omega)
    have hy0 : fstY R = w0.y := by simp [fstY, hw0]
    have hy1 : lstY R = w1.y := by simp [lstY, hw1]
    rw [hy0, hy1]
    clear hy0 hy1
    have e1 := wrap_i64 (n := (R.length : Int) - 1) (by omega) (by omega)
    have e2 : ((R.length : Int) - 1).toNat = R.length - 1 := by omega
    have e3 : (0 : Int) ≤ (R.length : Int) - 1 := by omega
    have e4 : ((R.length : Int) == 0) = false := by simp; rintro rfl; simp at hpos
    obtain ⟨y0, r0⟩ := w0
    obtain ⟨y1, r1⟩ := w1
    refine pc_of_awp cx (fn := Tryz.f57) (c := _) Tryz.func57 rfl rfl (Nat.le_of_ble_eq_true rfl) ?_
    rw [Tryz.ntmps57]; refine Nav.imp ?_
    refine awp_region cx [] fun K hK => ?_
    simp [push_cast]
    repeat (refine And.intro (by clear hK; intros; first | omega | (simp_all; done) | (simp_all <;> omega)) ?_)
    refine hK _ ?_; clear hK K; refine Nav.imp ?_
    refine awp_region cx [(1, .p (.bool true))] fun K hK => ?_
    simp [push_cast, c1]
    repeat (refine And.intro (by clear hK; intros; first | omega | (simp_all; done) | (simp_all <;> omega)) ?_)
    refine hK _ ?_; clear hK K; refine Nav.imp ?_
    refine awp_cond (b := false) (by simp [push_cast, e4]) (fun hb => ?_) (fun hb => ?_) <;> (refine Nav.imp ?_)
    · simp at hb
    · refine awp_region cx [] fun K hK => ?_
      simp [push_cast, hw0, Row.row]
      repeat (refine And.intro (by clear hK; intros; first | omega | (simp_all; done) | (simp_all <;> omega)) ?_)
      refine hK _ ?_; clear hK K; refine Nav.imp ?_
      refine awp_region cx [] fun K hK => ?_
      simp [push_cast, hw1, e1, e2, e3, Row.row]
      repeat (refine And.intro (by clear hK; intros; first | omega | (simp_all; done) | (simp_all <;> omega)) ?_)
      refine hK _ ?_; clear hK K; refine Nav.imp ?_
      refine awp_region cx [] fun K hK => ?_
      simp [push_cast]
      repeat (refine And.intro (by clear hK; intros; first | omega | (simp_all; done) | (simp_all <;> omega)) ?_)
      refine hK _ ?_; clear hK K; refine Nav.imp ?_
      refine awp_loop (β := Nat × Int × Int) (fun b => ⟨69, [(2, .ptr 0 0 0), (3, .ptr 1 0 0), (4, .d (.bool false)), (5, .ptr 2 0 0), (6, .ptr 3 0 0), (37, .d (encRows R)), (38, .d (.int .i64 R.length)), (39, .d (.int .i64 b.1))], [(0, some ⟨67, 2, [[.d (.int .i64 0), .d (.int .i64 0)]]⟩), (1, some ⟨67, 2, [[.d (.int .i64 0), .d (.int .i64 0)]]⟩), (2, some ⟨67, 2, [[.d (.int .i64 b.2.1), .d (.int .i64 y0)]]⟩), (3, some ⟨67, 2, [[.d (.int .i64 b.2.2), .d (.int .i64 y1)]]⟩)], 4⟩) (fun b => b.1 ≤ R.length ∧ b.2.1 = lowX (R.take b.1) ∧ b.2.2 = highX (R.take b.1)) (fun b => R.length - b.1) (0, 4096, -4096) ?_ ⟨Nat.zero_le _, by simp [lowX], by simp [highX]⟩ ?_
      · refine weak_of [(0, some 1), (1, some 2), (2, some 19), (3, some 31)] rfl (by simp [upT, up, upL, push_cast]) (by simp [upH, upR, upL, up, push_cast]) (by simp [namesOk, push_cast]) (by simp [olds])
      · rintro ⟨k, a, b⟩ ⟨hk, ha, hb'⟩
        simp only at hk ha hb'
        refine Nav.imp ?_
        refine awp_region cx [] fun K hK => ?_
        simp [push_cast]
        repeat (refine And.intro (by clear hK; intros; first | omega | (simp_all; done) | (simp_all <;> omega)) ?_)
        refine hK _ ?_; clear hK K; refine Nav.imp ?_
        refine awp_cond (b := decide ((k : Int) < R.length)) (by simp [push_cast]) (fun hb => ?_) (fun hb => ?_) <;> (refine Nav.imp ?_)
        · have hlt : k < R.length := by simpa using hb
          obtain ⟨w, hw⟩ := getq hlt
          have f1 := lowX_take hw
          have f2 := highX_take hw
          rw [← ha] at f1
          rw [← hb'] at f2
          have e0 := wrap_i64 (n := (k : Int) + 1) (by omega) (by omega)
          obtain ⟨f, z, hf, hz, q1, q2, q3⟩ := fine_ends (validR_at hv hw).2
          have g1 : fstA w = f.a := by simp [fstA, hf]
          have g2 : lstB w = z.b := by simp [lstB, hz]
          have hwl := hR.2 w (List.mem_of_getElem? hw)
          rw [g1] at f1
          rw [g2] at f2
          obtain ⟨wy, wr⟩ := w
          obtain ⟨fa, fb⟩ := f
          obtain ⟨za, zb⟩ := z
          simp only at hf hz q1 q2 q3 f1 f2 hwl
          have d1 := wrap_i64 (n := (wr.length : Int) - 1) (by omega) (by omega)
          have d2 : ((wr.length : Int) - 1).toNat = wr.length - 1 := by omega
          have d3 : (0 : Int) ≤ (wr.length : Int) - 1 := by omega
          have d4 := wrap_i64 (n := zb - 1) (by omega) (by omega)
          refine awp_region cx [] fun K hK => ?_
          simp [push_cast, hw, Row.row]
          repeat (refine And.intro (by clear hK; intros; first | omega | (simp_all; done) | (simp_all <;> omega)) ?_)
          refine hK _ ?_; clear hK K; refine Nav.imp ?_
          refine awp_region_draw cx mixed [] fun K hK => ?_
          simp [push_cast, hf, Row.row, Run.row]
          repeat (refine And.intro (by clear hK; intros; first | omega | (simp_all; done) | (simp_all <;> omega)) ?_)
          refine hK _ _ (by kernel_rfl) ?_; clear hK K; refine Nav.imp ?_
          refine awp_region_draw cx mixed [] fun K hK => ?_
          simp [push_cast, hz, d1, d2, d3, d4, Row.row, Run.row]
          repeat (refine And.intro (by clear hK; intros; first | omega | (simp_all; done) | (simp_all <;> omega)) ?_)
          refine hK _ _ (by kernel_rfl) ?_; clear hK K; refine Nav.imp ?_
          refine awp_region cx [] fun K hK => ?_
          simp [push_cast, e0]
          repeat (refine And.intro (by clear hK; intros; first | omega | (simp_all; done) | (simp_all <;> omega)) ?_)
          refine hK _ ?_; clear hK K; refine Nav.imp ?_
          refine ⟨(k + 1, min a fa, max b (zb - 1)), ⟨hlt, f1.symm, f2.symm⟩, by simp only; omega, ?_⟩
          refine weak_of [(0, some 0), (1, some 1), (2, some 2), (3, some 3)] rfl (by simp [upT, up, upL, push_cast]) (by simp [upH, upR, upL, up, push_cast]) (by simp [namesOk, push_cast]) (by simp [olds])
        · have hge : k = R.length := by simp at hb; omega
          subst hge
          rw [List.take_length] at ha hb'
          subst ha hb'
          refine awp_region_draw cx mixed [] fun K hK => ?_
          simp [push_cast]
          repeat (refine And.intro (by clear hK; intros; first | omega | (simp_all; done) | (simp_all <;> omega)) ?_)
          refine hK _ _ (by kernel_rfl) ?_; clear hK K; refine Nav.imp ?_
          simp [push_cast]
  · have hlo : boxLo R = ⟨0, 0⟩ := by simp [boxLo, hsm]
    have hhi : boxHi R = ⟨0, 0⟩ := by simp [boxHi, hsm]
    rw [hlo, hhi, Bool.eq_false_iff.2 hsm]
    generalize hv : validR R = v at *
    have hnil : v = true → R = [] := fun h => by
      rw [h] at hv
      cases R with
      | nil => rfl
      | cons a l => exact absurd (by simp [some?, hv]) hsm
    refine pc_of_awp cx (fn := Tryz.f57) (c := _) Tryz.func57 rfl rfl (Nat.le_of_ble_eq_true rfl) ?_
    rw [Tryz.ntmps57]; refine Nav.imp ?_
    refine awp_region cx [] fun K hK => ?_
    simp [push_cast]
    repeat (refine And.intro (by clear hK; intros; first | omega | (simp_all; done) | (simp_all <;> omega)) ?_)
    refine hK _ ?_; clear hK K; refine Nav.imp ?_
    cases v with
    | false =>
      refine awp_region cx [(1, .p (.bool false))] fun K hK => ?_
      simp [push_cast, c1]
      repeat (refine And.intro (by clear hK; intros; first | omega | (simp_all; done) | (simp_all <;> omega)) ?_)
      refine hK _ ?_; clear hK K; refine Nav.imp ?_
      refine awp_cond (b := true) (by simp [push_cast]) (fun hb => ?_) (fun hb => ?_) <;> (refine Nav.imp ?_)
      · refine awp_region cx [] fun K hK => ?_
        simp [push_cast]
        repeat (refine And.intro (by clear hK; intros; first | omega | (simp_all; done) | (simp_all <;> omega)) ?_)
        refine hK _ ?_; clear hK K; refine Nav.imp ?_
        simp [push_cast]
      · simp at hb
    | true =>
      have := hnil rfl
      subst this
      refine awp_region cx [(1, .p (.bool true))] fun K hK => ?_
      simp [push_cast, c1]
      repeat (refine And.intro (by clear hK; intros; first | omega | (simp_all; done) | (simp_all <;> omega)) ?_)
      refine hK _ ?_; clear hK K; refine Nav.imp ?_
      refine awp_cond (b := true) (by simp [push_cast]) (fun hb => ?_) (fun hb => ?_) <;> (refine Nav.imp ?_)
      · refine awp_region cx [] fun K hK => ?_
        simp [push_cast]
        repeat (refine And.intro (by clear hK; intros; first | omega | (simp_all; done) | (simp_all <;> omega)) ?_)
        refine hK _ ?_; clear hK K; refine Nav.imp ?_
        simp [push_cast]
      · simp at hb

end Go.Proofs.YtdddknniooimmaaGreat

namespace Go.Proofs.YtdddknniooimmaaGreat
open Go.Abs

def shRun (d : Int) (r : Run) : Run := ⟨r.a + d, r.b + d⟩
def shRow (dx dy : Int) (w : Row) : Row := ⟨w.y + dy, w.runs.map (shRun dx)⟩
def inB (R : List Row) (dx dy : Int) : Bool := decide (-4096 - (boxLo R).x ≤ dx) && decide (dx ≤ 4095 - (boxHi R).x) && decide (-4096 - (boxLo R).y ≤ dy) && decide (dy ≤ 4095 - (boxHi R).y)
def shR (R : List Row) (dx dy : Int) : List Row := if some? R && inB R dx dy then R.map (shRow dx dy) else []
def shE (R : List Row) (dx dy : Int) : Int := if validR R then (if R.length = 0 then 0 else if inB R dx dy then 0 else 8) else 1
abbrev shD (R : List Row) (dx dy : Int) : D := .tup [.agg (regRow (shR R dx dy)), .int .i64 (shE R dx dy)]

theorem low_le {R : List Row} : ∀ (n : Nat) (w : Row), n ≤ R.length → w ∈ R.take n → lowX (R.take n) ≤ fstA w ∧ lstB w - 1 ≤ highX (R.take n)
  | 0, w, _, h => by simp at h
  | n + 1, w, hn, h => by
    obtain ⟨v, hv⟩ := getq (show n < R.length by omega)
    rw [lowX_take hv, highX_take hv]
    rw [take_get hv] at h
    rcases List.mem_append.1 h with h | h
    · have := low_le n w (by omega) h; omega
    · simp at h; subst h; omega
theorem low_bd {R : List Row} (h : validR R = true) : ∀ (n : Nat), n ≤ R.length → -4096 ≤ lowX (R.take n) ∧ highX (R.take n) ≤ 4095
  | 0, _ => by simp [lowX, highX]
  | n + 1, hn => by
    obtain ⟨v, hv⟩ := getq (show n < R.length by omega)
    have ih := low_bd h n (by omega)
    obtain ⟨f, z, hf, hz, q1, q2, q3⟩ := fine_ends (validR_at h hv).2
    have g1 : fstA v = f.a := by simp [fstA, hf]
    have g2 : lstB v = z.b := by simp [lstB, hz]
    rw [lowX_take hv, highX_take hv, g1, g2]
    omega
theorem ends_lt {l : List Run} (h : fine l = true) {f z : Run} (hf : l[0]? = some f) (hz : l[l.length - 1]? = some z) : f.a < z.b := by
  by_cases e : l.length - 1 = 0
  · rw [e, hf] at hz; cases hz; have := fine_at h hf; omega
  · have := runs_lt h (l.length - 1) 0 z f (by omega) hz hf
    have := fine_at h hf
    have := fine_at h hz
    omega
theorem box_bd {R : List Row} (h : validR R = true) (hp : 0 < R.length) : -4096 ≤ lowX R ∧ lowX R ≤ highX R ∧ highX R ≤ 4095 ∧ -4096 ≤ fstY R ∧ fstY R ≤ lstY R ∧ lstY R ≤ 4095 := by
  have h1 := low_bd h R.length (Nat.le_refl _)
  rw [List.take_length] at h1
  obtain ⟨w0, hw0⟩ : ∃ w, R[0]? = some w := getq hp
  obtain ⟨w1, hw1⟩ : ∃ w, R[R.length - 1]? = some w := getq (by omega)
  have hy0 : fstY R = w0.y := by simp [fstY, hw0]
  have hy1 : lstY R = w1.y := by simp [lstY, hw1]
  have h2 := low_le (R := R) R.length w0 (Nat.le_refl _) (by rw [List.take_length]; exact List.mem_of_getElem? hw0)
  rw [List.take_length] at h2
  have v0 := validR_at h hw0
  have v1 := validR_at h hw1
  obtain ⟨f, z, hf, hz, q1, q2, q3⟩ := fine_ends v0.2
  have g1 : fstA w0 = f.a := by simp [fstA, hf]
  have g2 : lstB w0 = z.b := by simp [lstB, hz]
  have h3 := ends_lt v0.2 hf hz
  rw [g1, g2] at h2
  rw [hy0, hy1]
  have : w0.y ≤ w1.y := by
    by_cases e : R.length - 1 = 0
    · rw [e, hw0] at hw1; cases hw1; omega
    · have := rows_lt h (R.length - 1) 0 w1 w0 (by omega) hw1 hw0; omega
  omega

set_option maxHeartbeats 1000000 in
theorem rshift_ok (l : List Run) (d : Int) (hf : fine l = true) (hl : l.length ≤ 1000000) (hd : -8192 ≤ d ∧ d ≤ 8192) : PC Tryz.prog 107 [encRuns l, .int .i64 d] (.p (.tup [encRuns (l.map (shRun d)), .int .i64 0])) := by
  have c1 := rvalid_ok l hl
  rw [fine_rv hf] at c1
  obtain ⟨f, z, hf0, hz, q1, q2, q3⟩ := fine_ends hf
  have hm1 : 16 * (l.length : Int) ≤ 281474976710656 := by omega
  have hm2 : (l.length : Int) ≤ 9223372036854775807 := by omega
  have e1 := wrap_i64 (n := (l.length : Int) - 1) (by omega) (by omega)
  have e2 : ((l.length : Int) - 1).toNat = l.length - 1 := by omega
  have e3 : (0 : Int) ≤ (l.length : Int) - 1 := by omega
  have e4 : ((l.length : Int) == 0) = false := by simp; rintro rfl; simp at q3
  obtain ⟨fa, fb⟩ := f
  obtain ⟨za, zb⟩ := z
  simp only at q1 q2
  have d1 := wrap_i64 (n := fa + d) (by omega) (by omega)
  have d2 := wrap_i64 (n := zb + d) (by omega) (by omega)
  have n1 : ¬ d < -2097152 := by omega
  have n2 : ¬ (2097152 : Int) < d := by omega
  have n3 : ¬ fa + d < -1048576 := by omega
  have n4 : ¬ (1048576 : Int) < zb + d := by omega
  refine pc_of_awp cx (fn := Tryz.f107) (c := _) Tryz.func107 rfl rfl (Nat.le_of_ble_eq_true rfl) ?_
  rw [Tryz.ntmps107]; refine Nav.imp ?_
  refine awp_region cx [] fun K hK => ?_
  simp [push_cast]
  repeat (refine And.intro (by clear hK; intros; first | omega | (simp_all; done) | (simp_all <;> omega)) ?_)
  refine hK _ ?_; clear hK K; refine Nav.imp ?_
  refine awp_region cx [(1, .p (.bool true))] fun K hK => ?_
  simp [push_cast, c1]
  repeat (refine And.intro (by clear hK; intros; first | omega | (simp_all; done) | (simp_all <;> omega)) ?_)
  refine hK _ ?_; clear hK K; refine Nav.imp ?_
  refine awp_cond (b := false) (by simp [push_cast]) (fun hb => ?_) (fun hb => ?_) <;> (refine Nav.imp ?_)
  · simp at hb
  · refine awp_region cx [] fun K hK => ?_
    simp [push_cast]
    repeat (refine And.intro (by clear hK; intros; first | omega | (simp_all; done) | (simp_all <;> omega)) ?_)
    refine hK _ ?_; clear hK K; refine Nav.imp ?_
    refine awp_cond (b := false) (by simp [push_cast, e4]) (fun hb => ?_) (fun hb => ?_) <;> (refine Nav.imp ?_)
    · simp at hb
    · refine awp_region cx [] fun K hK => ?_
      simp [push_cast, hf0, hz, e1, e2, e3, d1, d2, n1, n2, n3, n4, Run.row]
      repeat (refine And.intro (by clear hK; intros; first | omega | (simp_all; done) | (simp_all <;> omega)) ?_)
      refine hK _ ?_; clear hK K; refine Nav.imp ?_
      refine awp_cond (b := false) (by simp [push_cast, n1, n2, n3, n4]) (fun hb => ?_) (fun hb => ?_) <;> (refine Nav.imp ?_)
      · simp at hb
      · refine awp_region cx [] fun K hK => ?_
        simp [push_cast, hm1, hm2]
        repeat (refine And.intro (by clear hK; intros; first | omega | (simp_all; done) | (simp_all <;> omega)) ?_)
        refine hK _ ?_; clear hK K; refine Nav.imp ?_
        refine awp_region cx [] fun K hK => ?_
        simp [push_cast]
        repeat (refine And.intro (by clear hK; intros; first | omega | (simp_all; done) | (simp_all <;> omega)) ?_)
        refine hK _ ?_; clear hK K; refine Nav.imp ?_
        refine awp_loop (β := Nat × List Run) (fun b => ⟨69, [(1, .d (.int .i64 d)), (6, .hs 0 0 b.2.length), (48, .d (encRuns l)), (49, .d (.int .i64 l.length)), (50, .d (.int .i64 b.1))], [(0, some ⟨85, 2, dr (b.2.map Run.row)⟩)], 1⟩) (fun b => b.1 ≤ l.length ∧ b.2.length = l.length ∧ b.2.take b.1 = (l.take b.1).map (shRun d)) (fun b => l.length - b.1) (0, List.replicate l.length ⟨0, 0⟩) ?_ ⟨Nat.zero_le _, by simp, by simp⟩ ?_
        · have hrep : List.replicate l.length [AV.d (.int .i64 0), AV.d (.int .i64 0)] = dr ((List.replicate l.length (⟨0, 0⟩ : Run)).map Run.row) := by simp [dr, Run.row]
          refine weak_of [(0, some 40)] rfl (by simp [upT, up, upL, push_cast, hrep]) (by simp [upH, upR, upL, up, push_cast, hrep]) (by simp [namesOk, push_cast]) (by simp [olds])
        · rintro ⟨k, Z⟩ ⟨hk, hZl, hZ⟩
          simp only at hk hZl hZ
          refine Nav.imp ?_
          refine awp_region cx [] fun K hK => ?_
          simp [push_cast]
          repeat (refine And.intro (by clear hK; intros; first | omega | (simp_all; done) | (simp_all <;> omega)) ?_)
          refine hK _ ?_; clear hK K; refine Nav.imp ?_
          refine awp_cond (b := decide ((k : Int) < l.length)) (by simp [push_cast]) (fun hb => ?_) (fun hb => ?_) <;> (refine Nav.imp ?_)
          · have hlt : k < l.length := by simpa using hb
            obtain ⟨r, hr⟩ := getq hlt
            have hrb := fine_at hf hr
            have e0 := wrap_i64 (n := (k : Int) + 1) (by omega) (by omega)
            obtain ⟨ra, rb⟩ := r
            simp only at hrb
            have s1 := wrap_i64 (n := ra + d) (by omega) (by omega)
            have s2 := wrap_i64 (n := rb + d) (by omega) (by omega)
            obtain ⟨y, hy⟩ : ∃ y, Z[k]? = some y := getq (by omega)
            obtain ⟨Y, hY⟩ : ∃ Y, Y = Z.set k ⟨ra + d, rb + d⟩ := ⟨_, rfl⟩
            have hset : (dr (Z.map Run.row)).set k [.d (.int .i64 (ra + d)), .d (.int .i64 (rb + d))] = dr (Y.map Run.row) := by rw [hY]; simp [dr, List.map_set]
            have hYl : Y.length = Z.length := by rw [hY]; simp
            have hYt : Y.take (k + 1) = (l.take (k + 1)).map (shRun d) := by
              rw [hY, take_get hr, List.map_append, ← hZ, take_get (x := ⟨ra + d, rb + d⟩) (by rw [List.getElem?_set_self (by omega)]), List.take_set_of_le (by omega)]
              rfl
            clear hY
            refine awp_region cx [] fun K hK => ?_
            simp [push_cast, hr, Run.row]
            repeat (refine And.intro (by clear hK; intros; first | omega | (simp_all; done) | (simp_all <;> omega)) ?_)
            refine hK _ ?_; clear hK K; refine Nav.imp ?_
            refine awp_region cx [] fun K hK => ?_
            simp [push_cast, hy, s1, s2, hset, Run.row]
            repeat (refine And.intro (by clear hK; intros; first | omega | (simp_all; done) | (simp_all <;> omega)) ?_)
            refine hK _ ?_; clear hK K; refine Nav.imp ?_
            refine awp_region cx [] fun K hK => ?_
            simp [push_cast, e0]
            repeat (refine And.intro (by clear hK; intros; first | omega | (simp_all; done) | (simp_all <;> omega)) ?_)
            refine hK _ ?_; clear hK K; refine Nav.imp ?_
            rw [← hYl]
            refine ⟨(k + 1, Y), ⟨hlt, by simp only; omega, hYt⟩, by simp only; omega, ?_⟩
            refine weak_of [(0, some 0)] rfl (by simp [upT, up, upL, push_cast]) (by simp [upH, upR, upL, up, push_cast]) (by simp [namesOk, push_cast]) (by simp [olds])
          · have hge : k = l.length := by simp at hb; omega
            subst hge
            rw [List.take_length, ← hZl, List.take_length] at hZ
            rw [← hZ]
            refine awp_region cx [] fun K hK => ?_
            simp [push_cast]
            repeat (refine And.intro (by clear hK; intros; first | omega | (simp_all; done) | (simp_all <;> omega)) ?_)
            refine hK _ ?_; clear hK K; refine Nav.imp ?_
            have ht : List.take Z.length (Z.map Run.row) = Z.map Run.row := List.take_of_length_le (by simp)
            simp [push_cast, ht]
end Go.Proofs.YtdddknniooimmaaGreat

namespace Go.Proofs.YtdddknniooimmaaGreat
open Go.Abs

theorem inB_box {R : List Row} (h : validR R = true) (hp : 0 < R.length) (dx dy : Int) : boxLo R = ⟨lowX R, fstY R⟩ ∧ boxHi R = ⟨highX R, lstY R⟩ ∧ some? R = true ∧ inB R dx dy = (decide (-4096 - lowX R ≤ dx) && decide (dx ≤ 4095 - highX R) && decide (-4096 - fstY R ≤ dy) && decide (dy ≤ 4095 - lstY R)) := by
  have hs : some? R = true := by simp [some?, h, hp]
  have h1 : boxLo R = ⟨lowX R, fstY R⟩ := by simp [boxLo, hs]
  have h2 : boxHi R = ⟨highX R, lstY R⟩ := by simp [boxHi, hs]
  exact ⟨h1, h2, hs, by simp [inB, h1, h2]⟩

theorem row_box {R : List Row} (h : validR R = true) {k : Nat} {w : Row} (hw : R[k]? = some w) : fstY R ≤ w.y ∧ w.y ≤ lstY R ∧ lowX R ≤ fstA w ∧ lstB w - 1 ≤ highX R := by
  have hk := (List.getElem?_eq_some_iff.1 hw).1
  obtain ⟨w0, hw0⟩ : ∃ w, R[0]? = some w := getq (by omega)
  obtain ⟨w1, hw1⟩ : ∃ w, R[R.length - 1]? = some w := getq (by omega)
  have hy0 : fstY R = w0.y := by simp [fstY, hw0]
  have hy1 : lstY R = w1.y := by simp [lstY, hw1]
  have h2 := low_le (R := R) R.length w (Nat.le_refl _) (by rw [List.take_length]; exact List.mem_of_getElem? hw)
  rw [List.take_length] at h2
  rw [hy0, hy1]
  refine ⟨?_, ?_, h2.1, h2.2⟩
  · by_cases e : k = 0
    · subst e; rw [hw0] at hw; cases hw; omega
    · have := rows_lt h k 0 w w0 (by omega) hw hw0; omega
  · by_cases e : k = R.length - 1
    · subst e; rw [hw1] at hw; cases hw; omega
    · have := rows_lt h (R.length - 1) k w1 w (by omega) hw1 hw; omega

set_option maxHeartbeats 4000000 in
theorem shift_ok (R : List Row) (dx dy : Int) (hR : smallR R) : PC Tryz.prog 43 [.agg (regRow R), .int .i64 dx, .int .i64 dy] (.p (shD R dx dy)) := by
  have hD : shD R dx dy = .tup [.agg (regRow (shR R dx dy)), .int .i64 (shE R dx dy)] := rfl
  have c1 := box_ok R hR
  have c2 := valid_ok R hR
  have hBD : boxD R = .tup [.agg (boxLo R).row, .agg (boxHi R).row, .bool (some? R)] := rfl
  rw [hBD] at c1
  rw [hD]
  have hl := hR.1
  have hsv : some? R = (validR R && decide (0 < R.length)) := rfl
  have hE : shE R dx dy = if validR R then (if R.length = 0 then 0 else if inB R dx dy then 0 else 8) else 1 := rfl
  have hS : shR R dx dy = if some? R && inB R dx dy then R.map (shRow dx dy) else [] := rfl
  cases hv : validR R with
  | false =>
    have h1 : shR R dx dy = [] := by rw [hS, hsv, hv]; simp
    have h2 : shE R dx dy = 1 := by rw [hE, hv]; simp
    rw [h1, h2]
    rw [hv] at c2
    clear hE hS h1 h2 hsv
    generalize boxLo R = lo at *
    generalize boxHi R = hi at *
    generalize some? R = so at *
    refine pc_of_awp cx (fn := Tryz.f43) (c := _) Tryz.func43 rfl rfl (Nat.le_of_ble_eq_true rfl) ?_
    rw [Tryz.ntmps43]; refine Nav.imp ?_
    refine awp_region cx [] fun K hK => ?_
    simp [push_cast]
    repeat (refine And.intro (by clear hK; intros; first | omega | (simp_all; done) | (simp_all <;> omega)) ?_)
    refine hK _ ?_; clear hK K; refine Nav.imp ?_
    refine awp_region cx [(1, .p (.tup [.agg lo.row, .agg hi.row, .bool so]))] fun K hK => ?_
    simp [push_cast, c1]
    repeat (refine And.intro (by clear hK; intros; first | omega | (simp_all; done) | (simp_all <;> omega)) ?_)
    refine hK _ ?_; clear hK K; refine Nav.imp ?_
    refine awp_region cx [(1, .p (.bool false))] fun K hK => ?_
    simp [push_cast, c2]
    repeat (refine And.intro (by clear hK; intros; first | omega | (simp_all; done) | (simp_all <;> omega)) ?_)
    refine hK _ ?_; clear hK K; refine Nav.imp ?_
    refine awp_cond (b := true) (by simp [push_cast]) (fun hb => ?_) (fun hb => ?_) <;> (refine Nav.imp ?_)
    · refine awp_region cx [] fun K hK => ?_
      simp [push_cast]
      repeat (refine And.intro (by clear hK; intros; first | omega | (simp_all; done) | (simp_all <;> omega)) ?_)
      refine hK _ ?_; clear hK K; refine Nav.imp ?_
      simp [push_cast]
    · simp at hb
  | true =>
    rw [hv] at c2
    by_cases hp : 0 < R.length
    · obtain ⟨hlo, hhi, hso, hin⟩ := inB_box hv hp dx dy
      have hbd := box_bd hv hp
      have hn0 : R.length ≠ 0 := by omega
      rw [hv, if_pos rfl, if_neg hn0] at hE
      rw [hso, Bool.true_and] at hS
      rw [hlo, hhi, hso] at c1
      have hrows := fun k w => @row_box R hv k w
      clear hlo hhi hso hsv hBD hD
      generalize lowX R = lx at *
      generalize highX R = hx at *
      generalize fstY R = ly at *
      generalize lstY R = hy at *
      have n1 := near_ok dx
      have n2 := near_ok dy
      refine pc_of_awp cx (fn := Tryz.f43) (c := _) Tryz.func43 rfl rfl (Nat.le_of_ble_eq_true rfl) ?_
      rw [Tryz.ntmps43]; refine Nav.imp ?_
      refine awp_region cx [] fun K hK => ?_
      simp [push_cast]
      repeat (refine And.intro (by clear hK; intros; first | omega | (simp_all; done) | (simp_all <;> omega)) ?_)
      refine hK _ ?_; clear hK K; refine Nav.imp ?_
      refine awp_region cx [(1, .p (.tup [.agg (Cell.row ⟨lx, ly⟩), .agg (Cell.row ⟨hx, hy⟩), .bool true]))] fun K hK => ?_
      simp [push_cast, c1]
      repeat (refine And.intro (by clear hK; intros; first | omega | (simp_all; done) | (simp_all <;> omega)) ?_)
      refine hK _ ?_; clear hK K; refine Nav.imp ?_
      refine awp_region cx [(1, .p (.bool true))] fun K hK => ?_
      simp [push_cast, c2]
      repeat (refine And.intro (by clear hK; intros; first | omega | (simp_all; done) | (simp_all <;> omega)) ?_)
      refine hK _ ?_; clear hK K; refine Nav.imp ?_
      refine awp_cond (b := false) (by simp [push_cast]) (fun hb => ?_) (fun hb => ?_) <;> (refine Nav.imp ?_)
      · simp at hb
      · refine awp_region cx [] fun K hK => ?_
        simp [push_cast]
        repeat (refine And.intro (by clear hK; intros; first | omega | (simp_all; done) | (simp_all <;> omega)) ?_)
        refine hK _ ?_; clear hK K; refine Nav.imp ?_
        refine awp_cond (b := false) (by simp [push_cast]) (fun hb => ?_) (fun hb => ?_) <;> (refine Nav.imp ?_)
        · simp at hb
        · by_cases hI : inB R dx dy = true
          · rw [hI] at hE hS hin
            simp only [if_true] at hE hS
            rw [hE, hS]
            simp at hin
            have o1 := ok_ok (lx + dx)
            have o2 := ok_ok (hx + dx)
            have o3 := ok_ok (ly + dy)
            have o4 := ok_ok (hy + dy)
            have t1 : (decide (-8192 ≤ dx) && decide (dx ≤ 8192)) = true := by simp; omega
            have t2 : (decide (-8192 ≤ dy) && decide (dy ≤ 8192)) = true := by simp; omega
            have t3 : okB (lx + dx) = true := by simp [okB]; omega
            have t4 : okB (hx + dx) = true := by simp [okB]; omega
            have t5 : okB (ly + dy) = true := by simp [okB]; omega
            have t6 : okB (hy + dy) = true := by simp [okB]; omega
            rw [t1] at n1
            rw [t2] at n2
            rw [t3] at o1
            rw [t4] at o2
            rw [t5] at o3
            rw [t6] at o4
            have w1 := wrap_i64 (n := lx + dx) (by omega) (by omega)
            have w2 := wrap_i64 (n := hx + dx) (by omega) (by omega)
            have w3 := wrap_i64 (n := ly + dy) (by omega) (by omega)
            have w4 := wrap_i64 (n := hy + dy) (by omega) (by omega)
            have hdx : -8192 ≤ dx ∧ dx ≤ 8192 := by omega
            have hdy : -8192 ≤ dy ∧ dy ≤ 8192 := by omega
            refine awp_region cx [(1, .p (.bool true)), (5, .p (.bool true)), (13, .p (.bool true)), (21, .p (.bool true)), (29, .p (.bool true)), (37, .p (.bool true))] fun K hK => ?_
            simp [push_cast, n1, n2, o1, o2, o3, o4, w1, w2, w3, w4]
            repeat (refine And.intro (by clear hK; intros; first | omega | (simp_all; done) | (simp_all <;> omega)) ?_)
            refine hK _ ?_; clear hK K; refine Nav.imp ?_
            refine awp_cond (b := false) (by simp [push_cast]) (fun hb => ?_) (fun hb => ?_) <;> (refine Nav.imp ?_)
            · simp at hb
            · refine awp_region cx [] fun K hK => ?_
              simp [push_cast]
              repeat (refine And.intro (by clear hK; intros; first | omega | (simp_all; done) | (simp_all <;> omega)) ?_)
              refine hK _ ?_; clear hK K; refine Nav.imp ?_
              refine awp_region cx [] fun K hK => ?_
              simp [push_cast]
              repeat (refine And.intro (by clear hK; intros; first | omega | (simp_all; done) | (simp_all <;> omega)) ?_)
              refine hK _ ?_; clear hK K; refine Nav.imp ?_
              refine awp_loop (β := Nat × List Row) (fun b => ⟨100, [(1, .d (.int .i64 dx)), (2, .d (.int .i64 dy)), (6, .ptr 0 0 0), (11, .ptr 1 0 0), (74, .d (encRows R)), (75, .d (.int .i64 R.length)), (76, .d (.int .i64 b.1))], [(0, some ⟨24, 1, [[.nl]]⟩), (1, some ⟨24, 1, [[.hs 2 0 b.2.length]]⟩), (2, some ⟨65, 2, dr (b.2.map Row.row)⟩)], 3⟩) (fun b => b.1 ≤ R.length ∧ b.2 = (R.take b.1).map (shRow dx dy)) (fun b => R.length - b.1) (0, []) ?_ ⟨Nat.zero_le _, by simp⟩ ?_
              · refine weak_of [(0, some 1), (1, some 62), (2, none)] rfl (by simp [upT, up, upL, push_cast]) (by simp [upH, upR, upL, up, push_cast]) (by simp [namesOk, push_cast]) (by simp [olds])
              · rintro ⟨k, Z⟩ ⟨hk, hZ⟩
                simp only at hk hZ
                refine Nav.imp ?_
                refine awp_region cx [] fun K hK => ?_
                simp [push_cast]
                repeat (refine And.intro (by clear hK; intros; first | omega | (simp_all; done) | (simp_all <;> omega)) ?_)
                refine hK _ ?_; clear hK K; refine Nav.imp ?_
                refine awp_cond (b := decide ((k : Int) < R.length)) (by simp [push_cast]) (fun hb => ?_) (fun hb => ?_) <;> (refine Nav.imp ?_)
                · have hlt : k < R.length := by simpa using hb
                  obtain ⟨w, hw⟩ := getq hlt
                  have hb := hrows k w hw
                  have hwv := validR_at hv hw
                  have c3 := rshift_ok w.runs dx hwv.2 (hR.2 w (List.mem_of_getElem? hw)) hdx
                  have e0 := wrap_i64 (n := (k : Int) + 1) (by omega) (by omega)
                  have e1 := wrap_i64 (n := w.y + dy) (by omega) (by omega)
                  have hnx : (R.take (k + 1)).map (shRow dx dy) = Z ++ [shRow dx dy w] := by rw [take_get hw, List.map_append, hZ]; rfl
                  have hsr : shRow dx dy w = ⟨w.y + dy, w.runs.map (shRun dx)⟩ := rfl
                  rw [hsr] at hnx
                  have hZl : Z.length ≤ 1000000 := by rw [hZ]; simp; omega
                  have hZ32 : (Z.length + 1) * 32 ≤ 140737488355328 := by omega
                  obtain ⟨y, ru⟩ := w
                  simp only at c3 e1 hnx
                  generalize ru.map (shRun dx) = sr at *
                  refine awp_region cx [] fun K hK => ?_
                  simp [push_cast, hw, Row.row]
                  repeat (refine And.intro (by clear hK; intros; first | omega | (simp_all; done) | (simp_all <;> omega)) ?_)
                  refine hK _ ?_; clear hK K; refine Nav.imp ?_
                  refine awp_region cx [(3, .p (.tup [encRuns sr, .int .i64 0]))] fun K hK => ?_
                  simp [push_cast, c3, Row.row]
                  repeat (refine And.intro (by clear hK; intros; first | omega | (simp_all; done) | (simp_all <;> omega)) ?_)
                  refine hK _ ?_; clear hK K; refine Nav.imp ?_
                  refine awp_region cx [] fun K hK => ?_
                  simp [push_cast, e1, hZ32, Row.row]
                  repeat (refine And.intro (by clear hK; intros; first | omega | (simp_all; done) | (simp_all <;> omega)) ?_)
                  refine hK _ ?_; clear hK K; refine Nav.imp ?_
                  refine awp_region cx [] fun K hK => ?_
                  simp [push_cast, e0]
                  repeat (refine And.intro (by clear hK; intros; first | omega | (simp_all; done) | (simp_all <;> omega)) ?_)
                  refine hK _ ?_; clear hK K; refine Nav.imp ?_
                  refine ⟨(k + 1, Z ++ [⟨y + dy, sr⟩]), ⟨hlt, hnx.symm⟩, by simp only; omega, ?_⟩
                  refine weak_of [(0, some 0), (1, some 1), (2, some 26)] rfl (by simp [upT, up, upL, push_cast, Row.row]) (by simp [upH, upR, upL, up, push_cast, Row.row]) (by simp [namesOk, push_cast]) (by simp [olds])
                · have hge : k = R.length := by simp at hb; omega
                  subst hge
                  rw [List.take_length] at hZ
                  rw [← hZ]
                  clear hZ
                  refine awp_freeze 2 (Z.map Row.row) rfl (by simp [push_cast, Row.row]) fun K hK => ?_
                  simp [push_cast, St.fz, fzT, fzH, fzO, fz, fzL, fzR, fzR_dr, fzR_app, fzR_set, fzL_map, Row.row]
                  refine hK _ ?_; clear hK K; refine Nav.imp ?_
                  refine awp_region cx [] fun K hK => ?_
                  simp [push_cast]
                  repeat (refine And.intro (by clear hK; intros; first | omega | (simp_all; done) | (simp_all <;> omega)) ?_)
                  refine hK _ ?_; clear hK K; refine Nav.imp ?_
                  simp [push_cast]
          · have hI : inB R dx dy = false := by simpa using hI
            rw [hI] at hE hS hin
            simp only [Bool.false_eq_true, if_false] at hE hS
            rw [hE, hS]
            have hin' : ¬ (-4096 - lx ≤ dx ∧ dx ≤ 4095 - hx ∧ -4096 - ly ≤ dy ∧ dy ≤ 4095 - hy) := by
              rintro ⟨a, b, c, d⟩
              simp [a, b, c, d] at hin
            clear hin
            by_cases t1 : -8192 ≤ dx ∧ dx ≤ 8192
            · have t1' : (decide (-8192 ≤ dx) && decide (dx ≤ 8192)) = true := by simp; omega
              rw [t1'] at n1
              by_cases t2 : -8192 ≤ dy ∧ dy ≤ 8192
              · have t2' : (decide (-8192 ≤ dy) && decide (dy ≤ 8192)) = true := by simp; omega
                rw [t2'] at n2
                have o1 := ok_ok (lx + dx)
                have o2 := ok_ok (hx + dx)
                have o3 := ok_ok (ly + dy)
                have o4 := ok_ok (hy + dy)
                have w1 := wrap_i64 (n := lx + dx) (by omega) (by omega)
                have w2 := wrap_i64 (n := hx + dx) (by omega) (by omega)
                have w3 := wrap_i64 (n := ly + dy) (by omega) (by omega)
                have w4 := wrap_i64 (n := hy + dy) (by omega) (by omega)
                have k1 : okB (lx + dx) = true ↔ (-4096 ≤ lx + dx ∧ lx + dx < 4096) := by simp [okB]
                have k2 : okB (hx + dx) = true ↔ (-4096 ≤ hx + dx ∧ hx + dx < 4096) := by simp [okB]
                have k3 : okB (ly + dy) = true ↔ (-4096 ≤ ly + dy ∧ ly + dy < 4096) := by simp [okB]
                have k4 : okB (hy + dy) = true ↔ (-4096 ≤ hy + dy ∧ hy + dy < 4096) := by simp [okB]
                generalize okB (lx + dx) = p1 at *
                generalize okB (hx + dx) = p2 at *
                generalize okB (ly + dy) = p3 at *
                generalize okB (hy + dy) = p4 at *
                cases p1 with
                | false =>
                  refine awp_region cx [(1, .p (.bool true)), (5, .p (.bool true)), (13, .p (.bool false)), (21, .skip), (29, .skip), (37, .skip)] fun K hK => ?_
                  simp [push_cast, n1, n2, o1, w1]
                  repeat (refine And.intro (by clear hK; intros; first | omega | (simp_all; done) | (simp_all <;> omega)) ?_)
                  refine hK _ ?_; clear hK K; refine Nav.imp ?_
                  refine awp_cond (b := true) (by simp [push_cast]) (fun hb => ?_) (fun hb => ?_) <;> (refine Nav.imp ?_)
                  · refine awp_region cx [] fun K hK => ?_
                    simp [push_cast]
                    repeat (refine And.intro (by clear hK; intros; first | omega | (simp_all; done) | (simp_all <;> omega)) ?_)
                    refine hK _ ?_; clear hK K; refine Nav.imp ?_
                    simp [push_cast]
                  · simp at hb
                | true =>
                  cases p2 with
                  | false =>
                    refine awp_region cx [(1, .p (.bool true)), (5, .p (.bool true)), (13, .p (.bool true)), (21, .p (.bool false)), (29, .skip), (37, .skip)] fun K hK => ?_
                    simp [push_cast, n1, n2, o1, o2, w1, w2]
                    repeat (refine And.intro (by clear hK; intros; first | omega | (simp_all; done) | (simp_all <;> omega)) ?_)
                    refine hK _ ?_; clear hK K; refine Nav.imp ?_
                    refine awp_cond (b := true) (by simp [push_cast]) (fun hb => ?_) (fun hb => ?_) <;> (refine Nav.imp ?_)
                    · refine awp_region cx [] fun K hK => ?_
                      simp [push_cast]
                      repeat (refine And.intro (by clear hK; intros; first | omega | (simp_all; done) | (simp_all <;> omega)) ?_)
                      refine hK _ ?_; clear hK K; refine Nav.imp ?_
                      simp [push_cast]
                    · simp at hb
                  | true =>
                    cases p3 with
                    | false =>
                      refine awp_region cx [(1, .p (.bool true)), (5, .p (.bool true)), (13, .p (.bool true)), (21, .p (.bool true)), (29, .p (.bool false)), (37, .skip)] fun K hK => ?_
                      simp [push_cast, n1, n2, o1, o2, o3, w1, w2, w3]
                      repeat (refine And.intro (by clear hK; intros; first | omega | (simp_all; done) | (simp_all <;> omega)) ?_)
                      refine hK _ ?_; clear hK K; refine Nav.imp ?_
                      refine awp_cond (b := true) (by simp [push_cast]) (fun hb => ?_) (fun hb => ?_) <;> (refine Nav.imp ?_)
                      · refine awp_region cx [] fun K hK => ?_
                        simp [push_cast]
                        repeat (refine And.intro (by clear hK; intros; first | omega | (simp_all; done) | (simp_all <;> omega)) ?_)
                        refine hK _ ?_; clear hK K; refine Nav.imp ?_
                        simp [push_cast]
                      · simp at hb
                    | true =>
                      cases p4 with
                      | false =>
                        refine awp_region cx [(1, .p (.bool true)), (5, .p (.bool true)), (13, .p (.bool true)), (21, .p (.bool true)), (29, .p (.bool true)), (37, .p (.bool false))] fun K hK => ?_
                        simp [push_cast, n1, n2, o1, o2, o3, o4, w1, w2, w3, w4]
                        repeat (refine And.intro (by clear hK; intros; first | omega | (simp_all; done) | (simp_all <;> omega)) ?_)
                        refine hK _ ?_; clear hK K; refine Nav.imp ?_
                        refine awp_cond (b := true) (by simp [push_cast]) (fun hb => ?_) (fun hb => ?_) <;> (refine Nav.imp ?_)
                        · refine awp_region cx [] fun K hK => ?_
                          simp [push_cast]
                          repeat (refine And.intro (by clear hK; intros; first | omega | (simp_all; done) | (simp_all <;> omega)) ?_)
                          refine hK _ ?_; clear hK K; refine Nav.imp ?_
                          simp [push_cast]
                        · simp at hb
                      | true =>
                        have := k1.1 rfl
                        have := k2.1 rfl
                        have := k3.1 rfl
                        have := k4.1 rfl
                        omega
              · have t2' : (decide (-8192 ≤ dy) && decide (dy ≤ 8192)) = false := by
                  rw [Bool.eq_false_iff]; intro h; simp at h; omega
                rw [t2'] at n2
                refine awp_region cx [(1, .p (.bool true)), (5, .p (.bool false)), (13, .skip), (21, .skip), (29, .skip), (37, .skip)] fun K hK => ?_
                simp [push_cast, n1, n2]
                repeat (refine And.intro (by clear hK; intros; first | omega | (simp_all; done) | (simp_all <;> omega)) ?_)
                refine hK _ ?_; clear hK K; refine Nav.imp ?_
                refine awp_cond (b := true) (by simp [push_cast]) (fun hb => ?_) (fun hb => ?_) <;> (refine Nav.imp ?_)
                · refine awp_region cx [] fun K hK => ?_
                  simp [push_cast]
                  repeat (refine And.intro (by clear hK; intros; first | omega | (simp_all; done) | (simp_all <;> omega)) ?_)
                  refine hK _ ?_; clear hK K; refine Nav.imp ?_
                  simp [push_cast]
                · simp at hb
            · have t1' : (decide (-8192 ≤ dx) && decide (dx ≤ 8192)) = false := by
                rw [Bool.eq_false_iff]; intro h; simp at h; omega
              rw [t1'] at n1
              refine awp_region cx [(1, .p (.bool false)), (5, .skip), (13, .skip), (21, .skip), (29, .skip), (37, .skip)] fun K hK => ?_
              simp [push_cast, n1]
              repeat (refine And.intro (by clear hK; intros; first | omega | (simp_all; done) | (simp_all <;> omega)) ?_)
              refine hK _ ?_; clear hK K; refine Nav.imp ?_
              refine awp_cond (b := true) (by simp [push_cast]) (fun hb => ?_) (fun hb => ?_) <;> (refine Nav.imp ?_)
              · refine awp_region cx [] fun K hK => ?_
                simp [push_cast]
                repeat (refine And.intro (by clear hK; intros; first | omega | (simp_all; done) | (simp_all <;> omega)) ?_)
                refine hK _ ?_; clear hK K; refine Nav.imp ?_
                simp [push_cast]
              · simp at hb
    · have hnil : R = [] := List.eq_nil_of_length_eq_zero (by omega)
      have hso : some? R = false := by rw [hsv]; simp [hnil]
      have h1 : shR R dx dy = [] := by rw [hS, hso]; simp
      have h2 : shE R dx dy = 0 := by rw [hE, hv, hnil]; simp
      rw [h1, h2]
      rw [hso] at c1
      clear hE hS h1 h2 hsv hso hBD hD
      generalize boxLo R = lo at *
      generalize boxHi R = hi at *
      refine pc_of_awp cx (fn := Tryz.f43) (c := _) Tryz.func43 rfl rfl (Nat.le_of_ble_eq_true rfl) ?_
      rw [Tryz.ntmps43]; refine Nav.imp ?_
      refine awp_region cx [] fun K hK => ?_
      simp [push_cast]
      repeat (refine And.intro (by clear hK; intros; first | omega | (simp_all; done) | (simp_all <;> omega)) ?_)
      refine hK _ ?_; clear hK K; refine Nav.imp ?_
      refine awp_region cx [(1, .p (.tup [.agg lo.row, .agg hi.row, .bool false]))] fun K hK => ?_
      simp [push_cast, c1]
      repeat (refine And.intro (by clear hK; intros; first | omega | (simp_all; done) | (simp_all <;> omega)) ?_)
      refine hK _ ?_; clear hK K; refine Nav.imp ?_
      refine awp_region cx [(1, .p (.bool true))] fun K hK => ?_
      simp [push_cast, c2]
      repeat (refine And.intro (by clear hK; intros; first | omega | (simp_all; done) | (simp_all <;> omega)) ?_)
      refine hK _ ?_; clear hK K; refine Nav.imp ?_
      refine awp_cond (b := false) (by simp [push_cast]) (fun hb => ?_) (fun hb => ?_) <;> (refine Nav.imp ?_)
      · simp at hb
      · refine awp_region cx [] fun K hK => ?_
        simp [push_cast]
        repeat (refine And.intro (by clear hK; intros; first | omega | (simp_all; done) | (simp_all <;> omega)) ?_)
        refine hK _ ?_; clear hK K; refine Nav.imp ?_
        refine awp_cond (b := true) (by simp [push_cast]) (fun hb => ?_) (fun hb => ?_) <;> (refine Nav.imp ?_)
        · refine awp_region cx [] fun K hK => ?_
          simp [push_cast]
          repeat (refine And.intro (by clear hK; intros; first | omega | (simp_all; done) | (simp_all <;> omega)) ?_)
          refine hK _ ?_; clear hK K; refine Nav.imp ?_
          simp [push_cast]
        · simp at hb
end Go.Proofs.YtdddknniooimmaaGreat

namespace Go.Proofs.YtdddknniooimmaaGreat
open Go.Abs

def mvP (d : Cell) (p : Cell) : Cell := ⟨p.x + d.x, p.y + d.y⟩
def mvC (d : Cell) (c : Crk) : Crk := ⟨mvP d c.p, c.h⟩
theorem rowOf_mv (R : List Row) (dx dy y : Int) : rowOf (R.map (shRow dx dy)) (y + dy) = (rowOf R y).map (shRun dx) := by
  unfold rowOf
  rw [List.find?_map]
  have : ((fun w : Row => decide (w.y = y + dy)) ∘ shRow dx dy) = fun w : Row => decide (w.y = y) := by
    funext w
    simp only [Function.comp, shRow]
    rw [Bool.eq_iff_iff]
    simp
  rw [this]
  cases R.find? (fun w : Row => decide (w.y = y)) with
  | none => rfl
  | some w => rfl
theorem inR_mv (l : List Run) (d x : Int) : inR (l.map (shRun d)) (x + d) = inR l x := by
  unfold inR
  rw [List.any_map]
  congr 1
  funext r
  simp only [Function.comp, shRun]
  rw [Bool.eq_iff_iff]
  simp
theorem Sof_mv (R : List Row) (d c : Cell) : Sof (R.map (shRow d.x d.y)) (mvP d c) = Sof R c := by
  unfold Sof mvP
  simp only
  rw [rowOf_mv, inR_mv]
structure Mvd (S S' : Cell → Bool) (d : Cell) : Prop where
  at_ : ∀ c, S' (mvP d c) = S c
theorem mv_l (d : Cell) (h : Hd) (p : Cell) : lcell h (mvP d p) = mvP d (lcell h p) := by cases h <;> simp [lcell, mvP] <;> omega
theorem mv_r (d : Cell) (h : Hd) (p : Cell) : rcell h (mvP d p) = mvP d (rcell h p) := by cases h <;> simp [rcell, mvP] <;> omega
theorem mv_q (d : Cell) (c : Crk) : (mvC d c).q = mvP d c.q := by
  obtain ⟨p, h⟩ := c
  cases h <;> simp [mvC, Crk.q, stp, mvP] <;> omega
theorem Mvd.isC {S S' : Cell → Bool} {d : Cell} (m : Mvd S S' d) (c : Crk) : isC S' (mvC d c) = isC S c := by
  simp only [Go.Proofs.YtdddknniooimmaaGreat.isC, mvC, mv_l, mv_r, m.at_]
theorem Mvd.suc {S S' : Cell → Bool} {d : Cell} (m : Mvd S S' d) (c : Crk) : suc S' (mvC d c) = mvC d (suc S c) := by
  have hn : ∀ q h, nxH S' (mvP d q) h = nxH S q h := fun q h => by
    unfold nxH
    have e : ∀ k, Go.Proofs.YtdddknniooimmaaGreat.isC S' ⟨mvP d q, k⟩ = Go.Proofs.YtdddknniooimmaaGreat.isC S ⟨q, k⟩ := fun k => m.isC ⟨q, k⟩
    rw [e, e]
  unfold Go.Proofs.YtdddknniooimmaaGreat.suc
  rw [mv_q, hn]; rfl
theorem Mvd.itn {S S' : Cell → Bool} {d : Cell} (m : Mvd S S' d) : ∀ (n : Nat) (c : Crk), itn (Go.Proofs.YtdddknniooimmaaGreat.suc S') n (mvC d c) = mvC d (itn (Go.Proofs.YtdddknniooimmaaGreat.suc S) n c)
  | 0, c => rfl
  | n + 1, c => by
    show Go.Proofs.YtdddknniooimmaaGreat.itn _ n (Go.Proofs.YtdddknniooimmaaGreat.suc S' (mvC d c)) = _
    rw [m.suc, m.itn n]; rfl
theorem Mvd.orb {S S' : Cell → Bool} {d : Cell} (m : Mvd S S' d) : ∀ (n : Nat) (c : Crk), orb (Go.Proofs.YtdddknniooimmaaGreat.suc S') n (mvC d c) = (orb (Go.Proofs.YtdddknniooimmaaGreat.suc S) n c).map (mvC d)
  | 0, c => rfl
  | n + 1, c => by
    show mvC d c :: Go.Proofs.YtdddknniooimmaaGreat.orb _ n (Go.Proofs.YtdddknniooimmaaGreat.suc S' (mvC d c)) = _
    rw [m.suc, m.orb n]; rfl
theorem mvP_inj {d a b : Cell} (h : mvP d a = mvP d b) : a = b := by
  obtain ⟨x, y⟩ := a; obtain ⟨u, v⟩ := b
  simp only [mvP, Cell.mk.injEq] at h ⊢
  omega
theorem mvC_inj {d : Cell} {a b : Crk} (h : mvC d a = mvC d b) : a = b := by
  obtain ⟨p, k⟩ := a; obtain ⟨q, j⟩ := b
  simp only [mvC, Crk.mk.injEq] at h ⊢
  exact ⟨mvP_inj h.1, h.2⟩
theorem mv_low (d a b : Cell) : lowC (mvP d a) (mvP d b) ↔ lowC a b := by
  unfold lowC mvP; simp only; omega
theorem Mvd.lp {S S' : Cell → Bool} {d : Cell} (m : Mvd S S' d) {L : List Crk} (h : IsLp S L) : IsLp S' (L.map (mvC d)) := by
  obtain ⟨c, n, hc, pc, rfl, lc⟩ := h
  refine ⟨mvC d c, n, by rw [m.isC]; exact hc, ⟨pc.pos, by rw [m.itn, pc.ret], fun i h1 h2 e => ?_⟩, (m.orb n c).symm, fun e he hne => ?_⟩
  · rw [m.itn] at e
    exact pc.least i h1 h2 (mvC_inj e)
  · obtain ⟨x, hx, rfl⟩ := List.mem_map.1 he
    exact (mv_low d _ _).2 (lc x hx fun e => hne (by rw [e]))
theorem Mvd.lps {S S' : Cell → Bool} {d : Cell} (m : Mvd S S' d) {Ls : List (List Crk)} (h : Lps S Ls) : Lps S' (Ls.map fun L => L.map (mvC d)) := by
  refine ⟨fun L hL => ?_, fun c hc => ?_, ?_⟩
  · obtain ⟨M, hM, rfl⟩ := List.mem_map.1 hL
    exact m.lp (h.each M hM)
  · have hcc : c = mvC d ⟨⟨c.p.x - d.x, c.p.y - d.y⟩, c.h⟩ := by
      obtain ⟨⟨x, y⟩, k⟩ := c
      simp [mvC, mvP]
    rw [hcc, m.isC] at hc
    obtain ⟨L, hL, hm⟩ := h.cover _ hc
    exact ⟨_, List.mem_map.2 ⟨L, hL, rfl⟩, List.mem_map.2 ⟨_, hm, hcc.symm⟩⟩
  · rw [List.pairwise_map]
    refine h.sorted.imp fun {L M} ⟨a, b, h1, h2, h3⟩ => ⟨mvC d a, mvC d b, ?_, ?_, (mv_low d _ _).2 h3⟩
    · rw [List.head?_map, h1]; rfl
    · rw [List.head?_map, h2]; rfl
theorem row_ends {w : Row} (h : fine w.runs = true) : (∀ r ∈ w.runs, fstA w ≤ r.a ∧ r.b ≤ lstB w) ∧ -4096 ≤ fstA w ∧ lstB w ≤ 4096 ∧ ∀ dx dy, fstA (shRow dx dy w) = fstA w + dx ∧ lstB (shRow dx dy w) = lstB w + dx := by
  obtain ⟨f, z, hf, hz, hf1, hz1, hl⟩ := fine_ends h
  have e1 : fstA w = f.a := by simp [fstA, hf]
  have e2 : lstB w = z.b := by simp [lstB, hz]
  rw [e1, e2]
  refine ⟨fun r hr => ?_, hf1.1, hz1.2.2, fun dx dy => ⟨?_, ?_⟩⟩
  · obtain ⟨k, hk, rfl⟩ := List.mem_iff_getElem.1 hr
    have hk' := List.getElem?_eq_getElem hk
    exact ⟨(rvalid_asc (fine_rv h) k 0 _ f (Nat.zero_le _) hf hk').1, (rvalid_asc (fine_rv h) (w.runs.length - 1) k z _ (by omega) hk' hz).2⟩
  · simp [fstA, shRow, hf, shRun]
  · simp [lstB, shRow, hz, shRun]
theorem inB_facts {R : List Row} (hv : validR R = true) (h0 : R ≠ []) {dx dy : Int} (hin : inB R dx dy = true) :
    (∀ w ∈ R, -4096 ≤ fstA w + dx ∧ lstB w + dx ≤ 4096 ∧ -4096 ≤ w.y + dy ∧ w.y + dy < 4096) := by
  intro w hw
  have hs : some? R = true := by simp [some?, hv]; exact List.length_pos_iff.2 h0
  simp only [inB, boxLo, boxHi, hs, if_true, Bool.and_eq_true, decide_eq_true_eq] at hin
  have h1 := (foldMin fstA R 4096).2.1 w hw
  have h2 := (foldMax (fun w => lstB w - 1) R (-4096)).2.1 w hw
  have h3 := rows_ends hv hw
  simp only [lowX, highX] at hin
  omega
theorem sh_valid {R : List Row} (hv : validR R = true) (h0 : R ≠ []) {dx dy : Int} (hin : inB R dx dy = true) : validR (R.map (shRow dx dy)) = true := by
  have hb := inB_facts hv h0 hin
  refine validR_pw.2 ⟨fun w' hw' => ?_, ?_⟩
  · obtain ⟨w, hw, rfl⟩ := List.mem_map.1 hw'
    have hwb := hb w hw
    have hf := (row_fine hv hw).2
    obtain ⟨e1, e2, e3, _⟩ := row_ends hf
    obtain ⟨q1, q2, q3⟩ := fine_apart.1 hf
    refine ⟨by simp only [shRow]; omega, fine_apart.2 ⟨by simpa [shRow] using q1, ⟨fun r' hr' => ?_, ?_⟩, fun r' hr' => ?_⟩⟩
    · obtain ⟨r, hr, rfl⟩ := List.mem_map.1 hr'
      have := q2.1 r hr
      simp only [shRun]; omega
    · simp only [shRow]
      rw [List.pairwise_map]
      exact q2.2.imp fun h => by simp only [shRun]; omega
    · obtain ⟨r, hr, rfl⟩ := List.mem_map.1 hr'
      have := e1 r hr
      simp only [shRun]; omega
  · rw [List.pairwise_map]
    exact (rows_pw hv).imp fun h => by simp only [shRow]; omega
theorem turnG_mv (d : Cell) : ∀ (h : Hd) (L : List Crk), turnG h (L.map (mvC d)) = (turnG h L).map (mvP d)
  | h, [] => rfl
  | h, c :: t => by
    have ih := turnG_mv d c.h t
    simp only [List.map_cons, turnG, mvC] at ih ⊢
    split
    · exact ih
    · rw [List.map_cons, ih]
theorem polyOf_mv (d : Cell) (L : List Crk) : polyOf (L.map (mvC d)) = (polyOf L).map (mvP d) := by
  cases L with
  | nil => rfl
  | cons c t =>
    have := turnG_mv d c.h t
    simp only [List.map_cons, polyOf, mvC] at this ⊢
    rw [this]
end Go.Proofs.YtdddknniooimmaaGreat

namespace Go.Proofs.YtdddknniooimmaaGreat
open Go.Abs

theorem run_of {f : Nat} {ds : List D} (h : hasT Tryz.prog (f + 2) 85 ds) : ∃ c : Run, ds = c.row := by
  obtain ⟨hl, hp⟩ := hasT_struct (n := 2) (ts := [3, 3]) Tryz.underlying85 (by kernel_rfl) rfl (by kernel_rfl) h
  obtain ⟨d0, r0, e0, h0, hp0⟩ := parts_one (by kernel_rfl) hp (by simp_all <;> omega)
  subst e0
  obtain ⟨d1, r1, e1, h1, hp1⟩ := parts_one (by kernel_rfl) hp0 (by simp_all <;> omega)
  subst e1
  simp only [parts] at hp1
  subst hp1
  obtain ⟨n0, e0, w0⟩ := hasT_int Tryz.underlying3 h0
  cases e0
  obtain ⟨n1, e1, w1⟩ := hasT_int Tryz.underlying3 h1
  cases e1
  exact ⟨⟨n0, n1⟩, rfl⟩
theorem runs_of {f : Nat} {d : D} (h : hasT Tryz.prog (f + 3) 63 [d]) : ∃ l : List Run, d = encRuns l := by
  obtain ⟨rows, he, _, hr⟩ := hasT_slice Tryz.underlying63 h
  cases he
  obtain ⟨l, rfl⟩ := rows_of (row := Run.row) fun r hr' => run_of (hr r hr')
  exact ⟨l, rfl⟩
theorem regrows_of {f : Nat} {d : D} (h : hasT Tryz.prog (f + 5) 22 [d]) : ∃ l : List Row, d = encRows l := by
  obtain ⟨rows, he, _, hr⟩ := hasT_slice Tryz.underlying22 h
  cases he
  obtain ⟨l, rfl⟩ := rows_of (row := Row.row) fun r hr' => by
    obtain ⟨hl, hp⟩ := hasT_struct (n := 2) (ts := [3, 63]) Tryz.underlying65 (by kernel_rfl) rfl (by kernel_rfl) (hr r hr')
    obtain ⟨d0, r0, e0, h0, hp0⟩ := parts_one (by kernel_rfl) hp (by simp_all <;> omega)
    subst e0
    obtain ⟨d1, r1, e1, h1, hp1⟩ := parts_one (by kernel_rfl) hp0 (by simp_all <;> omega)
    subst e1
    simp only [parts] at hp1
    subst hp1
    obtain ⟨n0, e0, w0⟩ := hasT_int Tryz.underlying3 h0
    cases e0
    obtain ⟨c, rfl⟩ := runs_of h1
    exact ⟨⟨n0, c⟩, rfl⟩
  exact ⟨l, rfl⟩
theorem region_of {f : Nat} {ds : List D} (h : hasT Tryz.prog (f + 6) 24 ds) : ∃ l : List Row, ds = regRow l := by
  obtain ⟨hl, hp⟩ := hasT_struct (n := 1) (ts := [22]) Tryz.underlying24 (by kernel_rfl) rfl (by kernel_rfl) h
  obtain ⟨d0, r0, e0, h0, hp0⟩ := parts_one (by kernel_rfl) hp (by simp_all <;> omega)
  subst e0
  simp only [parts] at hp0
  subst hp0
  obtain ⟨c, rfl⟩ := regrows_of h0
  exact ⟨c, rfl⟩

theorem arg_region {x : D} (h : hasV Tryz.prog 24 x) : ∃ R : List Row, x = .agg (regRow R) := by
  simp only [hasV, Tryz.underlying24] at h
  obtain ⟨cs, rfl, h⟩ := h
  obtain ⟨s, rfl⟩ := region_of (f := 24) h
  exact ⟨s, rfl⟩
theorem arg_int {x : D} (h : hasV Tryz.prog 3 x) : ∃ n : Int, x = .int .i64 n := by
  obtain ⟨n, rfl, _⟩ := hasV_int Tryz.underlying3 h
  exact ⟨n, rfl⟩

theorem own : ownKnob Tryz.prog.godebug = none := by kernel_rfl
theorem laidOut : laidOutB Tryz.prog = true := by kernel_rfl
def zeroCell : Value := .agg #[.int .i64 0, .int .i64 0]
def zeroReg : Value := .agg #[.slice none 0 0]
end Go.Proofs.YtdddknniooimmaaGreat

namespace Go.Proofs.YtdddknniooimmaaGreat
open Go.Abs

def cut20 (x : Run) : Run := if x.a < x.b ∧ -4097 < x.a ∧ x.b < 4097 ∧ x.a < x.b - 20 then ⟨x.a, x.a + 20⟩ else x
def fewW (w : Row) : Row := ⟨w.y, (w.runs.take 4).map cut20⟩
def fewR (R : List Row) : List Row := (R.take 12).map fewW

theorem few_small (R : List Row) : smallR (fewR R) := by
  refine ⟨by simp [fewR]; omega, fun w hw => ?_⟩
  obtain ⟨v, _, rfl⟩ := List.mem_map.1 hw
  simp [fewW]; omega

theorem cut20_le (x : Run) (h : -4096 ≤ (cut20 x).a ∧ (cut20 x).b ≤ 4096) : ((cut20 x).b - (cut20 x).a).toNat ≤ 20 := by
  unfold cut20 at *
  split
  · simp only; omega
  · rename_i hc
    rw [if_neg hc] at h
    by_cases h1 : x.a < x.b
    · have : ¬ x.a < x.b - 20 := fun h2 => hc ⟨h1, by omega, by omega, h2⟩
      omega
    · omega
theorem flat_cap {α β : Type} (f : α → List β) (n : Nat) : ∀ l : List α, (∀ a ∈ l, (f a).length ≤ n) → (l.flatMap f).length ≤ n * l.length
  | [], _ => by simp
  | a :: l, h => by
    have h1 := h a (by simp)
    have h2 := flat_cap f n l fun b hb => h b (by simp [hb])
    rw [List.flatMap_cons, List.length_append, List.length_cons, Nat.mul_add]
    omega
theorem few_cells22 {R : List Row} (h : validR (fewR R) = true) : (regCells (fewR R)).length ≤ 960 := by
  have h1 : (fewR R).length ≤ 12 := by simp [fewR]; omega
  have h2 := flat_cap rowCells 80 (fewR R) fun w hw => by
    have hf := (row_fine h hw).2
    obtain ⟨v, _, rfl⟩ := List.mem_map.1 hw
    obtain ⟨_, ha, hb⟩ := fine_apart.1 hf
    have hl : (fewW v).runs.length ≤ 4 := by simp [fewW]; omega
    have h3 := flat_cap (runCells (fewW v).y) 20 (fewW v).runs fun r hr => by
      rw [runCells_len]
      have hrb := hb r hr
      obtain ⟨x, _, rfl⟩ := List.mem_map.1 hr
      exact cut20_le x hrb
    unfold rowCells
    omega
  unfold regCells
  omega
set_option maxHeartbeats 4000000 in
theorem few22_ok (R : List Row) : PC Tryz.prog 30 [.agg (regRow R)] (.p (.agg (regRow (fewR R)))) := by
  refine pc_of_awp cx (fn := Tryz.f30) (c := _) Tryz.func30 rfl rfl (Nat.le_of_ble_eq_true rfl) ?_
  rw [Tryz.ntmps30]; refine Nav.imp ?_
  refine awp_region cx [] fun K hK => ?_
  simp [push_cast]
  repeat (refine And.intro (by clear hK; intros; first | omega | (simp_all; done) | (simp_all <;> omega)) ?_)
  refine hK _ ?_; clear hK K; refine Nav.imp ?_
  refine awp_region cx [] fun K hK => ?_
  simp [push_cast]
  repeat (refine And.intro (by clear hK; intros; first | omega | (simp_all; done) | (simp_all <;> omega)) ?_)
  refine hK _ ?_; clear hK K; refine Nav.imp ?_
  refine awp_region cx [] fun K hK => ?_
  simp [push_cast]
  repeat (refine And.intro (by clear hK; intros; first | omega | (simp_all; done) | (simp_all <;> omega)) ?_)
  refine hK _ ?_; clear hK K; refine Nav.imp ?_
  refine awp_loop (β := Nat × List Row) (fun b => ⟨86, [(1, .ptr 0 0 0), (2, .ptr 1 0 0), (3, .ptr 2 0 0), (4, .d (.int .i64 b.1))], [(0, some ⟨24, 1, [(regRow R).map .d]⟩), (1, some ⟨24, 1, [[.nl]]⟩), (2, some ⟨24, 1, [[.hs 3 0 b.2.length]]⟩), (3, some ⟨65, 2, dr (b.2.map Row.row)⟩)], 4⟩) (fun b => b.1 ≤ R.length ∧ b.1 ≤ 12 ∧ b.2 = (R.take b.1).map fewW) (fun b => R.length - b.1) (0, []) ?_ ⟨Nat.zero_le _, by omega, by simp⟩ ?_
  · refine weak_of [(0, some 0), (1, some 1), (2, some 2), (3, none)] rfl (by simp [upT, up, upL, push_cast]) (by simp [upH, upR, upL, up, push_cast]) (by simp [namesOk, push_cast]) (by simp [olds])
  · rintro ⟨k, out⟩ ⟨hk, hk2, hout⟩
    simp only at hk hk2 hout
    refine Nav.imp ?_
    refine awp_region cx [] fun K hK => ?_
    simp [push_cast]
    repeat (refine And.intro (by clear hK; intros; first | omega | (simp_all; done) | (simp_all <;> omega)) ?_)
    refine hK _ ?_; clear hK K; refine Nav.imp ?_
    refine awp_cond (by simp [push_cast] <;> exact rfl) (fun hb => ?_) (fun hb => ?_) <;> (refine Nav.imp ?_)
    · simp at hb
      obtain ⟨hlt, h12⟩ := hb
      obtain ⟨w, hw⟩ := getq hlt
      have e0 := wrap_i64 (n := (k : Int) + 1) (by omega) (by omega)
      have hnext : (R.take (k + 1)).map fewW = (R.take k).map fewW ++ [fewW w] := by rw [take_get hw]; simp
      have hol : out.length ≤ 12 := by rw [hout]; simp; omega
      have ho40 : (out.length + 1) * 32 ≤ 140737488355328 := by omega
      obtain ⟨y, ru⟩ := w
      refine awp_region cx [] fun K hK => ?_
      simp [push_cast, hw, Row.row]
      repeat (refine And.intro (by clear hK; intros; first | omega | (simp_all; done) | (simp_all <;> omega)) ?_)
      refine hK _ ?_; clear hK K; refine Nav.imp ?_
      refine awp_region cx [] fun K hK => ?_
      simp [push_cast, Row.row]
      repeat (refine And.intro (by clear hK; intros; first | omega | (simp_all; done) | (simp_all <;> omega)) ?_)
      refine hK _ ?_; clear hK K; refine Nav.imp ?_
      apply cut_
      · intro key
        refine awp_cond (b := decide (4 < (ru.length : Int))) (by simp [push_cast]) (fun hb => ?_) (fun hb => ?_) <;> (refine Nav.imp ?_)
        · have hb : 4 < ru.length := by simp at hb; omega
          have h4 : 4 ≤ ru.length := by omega
          refine awp_region cx [] fun K hK => ?_
          simp [push_cast, Row.row, h4]
          repeat (refine And.intro (by clear hK; intros; first | omega | (simp_all; done) | (simp_all <;> omega)) ?_)
          refine hK _ ?_; clear hK K; refine Nav.imp ?_
          refine awp_weak (s' := ⟨86, [(1, .ptr 0 0 0), (2, .ptr 1 0 0), (3, .ptr 2 0 0), (4, .d (.int .i64 k)), (5, .ptr 4 0 0)], [(0, some ⟨24, 1, [(regRow R).map .d]⟩), (1, some ⟨24, 1, [[.nl]]⟩), (2, some ⟨24, 1, [[.hs 3 0 out.length]]⟩), (3, some ⟨65, 2, dr (out.map Row.row)⟩), (4, some ⟨65, 2, [(Row.row ⟨y, ru.take 4⟩).map .d]⟩)], 5⟩) ?_ key.h
          refine weak_of [(0, some 0), (1, some 1), (2, some 2), (3, some 3), (4, some 18)] rfl (by simp [upT, up, upL, push_cast, Row.row]) (by simp [upH, upR, upL, up, push_cast, Row.row]) (by simp [namesOk, push_cast]) (by simp [olds])
        · have hb : ru.take 4 = ru := List.take_of_length_le (by simp at hb; omega)
          refine awp_weak (s' := ⟨86, [(1, .ptr 0 0 0), (2, .ptr 1 0 0), (3, .ptr 2 0 0), (4, .d (.int .i64 k)), (5, .ptr 4 0 0)], [(0, some ⟨24, 1, [(regRow R).map .d]⟩), (1, some ⟨24, 1, [[.nl]]⟩), (2, some ⟨24, 1, [[.hs 3 0 out.length]]⟩), (3, some ⟨65, 2, dr (out.map Row.row)⟩), (4, some ⟨65, 2, [(Row.row ⟨y, ru.take 4⟩).map .d]⟩)], 5⟩) ?_ key.h
          rw [hb]
          refine weak_of [(0, some 0), (1, some 1), (2, some 2), (3, some 3), (4, some 18)] rfl (by simp [upT, up, upL, push_cast, Row.row]) (by simp [upH, upR, upL, up, push_cast, Row.row]) (by simp [namesOk, push_cast]) (by simp [olds])
      · have hW : fewW ⟨y, ru⟩ = ⟨y, (ru.take 4).map cut20⟩ := rfl
        rw [hW] at hnext
        have hl4 : (ru.take 4).length ≤ 4 := by simp; omega
        generalize ru.take 4 = l at *
        refine Nav.imp ?_
        refine awp_region cx [] fun K hK => ?_
        simp [push_cast]
        repeat (refine And.intro (by clear hK; intros; first | omega | (simp_all; done) | (simp_all <;> omega)) ?_)
        refine hK _ ?_; clear hK K; refine Nav.imp ?_
        refine awp_region cx [] fun K hK => ?_
        simp [push_cast]
        repeat (refine And.intro (by clear hK; intros; first | omega | (simp_all; done) | (simp_all <;> omega)) ?_)
        refine hK _ ?_; clear hK K; refine Nav.imp ?_
        refine awp_loop (β := Nat × List Run) (fun b => ⟨86, [(1, .ptr 0 0 0), (2, .ptr 1 0 0), (3, .ptr 2 0 0), (4, .d (.int .i64 k)), (5, .ptr 4 0 0), (6, .hs 5 0 b.2.length), (7, .d (.int .i64 b.1))], [(0, some ⟨24, 1, [(regRow R).map .d]⟩), (1, some ⟨24, 1, [[.nl]]⟩), (2, some ⟨24, 1, [[.hs 3 0 out.length]]⟩), (3, some ⟨65, 2, dr (out.map Row.row)⟩), (4, some ⟨65, 2, [(Row.row ⟨y, l⟩).map .d]⟩), (5, some ⟨85, 2, dr (b.2.map Run.row)⟩)], 6⟩) (fun b => b.1 ≤ l.length ∧ b.2 = (l.take b.1).map cut20) (fun b => l.length - b.1) (0, []) ?_ ⟨Nat.zero_le _, by simp⟩ ?_
        · refine weak_of [(0, some 0), (1, some 1), (2, some 2), (3, some 3), (4, some 4), (5, none)] rfl (by simp [upT, up, upL, push_cast, Row.row]) (by simp [upH, upR, upL, up, push_cast, Row.row]) (by simp [namesOk, push_cast]) (by simp [olds])
        · rintro ⟨j, L⟩ ⟨hj, hL⟩
          simp only at hj hL
          refine Nav.imp ?_
          refine awp_region cx [] fun K hK => ?_
          simp [push_cast, Row.row]
          repeat (refine And.intro (by clear hK; intros; first | omega | (simp_all; done) | (simp_all <;> omega)) ?_)
          refine hK _ ?_; clear hK K; refine Nav.imp ?_
          refine awp_cond (b := decide ((j : Int) < l.length)) (by simp [push_cast]) (fun hb => ?_) (fun hb => ?_) <;> (refine Nav.imp ?_)
          · have hjl : j < l.length := by simpa using hb
            obtain ⟨x, hx⟩ := getq hjl
            have e1 := wrap_i64 (n := (j : Int) + 1) (by omega) (by omega)
            have hLl : L.length ≤ 4 := by rw [hL]; simp; omega
            have hL16 : (L.length + 1) * 16 ≤ 140737488355328 := by omega
            have hnx : (l.take (j + 1)).map cut20 = (l.take j).map cut20 ++ [cut20 x] := by rw [take_get hx]; simp
            have hcx : cut20 x = if x.a < x.b ∧ -4097 < x.a ∧ x.b < 4097 ∧ x.a < x.b - 20 then ⟨x.a, x.a + 20⟩ else x := rfl
            rw [← hL] at hnx
            obtain ⟨xa, xb⟩ := x
            simp only at hcx
            refine awp_region cx [] fun K hK => ?_
            simp [push_cast, hx, Row.row, Run.row]
            repeat (refine And.intro (by clear hK; intros; first | omega | (simp_all; done) | (simp_all <;> omega)) ?_)
            refine hK _ ?_; clear hK K; refine Nav.imp ?_
            refine awp_region cx [] fun K hK => ?_
            simp [push_cast, Run.row]
            repeat (refine And.intro (by clear hK; intros; first | omega | (simp_all; done) | (simp_all <;> omega)) ?_)
            refine hK _ ?_; clear hK K; refine Nav.imp ?_
            apply cut_
            · intro ky
              refine awp_cond (by simp [push_cast] <;> exact rfl) (fun hb => ?_) (fun hb => ?_) <;> (refine Nav.imp ?_)
              · simp at hb
                obtain ⟨⟨⟨b1, b4⟩, b2⟩, b3⟩ := hb
                have e2 := wrap_i64 (n := xb - 20) (by omega) (by omega)
                rw [e2] at b4
                have e3 := wrap_i64 (n := xa + 20) (by omega) (by omega)
                have hc : cut20 ⟨xa, xb⟩ = ⟨xa, xa + 20⟩ := by rw [hcx, if_pos ⟨b1, by omega, b3, b4⟩]
                refine awp_region cx [] fun K hK => ?_
                simp [push_cast, Run.row, e3]
                repeat (refine And.intro (by clear hK; intros; first | omega | (simp_all; done) | (simp_all <;> omega)) ?_)
                refine hK _ ?_; clear hK K; refine Nav.imp ?_
                refine awp_weak (s' := ⟨86, [(1, .ptr 0 0 0), (2, .ptr 1 0 0), (3, .ptr 2 0 0), (4, .d (.int .i64 k)), (5, .ptr 4 0 0), (6, .hs 5 0 L.length), (7, .d (.int .i64 j)), (8, .ptr 6 0 0)], [(0, some ⟨24, 1, [(regRow R).map .d]⟩), (1, some ⟨24, 1, [[.nl]]⟩), (2, some ⟨24, 1, [[.hs 3 0 out.length]]⟩), (3, some ⟨65, 2, dr (out.map Row.row)⟩), (4, some ⟨65, 2, [(Row.row ⟨y, l⟩).map .d]⟩), (5, some ⟨85, 2, dr (L.map Run.row)⟩), (6, some ⟨85, 2, [(cut20 ⟨xa, xb⟩).row.map .d]⟩)], 7⟩) ?_ ky.h
                rw [hc]
                refine weak_of [(0, some 0), (1, some 1), (2, some 2), (3, some 3), (4, some 4), (5, some 5), (6, some 16)] rfl (by simp [upT, up, upL, push_cast, Row.row, Run.row]) (by simp [upH, upR, upL, up, push_cast, Row.row, Run.row]) (by simp [namesOk, push_cast]) (by simp [olds])
              · simp at hb
                have hc : cut20 ⟨xa, xb⟩ = ⟨xa, xb⟩ := by
                  rw [hcx, if_neg]
                  rintro ⟨b1, b2, b3, b4⟩
                  have e2 := wrap_i64 (n := xb - 20) (by omega) (by omega)
                  have := hb b1 (by rw [e2]; exact b4) (by omega)
                  omega
                refine awp_weak (s' := ⟨86, [(1, .ptr 0 0 0), (2, .ptr 1 0 0), (3, .ptr 2 0 0), (4, .d (.int .i64 k)), (5, .ptr 4 0 0), (6, .hs 5 0 L.length), (7, .d (.int .i64 j)), (8, .ptr 6 0 0)], [(0, some ⟨24, 1, [(regRow R).map .d]⟩), (1, some ⟨24, 1, [[.nl]]⟩), (2, some ⟨24, 1, [[.hs 3 0 out.length]]⟩), (3, some ⟨65, 2, dr (out.map Row.row)⟩), (4, some ⟨65, 2, [(Row.row ⟨y, l⟩).map .d]⟩), (5, some ⟨85, 2, dr (L.map Run.row)⟩), (6, some ⟨85, 2, [(cut20 ⟨xa, xb⟩).row.map .d]⟩)], 7⟩) ?_ ky.h
                rw [hc]
                refine weak_of [(0, some 0), (1, some 1), (2, some 2), (3, some 3), (4, some 4), (5, some 5), (6, some 16)] rfl (by simp [upT, up, upL, push_cast, Row.row, Run.row]) (by simp [upH, upR, upL, up, push_cast, Row.row, Run.row]) (by simp [namesOk, push_cast]) (by simp [olds])
            · generalize cut20 ⟨xa, xb⟩ = c at *
              obtain ⟨ca, cb⟩ := c
              refine Nav.imp ?_
              refine awp_region cx [] fun K hK => ?_
              simp [push_cast, Run.row, hL16]
              repeat (refine And.intro (by clear hK; intros; first | omega | (simp_all; done) | (simp_all <;> omega)) ?_)
              refine hK _ ?_; clear hK K; refine Nav.imp ?_
              refine awp_region cx [] fun K hK => ?_
              simp [push_cast, e1]
              repeat (refine And.intro (by clear hK; intros; first | omega | (simp_all; done) | (simp_all <;> omega)) ?_)
              refine hK _ ?_; clear hK K; refine Nav.imp ?_
              refine ⟨(j + 1, L ++ [⟨ca, cb⟩]), ⟨hjl, hnx.symm⟩, by simp only; omega, ?_⟩
              refine weak_of [(0, some 0), (1, some 1), (2, some 2), (3, some 3), (4, some 4), (5, some 10)] rfl (by simp [upT, up, upL, push_cast, Row.row, Run.row]) (by simp [upH, upR, upL, up, push_cast, Row.row, Run.row]) (by simp [namesOk, push_cast]) (by simp [olds])
          · have hjn : j = l.length := by simp at hb; omega
            subst hjn
            rw [List.take_length] at hL
            have hcl : (⟨y, l.map cut20⟩ : Row) = ⟨y, L⟩ := by rw [hL]
            rw [hcl, ← hout] at hnext
            refine awp_freeze 5 (L.map Run.row) rfl (by simp [push_cast, Run.row]) fun K hK => ?_
            simp [push_cast, St.fz, fzT, fzH, fzO, fz, fzL, fzR, fzR_dr, fzR_app, fzR_set, fzL_map, Run.row]
            refine hK _ ?_; clear hK K; refine Nav.imp ?_
            refine awp_region cx [] fun K hK => ?_
            simp [push_cast, Row.row, ho40]
            repeat (refine And.intro (by clear hK; intros; first | omega | (simp_all; done) | (simp_all <;> omega)) ?_)
            refine hK _ ?_; clear hK K; refine Nav.imp ?_
            refine awp_region cx [] fun K hK => ?_
            simp [push_cast, e0]
            repeat (refine And.intro (by clear hK; intros; first | omega | (simp_all; done) | (simp_all <;> omega)) ?_)
            refine hK _ ?_; clear hK K; refine Nav.imp ?_
            refine ⟨(k + 1, out ++ [⟨y, L⟩]), ⟨hlt, by simp only; omega, hnext.symm⟩, by simp only; omega, ?_⟩
            refine weak_of [(0, some 0), (1, some 1), (2, some 2), (3, some 18)] rfl (by simp [upT, up, upL, push_cast, Row.row]) (by simp [upH, upR, upL, up, push_cast, Row.row]) (by simp [namesOk, push_cast]) (by simp [olds])
    · simp at hb
      have hf : fewR R = out := by
        rw [hout]
        unfold fewR
        congr 1
        by_cases h : k < R.length
        · rw [show k = 12 from by have := hb h; omega]
        · rw [List.take_of_length_le (by omega), List.take_of_length_le (by omega)]
      rw [hf]
      clear hf hout
      refine awp_freeze 3 (out.map Row.row) rfl (by simp [push_cast, Row.row]) fun K hK => ?_
      simp [push_cast, St.fz, fzT, fzH, fzO, fz, fzL, fzR, fzR_dr, fzR_app, fzR_set, fzL_map, Row.row]
      refine hK _ ?_; clear hK K; refine Nav.imp ?_
      refine awp_region cx [] fun K hK => ?_
      simp [push_cast]
      repeat (refine And.intro (by clear hK; intros; first | omega | (simp_all; done) | (simp_all <;> omega)) ?_)
      refine hK _ ?_; clear hK K; refine Nav.imp ?_
      simp [push_cast]

end Go.Proofs.YtdddknniooimmaaGreat
