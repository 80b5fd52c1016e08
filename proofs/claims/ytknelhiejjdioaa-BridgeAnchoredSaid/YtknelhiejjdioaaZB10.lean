/-
  Texts of this seat put together: B10.
-/
import Derived.Test.YtknelhiejjdioaaI10
import Derived.Test.YtknelhiejjdioaaI11
set_option linter.unusedVariables false
set_option linter.unusedSimpArgs false
set_option maxRecDepth 100000
namespace Go.Proofs.Ytknelhiejjdioaa
open Go.Abs Go.ChangeShapes Go.WideShapes Go.ChangeAt Go.RowKit

/-! Bridges are straight, end beside held cells, and divide what is loose. -/
def HeldLine (H : List Row) (l : List Cell) : Prop := ∃ (x y dx dy : Int) (n : Nat), dirOk dx dy ∧ 0 < n ∧ n ≤ 8192 ∧ l = lineC x y dx dy n ∧ (∀ c ∈ l, onG c = true) ∧ (⟨x - dx, y - dy⟩ : Cell) ∈ regCells H ∧ (⟨x + n * dx, y + n * dy⟩ : Cell) ∈ regCells H
theorem run_line {y : Int} {q : Run} : runCells y q = lineC q.a y 1 0 (q.b - q.a).toNat := by
  unfold runCells lineC
  refine List.map_congr_left fun k _ => ?_
  simp
theorem col_line {y : Int} {q : Run} : (runCells y q).map xc = lineC y q.a 0 1 (q.b - q.a).toNat := by
  unfold runCells lineC
  rw [List.map_map]
  refine List.map_congr_left fun k _ => ?_
  simp [xc]
theorem line_held {r b : List Row} (hr : validR r = true) (hb : validR b = true) {up : Bool} {l : List Cell} (h : l ∈ spansU r b up) : HeldLine (opR fI r b) l := by
  have hon : ∀ c ∈ l, onG c = true := fun c hc => (spansU_facts hr hb up).2.1 c (List.mem_flatten.2 ⟨l, h, hc⟩)
  cases up with
  | false =>
    have hD := (opR_facts (f := fD) rfl hr hb).1
    obtain ⟨w, hw, q, hq, ha, e⟩ := span_mem (show l ∈ spanR (opR fD r b) (opR fI r b) from h)
    have hb2 := row_runs hD hw hq
    simp only [anch, Bool.and_eq_true, decide_eq_true_eq] at ha
    refine ⟨q.a, w.y, 1, 0, (q.b - q.a).toNat, .inl ⟨rfl, rfl⟩, by omega, by omega, by rw [e, run_line], hon, ?_, ?_⟩
    · have := ha.1
      rwa [show w.y - 0 = w.y by omega]
    · have := ha.2
      rwa [show q.a + ((q.b - q.a).toNat : Int) * 1 = q.b by omega, show w.y + ((q.b - q.a).toNat : Int) * 0 = w.y by omega]
  | true =>
    obtain ⟨t1, m1, _⟩ := turn_facts hr
    obtain ⟨t2, m2, _⟩ := turn_facts hb
    have hD := (opR_facts (f := fD) rfl t1 t2).1
    obtain ⟨l0, h0, rfl⟩ := List.mem_map.1 (show l ∈ (spansL (turnR r) (turnR b)).map (·.map xc) from h)
    obtain ⟨w, hw, q, hq, ha, e⟩ := span_mem (show l0 ∈ spanR (opR fD (turnR r) (turnR b)) (opR fI (turnR r) (turnR b)) from h0)
    have hb2 := row_runs hD hw hq
    simp only [anch, Bool.and_eq_true, decide_eq_true_eq, opI_iff t1 t2, m1, m2] at ha
    refine ⟨w.y, q.a, 0, 1, (q.b - q.a).toNat, .inr ⟨rfl, rfl⟩, by omega, by omega, by rw [e]; exact col_line, hon, ?_, ?_⟩
    · rw [opI_iff hr hb, show w.y - 0 = w.y by omega]
      exact ha.1
    · rw [opI_iff hr hb, show q.a + ((q.b - q.a).toNat : Int) * 1 = q.b by omega, show w.y + ((q.b - q.a).toNat : Int) * 0 = w.y by omega]
      exact ha.2
theorem line_valid {x y dx dy : Int} {n : Nat} (hd : dirOk dx dy) (h0 : 0 < n) (hn : n ≤ 8192) (hon : ∀ c ∈ lineC x y dx dy n, onG c = true) : validT ⟨5, false, lineC x y dx dy n⟩ = true := by
  simp only [validT, Bool.and_eq_true]
  refine ⟨⟨?_, chain_ok hon fun j a b ha hb => ?_⟩, by simp [closes]⟩
  · simp [roleOk, lineC_length]; omega
  · have hj : j + 1 < n := by have := (List.getElem?_eq_some_iff.1 hb).1; rwa [lineC_length] at this
    rw [lineC_get _ _ _ _ (show j < n by omega)] at ha
    rw [lineC_get _ _ _ _ hj] at hb
    cases ha
    cases hb
    rcases hd with ⟨rfl, rfl⟩ | ⟨rfl, rfl⟩ <;> simp [nbT, dist] <;> omega
theorem loose_sub {r b : List Row} (hr : validR r = true) (hb : validR b = true) (up : Bool) {c : Cell} (h : c ∈ (spansU r b up).flatten) : c ∈ regCells (opR fD r b) := by
  cases up with
  | false => exact (span_sub _ _).subset h
  | true =>
    obtain ⟨t1, m1, _⟩ := turn_facts hr
    obtain ⟨t2, m2, _⟩ := turn_facts hb
    have h : c ∈ ((spansL (turnR r) (turnR b)).map (·.map xc)).flatten := h
    rw [← List.map_flatten, xc_mem] at h
    have h2 := (span_sub _ _).subset h
    rw [opD_iff t1 t2, m1, m2] at h2
    exact (opD_iff hr hb c).2 h2
theorem cover_tracks {L : List (List Cell)} (h : ∀ l ∈ L, validT (brT l) = true) : coverL (L.map brT) = L.flatten := by
  unfold coverL
  rw [List.filter_eq_self.2 (fun t ht => by obtain ⟨l, hl, rfl⟩ := List.mem_map.1 ht; exact h l hl)]
  rw [List.flatMap_map]
  simp [brT, List.flatMap_id']
theorem tc_tracks (L : List (List Cell)) : tc (L.map brT) = L.flatten := by
  unfold tc
  rw [List.flatMap_map]
  simp [brT, List.flatMap_id']
theorem opR_bad {f : Bool → Bool → Bool} {a b : List Row} (h : (validR a && validR b) = false) : opR f a b = [] := by
  unfold opR
  rw [h]; rfl

theorem br_facts {r b : List Row} (hn : validR r = true → (regCells r).length ≤ 1000) : validR (opR fI r b) = true ∧ validR (opR fD r b) = true ∧ validR (brRest r b) = true ∧ validR (coverR (brL r b)) = true ∧ opR fU (coverR (brL r b)) (brRest r b) = opR fD r b ∧
    countR (brRest r b) + (brL r b).flatten.length = countR (opR fD r b) ∧ (∀ l ∈ brL r b, HeldLine (opR fI r b) l) ∧ (brL r b).length ≤ 1000 ∧ (brL r b).flatten.length ≤ 1000 := by
  cases hv : (validR r && validR b) with
  | false =>
    have e1 : brL r b = [] := by unfold brL; rw [hv]; rfl
    have e2 : brRest r b = [] := by unfold brRest; rw [hv]; rfl
    rw [e1, e2, opR_bad hv, opR_bad hv, aw_c0]
    exact ⟨rfl, rfl, rfl, rfl, region_uniq (opR_facts rfl rfl rfl).1 rfl (fun c => by rw [opU_iff rfl rfl]; simp), rfl, by simp, by simp, by simp⟩
  | true =>
    have hv0 := hv
    simp only [Bool.and_eq_true] at hv
    obtain ⟨hr, hb⟩ := hv
    have e1 : brL r b = spansU r b (moreUp r b) := by unfold brL; rw [if_pos hv0]
    have e2 : brRest r b = opR fD (opR fD r b) (coverR (brL r b)) := by unfold brRest; rw [if_pos hv0]
    have hD := (opR_facts (f := fD) rfl hr hb).1
    have hI := (opR_facts (f := fI) rfl hr hb).1
    obtain ⟨vC, mC, nC⟩ := cover_facts hr hb (moreUp r b)
    obtain ⟨f1, f2, f3, f4⟩ := spansU_facts hr hb (moreUp r b)
    have hsub := fun c => @loose_sub r b hr hb (moreUp r b) c
    have hh := fun l => @line_held r b hr hb (moreUp r b) l
    rw [← e1] at vC mC nC f1 f2 f3 f4 hsub hh
    have hn := hn hr
    have hW := (opR_facts (f := fD) rfl hD vC).1
    refine ⟨hI, hD, by rw [e2]; exact hW, vC, ?_, ?_, hh, by omega, by omega⟩
    · rw [e2]
      refine region_uniq (opR_facts (f := fU) rfl vC hW).1 hD fun c => ?_
      rw [opU_iff vC hW, opD_iff hD vC, mC]
      constructor
      · rintro (h | h)
        · exact hsub c h
        · exact h.1
      · intro h
        by_cases hc : c ∈ (brL r b).flatten
        · exact .inl hc
        · exact .inr ⟨h, hc⟩
    · have hp : (regCells (opR fD r b)).Perm (regCells (brRest r b) ++ (brL r b).flatten) := by
        refine (List.perm_ext_iff_of_nodup (nodup_of_ltY (cells_pw hD)) (List.nodup_append.2 ⟨nodup_of_ltY (cells_pw (by rw [e2]; exact hW)), f1, fun x hx y hy hxy => ?_⟩)).2 fun c => ?_
        · subst hxy
          rw [e2] at hx
          exact ((opD_iff hD vC x).1 hx).2 ((mC x).2 hy)
        · rw [List.mem_append, e2, opD_iff hD vC, mC]
          constructor
          · intro h
            by_cases hc : c ∈ (brL r b).flatten
            · exact .inr hc
            · exact .inl ⟨h, hc⟩
          · rintro (h | h)
            · exact h.1
            · exact hsub c h
      have hW2 : validR (brRest r b) = true := by rw [e2]; exact hW
      have h1 : countR (opR fD r b) = (regCells (opR fD r b)).length := by unfold countR; rw [if_pos hD]
      have h2 : countR (brRest r b) = (regCells (brRest r b)).length := by unfold countR; rw [if_pos hW2]
      rw [h1, h2, hp.length_eq, List.length_append]

set_option maxHeartbeats 16000000 in
theorem bridgeanchored_ok (r b : List Row) (hr : bigR r) (hb0 : bigR b) : PC Try.prog 6 [.agg (regRow r), .agg (regRow b)] (.p (.bool true)) := by
  have c0 := awake30_ok
  have h1 := heavy30_ok r hr
  have h2 := heavy30_ok b hb0
  cases hp : heavyB r with
  | true =>
    rw [hp] at h1
    refine pc_of_awp cx (fn := Try.f6) (c := _) Try.func6 rfl rfl (Nat.le_of_ble_eq_true rfl) ?_
    rw [Try.ntmps6]; refine Nav.imp ?_
    refine awp_region cx [] fun K hK => ?_
    simp [push_cast]
    repeat (refine And.intro (by clear hK; intros; first | omega | (simp_all; done) | (simp_all <;> omega)) ?_)
    refine hK _ ?_; clear hK K; refine Nav.imp ?_
    refine awp_region cx [(1, .p (.bool true)), (4, .skip)] fun K hK => ?_
    simp [push_cast, h1]
    repeat (refine And.intro (by clear hK; intros; first | omega | (simp_all; done) | (simp_all <;> omega)) ?_)
    refine hK _ ?_; clear hK K; refine Nav.imp ?_
    refine awp_cond (b := true) (by simp [push_cast]) (fun hb => ?_) (fun hb => ?_) <;> (refine Nav.imp ?_)
    · refine awp_region cx [(0, .p (.bool true))] fun K hK => ?_
      simp [push_cast, c0]
      repeat (refine And.intro (by clear hK; intros; first | omega | (simp_all; done) | (simp_all <;> omega)) ?_)
      refine hK _ ?_; clear hK K; refine Nav.imp ?_
      simp [push_cast]
    · simp at hb
  | false =>
    rw [hp] at h1
    cases hq : heavyB b with
    | true =>
      rw [hq] at h2
      refine pc_of_awp cx (fn := Try.f6) (c := _) Try.func6 rfl rfl (Nat.le_of_ble_eq_true rfl) ?_
      rw [Try.ntmps6]; refine Nav.imp ?_
      refine awp_region cx [] fun K hK => ?_
      simp [push_cast]
      repeat (refine And.intro (by clear hK; intros; first | omega | (simp_all; done) | (simp_all <;> omega)) ?_)
      refine hK _ ?_; clear hK K; refine Nav.imp ?_
      refine awp_region cx [(1, .p (.bool false)), (4, .p (.bool true))] fun K hK => ?_
      simp [push_cast, h1, h2]
      repeat (refine And.intro (by clear hK; intros; first | omega | (simp_all; done) | (simp_all <;> omega)) ?_)
      refine hK _ ?_; clear hK K; refine Nav.imp ?_
      refine awp_cond (b := true) (by simp [push_cast]) (fun hb => ?_) (fun hb => ?_) <;> (refine Nav.imp ?_)
      · refine awp_region cx [(0, .p (.bool true))] fun K hK => ?_
        simp [push_cast, c0]
        repeat (refine And.intro (by clear hK; intros; first | omega | (simp_all; done) | (simp_all <;> omega)) ?_)
        refine hK _ ?_; clear hK K; refine Nav.imp ?_
        simp [push_cast]
      · simp at hb
    | false =>
      rw [hq] at h2
      have fr := few_of hr hp
      have fb := few_of hb0 hq
      obtain ⟨vH, vD, vW, vC, eU, eN, hL, lL, lF⟩ := br_facts (b := b) fun hv => (heavy_facts hp).2 hv
      have hTv : ∀ l ∈ brL r b, validT (brT l) = true := fun l hl => by
        obtain ⟨x, y, dx, dy, n, hd, h0, hn, rfl, hon, _⟩ := hL l hl
        exact line_valid hd h0 hn hon
      have hTl : ∀ l ∈ brL r b, l.length ≤ 65536 := fun l hl => by
        obtain ⟨x, y, dx, dy, n, hd, h0, hn, rfl, hon, _⟩ := hL l hl
        rw [lineC_length]; omega
      have a1 := bridges_ok r b fr fb
      have a2 := intersectR_big r b hr hb0
      have a3 := bloose_ok r b hr hb0
      have a4 := count_ok (brRest r b) (small_valid vW)
      have a5 := count_ok (opR fD r b) (small_valid vD)
      have a6 := cover_ok ((brL r b).map brT) (fun t ht => by obtain ⟨l, hl, rfl⟩ := List.mem_map.1 ht; exact hTl l hl) (by rw [List.length_map]; exact lL) (by rw [tc_tracks]; omega)
      rw [cover_tracks hTv] at a6
      have a7 := unionR_ok (coverR (brL r b)) (brRest r b) (small_valid vC) (small_valid vW)
      rw [eU] at a7
      have a8 := sameR_ok (opR fD r b) (opR fD r b) (small_valid vD) (small_valid vD)
      rw [show sameB (opR fD r b) (opR fD r b) = true from by simp [sameB, vD]] at a8
      rw [← eN] at a5
      have hcon := fun c => contains_ok (opR fI r b) c (small_valid vH)
      have hcm := fun c => conB_mem vH c
      have htake : ∀ k l, (brL r b)[k]? = some l → ((brL r b).take (k + 1)).flatten.length = ((brL r b).take k).flatten.length + l.length := fun k l h => by rw [take_get h]; simp
      have hall : ((brL r b).take (brL r b).length).flatten = (brL r b).flatten := by rw [List.take_length]
      have hle : ∀ k, ((brL r b).take k).flatten.length ≤ 1000 := fun k => by
        refine Nat.le_trans ?_ lF
        have : (brL r b).flatten = ((brL r b).take k).flatten ++ ((brL r b).drop k).flatten := by rw [← List.flatten_append, List.take_append_drop]
        rw [this, List.length_append]; omega
      have hcW : countR (brRest r b) ≤ 2097152000000000000 := by
        unfold countR
        rw [if_pos vW]
        have := rows_big vW (small_valid vW) (Nat.le_refl _)
        rw [rowsTo_all] at this
        exact this
      rw [show coverR (brL r b) = ofR (brL r b).flatten from rfl] at a7
      clear eN eU vH vD vW vC
      generalize ofR (brL r b).flatten = C at *
      generalize countR (brRest r b) = cw at *
      generalize brRest r b = W at *
      generalize opR fD r b = D at *
      generalize opR fI r b = H at *
      generalize brL r b = L at *
      refine pc_of_awp cx (fn := Try.f6) (c := _) Try.func6 rfl rfl (Nat.le_of_ble_eq_true rfl) ?_
      rw [Try.ntmps6]; refine Nav.imp ?_
      refine awp_region cx [] fun K hK => ?_
      simp [push_cast]
      repeat (refine And.intro (by clear hK; intros; first | omega | (simp_all; done) | (simp_all <;> omega)) ?_)
      refine hK _ ?_; clear hK K; refine Nav.imp ?_
      refine awp_region cx [(1, .p (.bool false)), (4, .p (.bool false))] fun K hK => ?_
      simp [push_cast, h1, h2]
      repeat (refine And.intro (by clear hK; intros; first | omega | (simp_all; done) | (simp_all <;> omega)) ?_)
      refine hK _ ?_; clear hK K; refine Nav.imp ?_
      refine awp_cond (b := false) (by simp [push_cast]) (fun hb => ?_) (fun hb => ?_) <;> (refine Nav.imp ?_)
      · simp at hb
      · refine awp_region cx [(2, .p (.tup [encTracks (L.map brT), .agg (regRow W)]))] fun K hK => ?_
        simp [push_cast, a1]
        repeat (refine And.intro (by clear hK; intros; first | omega | (simp_all; done) | (simp_all <;> omega)) ?_)
        refine hK _ ?_; clear hK K; refine Nav.imp ?_
        refine awp_region cx [(2, .p (.agg (regRow H)))] fun K hK => ?_
        simp [push_cast, a2]
        repeat (refine And.intro (by clear hK; intros; first | omega | (simp_all; done) | (simp_all <;> omega)) ?_)
        refine hK _ ?_; clear hK K; refine Nav.imp ?_
        refine awp_region cx [(1, .p (.int .i64 cw))] fun K hK => ?_
        simp [push_cast, a4]
        repeat (refine And.intro (by clear hK; intros; first | omega | (simp_all; done) | (simp_all <;> omega)) ?_)
        refine hK _ ?_; clear hK K; refine Nav.imp ?_
        refine awp_region cx [] fun K hK => ?_
        simp [push_cast]
        repeat (refine And.intro (by clear hK; intros; first | omega | (simp_all; done) | (simp_all <;> omega)) ?_)
        refine hK _ ?_; clear hK K; refine Nav.imp ?_
        refine awp_loop (β := Nat × Nat) (fun s => ⟨150, [(2, .ptr 0 0 0), (3, .ptr 1 0 0), (5, .d (encTracks (L.map brT))), (6, .ptr 2 0 0), (7, .ptr 3 0 0), (8, .d (.int .i64 s.2)), (34, .d (encTracks (L.map brT))), (35, .d (.int .i64 L.length)), (36, .d (.int .i64 s.1))], [(0, some ⟨24, 1, [(regRow r).map .d]⟩), (1, some ⟨24, 1, [(regRow b).map .d]⟩), (2, some ⟨24, 1, [(regRow W).map .d]⟩), (3, some ⟨24, 1, [(regRow H).map .d]⟩)], 4⟩) (fun s => s.1 ≤ L.length ∧ s.2 = cw + (L.take s.1).flatten.length) (fun s => L.length - s.1) (0, cw) ?_ ⟨Nat.zero_le _, by simp⟩ ?_
        · refine weak_of [(0, some 0), (1, some 1), (2, some 15), (3, some 21)] rfl (by simp [upT, up, upL, push_cast]) (by simp [upH, upR, upL, up, push_cast]) (by simp [namesOk, push_cast]) (by simp [olds])
        · rintro ⟨k, N⟩ ⟨hk, hN⟩
          simp only at hk hN
          refine Nav.imp ?_
          refine awp_region cx [] fun K hK => ?_
          simp [push_cast]
          repeat (refine And.intro (by clear hK; intros; first | omega | (simp_all; done) | (simp_all <;> omega)) ?_)
          refine hK _ ?_; clear hK K; refine Nav.imp ?_
          refine awp_cond (b := decide ((k : Int) < L.length)) (by simp [push_cast]) (fun hb => ?_) (fun hb => ?_) <;> (refine Nav.imp ?_)
          · have hlt : k < L.length := by simpa using hb
            obtain ⟨l, hl⟩ := getq hlt
            have hl2 : (L.map brT)[k]? = some (brT l) := by simp [hl]
            have e0 := wrap_i64 (n := (k : Int) + 1) (by omega) (by omega)
            have hnx := htake k l hl
            have hle1 := hle (k + 1)
            obtain ⟨x, y, dx, dy, n, hd, h0, hn, he, hon, q1, q2⟩ := hL l (List.mem_of_getElem? hl)
            have lv : validT (brT l) = true := by rw [he]; rw [he] at hon; exact line_valid hd h0 hn hon
            have b1 := tvalid_ok (brT l) (hTl l (List.mem_of_getElem? hl))
            rw [lv] at b1
            have b2 := corners_ok x y dx dy n hd (by omega) (by rw [← he]; exact hon) (by rw [← he]; exact lv)
            have hZ := cornS_len (lineC x y dx dy n) n
            rw [← he] at b2 hZ
            have hZ2 : (2 : Int) < ((cornS l n).length : Int) ↔ False := ⟨fun h => by omega, False.elim⟩
            generalize cornS l n = Z at *
            have hll : l.length = n := by rw [he, lineC_length]
            have g0 : l[0]? = some ⟨x + (0 : Nat) * dx, y + (0 : Nat) * dy⟩ := by rw [he]; exact lineC_get _ _ _ _ h0
            have g1 : l[l.length - 1]? = some ⟨x + ((n - 1 : Nat) : Int) * dx, y + ((n - 1 : Nat) : Int) * dy⟩ := by rw [hll, he]; exact lineC_get _ _ _ _ (by omega)
            have o0 := onG_bd (hon _ (List.mem_of_getElem? g0))
            have o1 := onG_bd (hon _ (List.mem_of_getElem? g1))
            have e2 := wrap_i64 (n := (N : Int) + (l.length : Int)) (by omega) (by omega)
            have e3 := wrap_i64 (n := (l.length : Int) - 1) (by omega) (by omega)
            have e4 : ((l.length : Int) - 1).toNat = l.length - 1 := by omega
            have e5 : (0 : Int) ≤ (l.length : Int) - 1 := by omega
            have e6 : (l.length : Int) - 1 < (l.length : Int) := by omega
            have e7 : 0 < l.length := by omega
            clear he hon hZ lv
            have key : (conB H ⟨x - 1, y⟩ = true ∧ conB H ⟨x + ((n - 1 : Nat) : Int) * dx + 1, y + ((n - 1 : Nat) : Int) * dy⟩ = true ∧ y + ((n - 1 : Nat) : Int) * dy = y) ∨
                (conB H ⟨x, y - 1⟩ = true ∧ conB H ⟨x + ((n - 1 : Nat) : Int) * dx, y + ((n - 1 : Nat) : Int) * dy + 1⟩ = true ∧ x + ((n - 1 : Nat) : Int) * dx = x) := by
              have d1 := hcm ⟨x - dx, y - dy⟩
              have d2 := hcm ⟨x + n * dx, y + n * dy⟩
              rw [decide_eq_true q1] at d1
              rw [decide_eq_true q2] at d2
              rcases hd with ⟨rfl, rfl⟩ | ⟨rfl, rfl⟩
              · left
                refine ⟨?_, ?_, by omega⟩
                · rwa [show y - 0 = y by omega] at d1
                · rwa [show x + (n : Int) * 1 = x + ((n - 1 : Nat) : Int) * 1 + 1 by omega, show y + (n : Int) * 0 = y + ((n - 1 : Nat) : Int) * 0 by omega] at d2
              · right
                refine ⟨?_, ?_, by omega⟩
                · rwa [show x - 0 = x by omega] at d1
                · rwa [show y + (n : Int) * 1 = y + ((n - 1 : Nat) : Int) * 1 + 1 by omega, show x + (n : Int) * 0 = x + ((n - 1 : Nat) : Int) * 0 by omega] at d2
            have e8 : x + ((0 : Nat) : Int) * dx = x := by simp
            have e9 : y + ((0 : Nat) : Int) * dy = y := by simp
            rw [e8, e9] at g0 o0
            generalize x + ((n - 1 : Nat) : Int) * dx = x2 at *
            generalize y + ((n - 1 : Nat) : Int) * dy = y2 at *
            simp only at o0 o1
            have w1 := wrap_i64 (n := x - 1) (by omega) (by omega)
            have w2 := wrap_i64 (n := y - 1) (by omega) (by omega)
            have w3 := wrap_i64 (n := x2 + 1) (by omega) (by omega)
            have w4 := wrap_i64 (n := y2 + 1) (by omega) (by omega)
            have z1 := hcon ⟨x - 1, y⟩
            have z2 := hcon ⟨x2 + 1, y2⟩
            have z3 := hcon ⟨x, y - 1⟩
            have z4 := hcon ⟨x2, y2 + 1⟩
            generalize conB H ⟨x - 1, y⟩ = v1 at *
            generalize conB H ⟨x2 + 1, y2⟩ = v2 at *
            generalize conB H ⟨x, y - 1⟩ = v3 at *
            generalize conB H ⟨x2, y2 + 1⟩ = v4 at *
            clear q1 q2 hd e8 e9 hL hcon hcm
            simp only [brT, Track.row] at b1 b2
            refine awp_region cx [] fun K hK => ?_
            simp [push_cast, hl, brT, Track.row]
            repeat (refine And.intro (by clear hK; intros; first | omega | (simp_all; done) | (simp_all <;> omega)) ?_)
            refine hK _ ?_; clear hK K; refine Nav.imp ?_
            refine awp_region cx [(1, .p (.bool true)), (14, .p (encCells Z))] fun K hK => ?_
            simp [push_cast, b1, b2, hZ2]
            repeat (refine And.intro (by clear hK; intros; first | omega | (simp_all; done) | (simp_all <;> omega)) ?_)
            refine hK _ ?_; clear hK K; refine Nav.imp ?_
            refine awp_cond (b := false) (by simp [push_cast]) (fun hb => ?_) (fun hb => ?_) <;> (refine Nav.imp ?_)
            · simp at hb
            · refine awp_region_draw cx mixed [] fun K hK => ?_
              simp [push_cast, g0, g1, e3, e4, e5, e6, Cell.row]
              repeat (refine And.intro (by clear hK; intros; first | omega | (simp_all; done) | (simp_all <;> omega)) ?_)
              refine hK _ _ (by kernel_rfl) ?_; clear hK K; refine Nav.imp ?_
              rcases key with ⟨rfl, rfl, rfl⟩ | ⟨rfl, rfl, rfl⟩
              · refine awp_region cx [(7, .p (.bool true)), (16, .p (.bool true))] fun K hK => ?_
                simp [push_cast, z1, z2, w1, w3, Cell.row]
                repeat (refine And.intro (by clear hK; intros; first | omega | (simp_all; done) | (simp_all <;> omega)) ?_)
                refine hK _ ?_; clear hK K; refine Nav.imp ?_
                cases v3 with
                | false =>
                  refine awp_region cx [(7, .p (.bool false)), (16, .skip)] fun K hK => ?_
                  simp [push_cast, z3, w2, Cell.row]
                  repeat (refine And.intro (by clear hK; intros; first | omega | (simp_all; done) | (simp_all <;> omega)) ?_)
                  refine hK _ ?_; clear hK K; refine Nav.imp ?_
                  refine awp_region cx [] fun K hK => ?_
                  simp [push_cast]
                  repeat (refine And.intro (by clear hK; intros; first | omega | (simp_all; done) | (simp_all <;> omega)) ?_)
                  refine hK _ ?_; clear hK K; refine Nav.imp ?_
                  refine awp_cond (b := false) (by simp [push_cast]) (fun hb => ?_) (fun hb => ?_) <;> (refine Nav.imp ?_)
                  · simp at hb
                  · refine awp_region cx [] fun K hK => ?_
                    simp [push_cast, e2]
                    repeat (refine And.intro (by clear hK; intros; first | omega | (simp_all; done) | (simp_all <;> omega)) ?_)
                    refine hK _ ?_; clear hK K; refine Nav.imp ?_
                    refine awp_region cx [] fun K hK => ?_
                    simp [push_cast, e0]
                    repeat (refine And.intro (by clear hK; intros; first | omega | (simp_all; done) | (simp_all <;> omega)) ?_)
                    refine hK _ ?_; clear hK K; refine Nav.imp ?_
                    refine ⟨(k + 1, N + l.length), ⟨hlt, by simp only; omega⟩, by simp only; omega, ?_⟩
                    refine weak_of [(0, some 0), (1, some 1), (2, some 2), (3, some 3)] rfl (by simp [upT, up, upL, push_cast, Track.row]) (by simp [upH, upR, upL, up, push_cast, Track.row]) (by simp [namesOk, push_cast]) (by simp [olds])
                | true =>
                  refine awp_region cx [(7, .p (.bool true)), (16, .p (.bool v4))] fun K hK => ?_
                  simp [push_cast, z3, z4, w2, w4, Cell.row]
                  repeat (refine And.intro (by clear hK; intros; first | omega | (simp_all; done) | (simp_all <;> omega)) ?_)
                  refine hK _ ?_; clear hK K; refine Nav.imp ?_
                  refine awp_region cx [] fun K hK => ?_
                  simp [push_cast]
                  repeat (refine And.intro (by clear hK; intros; first | omega | (simp_all; done) | (simp_all <;> omega)) ?_)
                  refine hK _ ?_; clear hK K; refine Nav.imp ?_
                  refine awp_cond (b := false) (by simp [push_cast]) (fun hb => ?_) (fun hb => ?_) <;> (refine Nav.imp ?_)
                  · simp at hb
                  · refine awp_region cx [] fun K hK => ?_
                    simp [push_cast, e2]
                    repeat (refine And.intro (by clear hK; intros; first | omega | (simp_all; done) | (simp_all <;> omega)) ?_)
                    refine hK _ ?_; clear hK K; refine Nav.imp ?_
                    refine awp_region cx [] fun K hK => ?_
                    simp [push_cast, e0]
                    repeat (refine And.intro (by clear hK; intros; first | omega | (simp_all; done) | (simp_all <;> omega)) ?_)
                    refine hK _ ?_; clear hK K; refine Nav.imp ?_
                    refine ⟨(k + 1, N + l.length), ⟨hlt, by simp only; omega⟩, by simp only; omega, ?_⟩
                    refine weak_of [(0, some 0), (1, some 1), (2, some 2), (3, some 3)] rfl (by simp [upT, up, upL, push_cast, Track.row]) (by simp [upH, upR, upL, up, push_cast, Track.row]) (by simp [namesOk, push_cast]) (by simp [olds])
              · cases v1 with
                | false =>
                  refine awp_region cx [(7, .p (.bool false)), (16, .skip)] fun K hK => ?_
                  simp [push_cast, z1, w1, Cell.row]
                  repeat (refine And.intro (by clear hK; intros; first | omega | (simp_all; done) | (simp_all <;> omega)) ?_)
                  refine hK _ ?_; clear hK K; refine Nav.imp ?_
                  refine awp_region cx [(7, .p (.bool true)), (16, .p (.bool true))] fun K hK => ?_
                  simp [push_cast, z3, z4, w2, w4, Cell.row]
                  repeat (refine And.intro (by clear hK; intros; first | omega | (simp_all; done) | (simp_all <;> omega)) ?_)
                  refine hK _ ?_; clear hK K; refine Nav.imp ?_
                  refine awp_region cx [] fun K hK => ?_
                  simp [push_cast]
                  repeat (refine And.intro (by clear hK; intros; first | omega | (simp_all; done) | (simp_all <;> omega)) ?_)
                  refine hK _ ?_; clear hK K; refine Nav.imp ?_
                  refine awp_cond (b := false) (by simp [push_cast]) (fun hb => ?_) (fun hb => ?_) <;> (refine Nav.imp ?_)
                  · simp at hb
                  · refine awp_region cx [] fun K hK => ?_
                    simp [push_cast, e2]
                    repeat (refine And.intro (by clear hK; intros; first | omega | (simp_all; done) | (simp_all <;> omega)) ?_)
                    refine hK _ ?_; clear hK K; refine Nav.imp ?_
                    refine awp_region cx [] fun K hK => ?_
                    simp [push_cast, e0]
                    repeat (refine And.intro (by clear hK; intros; first | omega | (simp_all; done) | (simp_all <;> omega)) ?_)
                    refine hK _ ?_; clear hK K; refine Nav.imp ?_
                    refine ⟨(k + 1, N + l.length), ⟨hlt, by simp only; omega⟩, by simp only; omega, ?_⟩
                    refine weak_of [(0, some 0), (1, some 1), (2, some 2), (3, some 3)] rfl (by simp [upT, up, upL, push_cast, Track.row]) (by simp [upH, upR, upL, up, push_cast, Track.row]) (by simp [namesOk, push_cast]) (by simp [olds])
                | true =>
                  refine awp_region cx [(7, .p (.bool true)), (16, .p (.bool v2))] fun K hK => ?_
                  simp [push_cast, z1, z2, w1, w3, Cell.row]
                  repeat (refine And.intro (by clear hK; intros; first | omega | (simp_all; done) | (simp_all <;> omega)) ?_)
                  refine hK _ ?_; clear hK K; refine Nav.imp ?_
                  refine awp_region cx [(7, .p (.bool true)), (16, .p (.bool true))] fun K hK => ?_
                  simp [push_cast, z3, z4, w2, w4, Cell.row]
                  repeat (refine And.intro (by clear hK; intros; first | omega | (simp_all; done) | (simp_all <;> omega)) ?_)
                  refine hK _ ?_; clear hK K; refine Nav.imp ?_
                  refine awp_region cx [] fun K hK => ?_
                  simp [push_cast]
                  repeat (refine And.intro (by clear hK; intros; first | omega | (simp_all; done) | (simp_all <;> omega)) ?_)
                  refine hK _ ?_; clear hK K; refine Nav.imp ?_
                  refine awp_cond (b := false) (by simp [push_cast]) (fun hb => ?_) (fun hb => ?_) <;> (refine Nav.imp ?_)
                  · simp at hb
                  · refine awp_region cx [] fun K hK => ?_
                    simp [push_cast, e2]
                    repeat (refine And.intro (by clear hK; intros; first | omega | (simp_all; done) | (simp_all <;> omega)) ?_)
                    refine hK _ ?_; clear hK K; refine Nav.imp ?_
                    refine awp_region cx [] fun K hK => ?_
                    simp [push_cast, e0]
                    repeat (refine And.intro (by clear hK; intros; first | omega | (simp_all; done) | (simp_all <;> omega)) ?_)
                    refine hK _ ?_; clear hK K; refine Nav.imp ?_
                    refine ⟨(k + 1, N + l.length), ⟨hlt, by simp only; omega⟩, by simp only; omega, ?_⟩
                    refine weak_of [(0, some 0), (1, some 1), (2, some 2), (3, some 3)] rfl (by simp [upT, up, upL, push_cast, Track.row]) (by simp [upH, upR, upL, up, push_cast, Track.row]) (by simp [namesOk, push_cast]) (by simp [olds])
          · have hke : k = L.length := by simp at hb; omega
            subst hke
            rw [hall] at hN
            subst hN
            refine awp_region cx [(2, .p (.agg (regRow D)))] fun K hK => ?_
            simp [push_cast, a3]
            repeat (refine And.intro (by clear hK; intros; first | omega | (simp_all; done) | (simp_all <;> omega)) ?_)
            refine hK _ ?_; clear hK K; refine Nav.imp ?_
            refine awp_region_draw cx mixed [(1, .p (.agg (regRow C))), (3, .p (.agg (regRow D))), (5, .p (.bool true)), (9, .p (.int .i64 ((cw + L.flatten.length : Nat) : Int))), (13, .p (.bool true))] fun K hK => ?_
            simp [push_cast, a5, a6, a7, a8, c0]
            repeat (refine And.intro (by clear hK; intros; first | omega | (simp_all; done) | (simp_all <;> omega)) ?_)
            refine hK _ _ (by kernel_rfl) ?_; clear hK K; refine Nav.imp ?_
            simp [push_cast]

set_option maxRecDepth 100000 in
theorem bridgeAnchored_lifted (os : Os) (started : os.Started) (H : Type) (enc : TypeId × Value → H) :
    ReturnsInHanded {} Try.checked os 6 .any (Rows.bridgeAnchoredSpec.pre6 enc Try.prog Try.f6 Rows.bridgeAnchoredRow.domain false) (Rows.bridgeAnchoredSpec.post enc Try.prog Try.f6 false true false false) := by
  refine returnsInHanded_of_change (C := Try.checked) own started (by kernel_rfl) Try.func6
    (ChangeSpec.witness6 (enc := enc) (C := Try.checked) false ⟨#[], #[zeroReg, zeroReg], []⟩ 8 (by kernel_rfl) (by kernel_rfl) (by kernel_rfl) (by kernel_rfl)) ?_
  intro W base args ds gs before hval hW _ _
  exact law_contract rfl (fun ds h => by match ds, h with | [a0, a1], _ => rfl) laidOut (by simp only [Try.params6]; intro t ht; simp at ht; rcases ht with rfl <;> exact ⟨by kernel_rfl, of_decide_eq_true (by kernel_rfl)⟩) (by kernel_rfl) rfl Try.underlying4
    (fun xs hx => by
      simp only [Try.params6, hasVs] at hx
      obtain ⟨x0, r0, rfl, h0, x1, r1, rfl, h1, rfl⟩ := hx
      obtain ⟨⟨R, hR⟩, rfl⟩ := arg_regionB h0
      obtain ⟨⟨S, hS⟩, rfl⟩ := arg_regionB h1
      exact bridgeanchored_ok R S hR hS) W base args ds gs before hval hW

theorem bridgeAnchored_holds : Rows.BridgeAnchoredSaid :=
  OpenClaim.holds_of_wide 6 Try.f6 rfl rfl rfl rfl rfl rfl rfl ⟨rfl, rfl, rfl, rfl, rfl⟩ rfl rfl rfl rfl rfl (by kernel_rfl) Try.func6 (by kernel_rfl)
    (of_decide_eq_true (by kernel_rfl)) (by unfold Func.isWrapper; first | (rw [if_pos (by decide +kernel)]; kernel_rfl) | (rw [if_neg (by decide +kernel)]; exact ⟨rfl, rfl⟩))
    (fun os started H enc _ => bridgeAnchored_lifted os started H enc)

end Go.Proofs.Ytknelhiejjdioaa
