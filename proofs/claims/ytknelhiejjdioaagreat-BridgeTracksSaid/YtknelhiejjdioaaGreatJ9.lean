/-
  Texts of this seat put together: B5, B6, M1, M2, N0, M3, N1, N2.
-/
import Derived.Test.YtknelhiejjdioaaGreatJ8
import Derived.Test.YtknelhiejjdioaaGreatJ4
import Derived.Test.YtknelhiejjdioaaGreatJ5
import Derived.Test.YtknelhiejjdioaaGreatJ6
set_option linter.unusedVariables false
set_option linter.unusedSimpArgs false
set_option maxRecDepth 100000
namespace Go.Proofs.YtknelhiejjdioaaGreat
open Go.Abs

def anchR (r b : List Row) (up : Bool) : List Row := if validR r && validR b then coverR (spansU r b up) else []
def moreUp (r b : List Row) : Bool := decide (countR (coverR (spansU r b false)) < countR (coverR (spansU r b true)))
def brL (r b : List Row) : List (List Cell) := if validR r && validR b then spansU r b (moreUp r b) else []
def brRest (r b : List Row) : List Row := if validR r && validR b then opR fD (opR fD r b) (coverR (brL r b)) else []
def brT (l : List Cell) : Track := ⟨5, false, l⟩

/-- A region that is valid has at most 1000000 cells. -/
def fewC (R : List Row) : Prop := bigR R ∧ (validR R = true → (regCells R).length ≤ 1000000)

theorem spansU_facts {r b : List Row} (hr : validR r = true) (hb : validR b = true) (up : Bool) : (spansU r b up).flatten.Nodup ∧ (∀ c ∈ (spansU r b up).flatten, onG c = true) ∧ (spansU r b up).flatten.length ≤ (regCells r).length ∧ (spansU r b up).length ≤ (regCells r).length := by
  have plain : ∀ r b : List Row, validR r = true → validR b = true → (spansL r b).flatten.Nodup ∧ (∀ c ∈ (spansL r b).flatten, onG c = true) ∧ (spansL r b).flatten.length ≤ (regCells r).length ∧ (spansL r b).length ≤ (regCells r).length := by
    intro r b hr hb
    have h1 := (opR_facts (f := fD) rfl hr hb).1
    have h3 := cells_le h1 hr fun c hc => ((opD_iff hr hb c).1 hc).1
    have hs := span_sub (opR fD r b) (opR fI r b)
    exact ⟨hs.nodup (nodup_of_ltY (cells_pw h1)), fun c hc => cells_on h1 (hs.subset hc), Nat.le_trans hs.length_le h3, Nat.le_trans (span_num h1) h3⟩
  cases up with
  | false => exact plain r b hr hb
  | true =>
    obtain ⟨t1, _, t3⟩ := turn_facts hr
    obtain ⟨t4, _, _⟩ := turn_facts hb
    obtain ⟨p1, p2, p3, p4⟩ := plain _ _ t1 t4
    have e : (spansU r b true).flatten = (spansL (turnR r) (turnR b)).flatten.map xc := by
      show ((spansL (turnR r) (turnR b)).map (·.map xc)).flatten = _
      rw [List.map_flatten]
    rw [e]
    refine ⟨xc_nodup p1, xc_all p2, by rw [List.length_map]; omega, ?_⟩
    show ((spansL (turnR r) (turnR b)).map (·.map xc)).length ≤ _
    rw [List.length_map]; omega
theorem cover_facts {r b : List Row} (hr : validR r = true) (hb : validR b = true) (up : Bool) : validR (coverR (spansU r b up)) = true ∧ (∀ c, c ∈ regCells (coverR (spansU r b up)) ↔ c ∈ (spansU r b up).flatten) ∧ countR (coverR (spansU r b up)) = (spansU r b up).flatten.length := by
  obtain ⟨h1, h2, _⟩ := spansU_facts hr hb up
  obtain ⟨h3, h4, h5⟩ := of_set h1 h2
  refine ⟨h3, h4, ?_⟩
  unfold countR coverR
  rw [h3, if_pos rfl, h5]

theorem spans_ok (r b : List Row) (up : Bool) (hr : validR r = true) (hb0 : validR b = true) (hn : (regCells r).length ≤ 1000000) (hnb : (regCells b).length ≤ 1000000) : PC Tryz.prog 30 [.agg (regRow r), .agg (regRow b), .bool up] (.p (encSpans (spansU r b up))) := by
  cases up with
  | false => exact spans_row r b hr hb0 hn
  | true => exact spans_col r b hr hb0 hn hnb

theorem bvalid_ok (r b : List Row) (hr : bigR r) (hb0 : bigR b) : PC Tryz.prog 29 [.agg (regRow r), .agg (regRow b)] (.p (.bool (validR r && validR b))) := by
  have c1 := valid_big r hr
  have c2 := valid_big b hb0
  generalize validR r = p at *
  generalize validR b = q at *
  refine pc_of_awp cx (fn := Tryz.f29) (c := _) Tryz.func29 rfl rfl (Nat.le_of_ble_eq_true rfl) ?_
  rw [Tryz.ntmps29]; refine Nav.imp ?_
  refine awp_region cx [] fun K hK => ?_
  simp [push_cast]
  repeat (refine And.intro (by clear hK; intros; first | omega | (simp_all; done) | (simp_all <;> omega)) ?_)
  refine hK _ ?_; clear hK K; refine Nav.imp ?_
  cases p with
  | true =>
    refine awp_region cx [(1, .p (.bool true)), (4, .p (.bool q))] fun K hK => ?_
    simp [push_cast, c1, c2]
    repeat (refine And.intro (by clear hK; intros; first | omega | (simp_all; done) | (simp_all <;> omega)) ?_)
    refine hK _ ?_; clear hK K; refine Nav.imp ?_
    simp [push_cast]
  | false =>
    refine awp_region cx [(1, .p (.bool false)), (4, .skip)] fun K hK => ?_
    simp [push_cast, c1]
    repeat (refine And.intro (by clear hK; intros; first | omega | (simp_all; done) | (simp_all <;> omega)) ?_)
    refine hK _ ?_; clear hK K; refine Nav.imp ?_
    simp [push_cast]

theorem anchored_ok (r b : List Row) (up : Bool) (hr : fewC r) (hb0 : fewC b) : PC Tryz.prog 17 [.agg (regRow r), .agg (regRow b), .bool up] (.p (.agg (regRow (anchR r b up)))) := by
  have c1 := bvalid_ok r b hr.1 hb0.1
  have hA : anchR r b up = if validR r && validR b then coverR (spansU r b up) else [] := rfl
  cases hv : (validR r && validR b) with
  | false =>
    rw [hv] at c1 hA
    rw [hA, if_neg (by simp)]
    refine pc_of_awp cx (fn := Tryz.f17) (c := _) Tryz.func17 rfl rfl (Nat.le_of_ble_eq_true rfl) ?_
    rw [Tryz.ntmps17]; refine Nav.imp ?_
    refine awp_region cx [] fun K hK => ?_
    simp [push_cast]
    repeat (refine And.intro (by clear hK; intros; first | omega | (simp_all; done) | (simp_all <;> omega)) ?_)
    refine hK _ ?_; clear hK K; refine Nav.imp ?_
    refine awp_region cx [(2, .p (.bool false))] fun K hK => ?_
    simp [push_cast, c1]
    repeat (refine And.intro (by clear hK; intros; first | omega | (simp_all; done) | (simp_all <;> omega)) ?_)
    refine hK _ ?_; clear hK K; refine Nav.imp ?_
    refine awp_cond (b := true) (by simp [push_cast]) (fun hb => ?_) (fun hb => ?_) <;> (refine Nav.imp ?_)
    · refine awp_region cx [] fun K hK => ?_
      simp [push_cast]
      repeat (refine And.intro (by clear hK; intros; first | omega | (simp_all; done) | (simp_all <;> omega)) ?_)
      refine hK _ ?_; clear hK K; refine Nav.imp ?_
      simp [push_cast]
    · simp at hb
  | true =>
    rw [hv] at c1 hA
    rw [hA, if_pos rfl]
    simp only [Bool.and_eq_true] at hv
    obtain ⟨hv1, hv2⟩ := hv
    have h1 := hr.2 hv1
    have c2 := spans_ok r b up hv1 hv2 h1 (hb0.2 hv2)
    obtain ⟨_, _, f3, f4⟩ := spansU_facts hv1 hv2 up
    have c3 := covered_ok (spansU r b up) (by omega) (by omega)
    generalize coverR (spansU r b up) = W at *
    generalize spansU r b up = L at *
    refine pc_of_awp cx (fn := Tryz.f17) (c := _) Tryz.func17 rfl rfl (Nat.le_of_ble_eq_true rfl) ?_
    rw [Tryz.ntmps17]; refine Nav.imp ?_
    refine awp_region cx [] fun K hK => ?_
    simp [push_cast]
    repeat (refine And.intro (by clear hK; intros; first | omega | (simp_all; done) | (simp_all <;> omega)) ?_)
    refine hK _ ?_; clear hK K; refine Nav.imp ?_
    refine awp_region cx [(2, .p (.bool true))] fun K hK => ?_
    simp [push_cast, c1]
    repeat (refine And.intro (by clear hK; intros; first | omega | (simp_all; done) | (simp_all <;> omega)) ?_)
    refine hK _ ?_; clear hK K; refine Nav.imp ?_
    refine awp_cond (b := false) (by simp [push_cast]) (fun hb => ?_) (fun hb => ?_) <;> (refine Nav.imp ?_)
    · simp at hb
    · refine awp_region cx [(3, .p (encSpans L)), (4, .p (.agg (regRow W)))] fun K hK => ?_
      simp [push_cast, c2, c3]
      repeat (refine And.intro (by clear hK; intros; first | omega | (simp_all; done) | (simp_all <;> omega)) ?_)
      refine hK _ ?_; clear hK K; refine Nav.imp ?_
      simp [push_cast]
end Go.Proofs.YtknelhiejjdioaaGreat

set_option linter.unusedVariables false
set_option linter.unusedSimpArgs false
set_option maxRecDepth 100000
namespace Go.Proofs.YtknelhiejjdioaaGreat
open Go.Abs

set_option maxHeartbeats 8000000 in
theorem bridges_ok (r b : List Row) (hr : fewC r) (hb0 : fewC b) : PC Tryz.prog 13 [.agg (regRow r), .agg (regRow b)] (.p (.tup [encTracks ((brL r b).map brT), .agg (regRow (brRest r b))])) := by
  have c1 := bvalid_ok r b hr.1 hb0.1
  have hL : brL r b = if validR r && validR b then spansU r b (moreUp r b) else [] := rfl
  have hR : brRest r b = if validR r && validR b then opR fD (opR fD r b) (coverR (brL r b)) else [] := rfl
  cases hv : (validR r && validR b) with
  | false =>
    rw [hv] at c1 hL hR
    rw [if_neg (by simp)] at hL hR
    rw [hL, hR]
    refine pc_of_awp cx (fn := Tryz.f13) (c := _) Tryz.func13 rfl rfl (Nat.le_of_ble_eq_true rfl) ?_
    rw [Tryz.ntmps13]; refine Nav.imp ?_
    refine awp_region cx [] fun K hK => ?_
    simp [push_cast]
    repeat (refine And.intro (by clear hK; intros; first | omega | (simp_all; done) | (simp_all <;> omega)) ?_)
    refine hK _ ?_; clear hK K; refine Nav.imp ?_
    refine awp_region cx [(2, .p (.bool false))] fun K hK => ?_
    simp [push_cast, c1]
    repeat (refine And.intro (by clear hK; intros; first | omega | (simp_all; done) | (simp_all <;> omega)) ?_)
    refine hK _ ?_; clear hK K; refine Nav.imp ?_
    refine awp_cond (b := true) (by simp [push_cast]) (fun hb => ?_) (fun hb => ?_) <;> (refine Nav.imp ?_)
    · refine awp_region cx [] fun K hK => ?_
      simp [push_cast]
      repeat (refine And.intro (by clear hK; intros; first | omega | (simp_all; done) | (simp_all <;> omega)) ?_)
      refine hK _ ?_; clear hK K; refine Nav.imp ?_
      simp [push_cast]
    · simp at hb
  | true =>
    rw [hv] at c1 hL hR
    rw [if_pos rfl] at hL hR
    simp only [Bool.and_eq_true] at hv
    obtain ⟨hv1, hv2⟩ := hv
    have h1 := hr.2 hv1
    have h2 := hb0.2 hv2
    have s1 := spans_ok r b false hv1 hv2 h1 h2
    have s2 := spans_ok r b true hv1 hv2 h1 h2
    obtain ⟨_, _, f3, f4⟩ := spansU_facts hv1 hv2 false
    obtain ⟨_, _, g3, g4⟩ := spansU_facts hv1 hv2 true
    have k1 := covered_ok (spansU r b false) (by omega) (by omega)
    have k2 := covered_ok (spansU r b true) (by omega) (by omega)
    obtain ⟨v1, _, n1⟩ := cover_facts hv1 hv2 false
    obtain ⟨v2, _, n2⟩ := cover_facts hv1 hv2 true
    have m1 := count_ok _ (small_valid v1)
    have m2 := count_ok _ (small_valid v2)
    have hD := (opR_facts (f := fD) rfl hv1 hv2).1
    have q1 := bloose_ok r b (big_of (small_valid hv1)) (big_of (small_valid hv2))
    have hmu : moreUp r b = decide (countR (coverR (spansU r b false)) < countR (coverR (spansU r b true))) := rfl
    have hLl : (brL r b).length ≤ 1000000 := by rw [hL]; cases moreUp r b <;> omega
    have hLm : ∀ l ∈ brL r b, l.length ≤ 1000000 := fun l hl => by
      refine Nat.le_trans (List.sublist_flatten_of_mem hl).length_le ?_
      rw [hL]; cases moreUp r b <;> omega
    have vC : validR (coverR (brL r b)) = true := by rw [hL]; cases moreUp r b <;> assumption
    have q2 := subtractR_ok (opR fD r b) (coverR (brL r b)) (small_valid hD) (small_valid vC)
    rw [← hR] at q2
    have hC : coverR (brL r b) = if moreUp r b then coverR (spansU r b true) else coverR (spansU r b false) := by rw [hL]; cases moreUp r b <;> rfl
    have hL : brL r b = if moreUp r b then spansU r b true else spansU r b false := by rw [hL]; cases moreUp r b <;> rfl
    clear vC hR hD v1 v2 f3 f4 g3 g4 h1 h2 hv1 hv2
    generalize coverR (brL r b) = C at *
    generalize brRest r b = W at *
    generalize brL r b = L at *
    generalize opR fD r b = D at *
    generalize coverR (spansU r b false) = C1 at *
    generalize coverR (spansU r b true) = C2 at *
    rw [n1] at m1 hmu
    rw [n2] at m2 hmu
    generalize (spansU r b false).flatten.length = j1 at *
    generalize (spansU r b true).flatten.length = j2 at *
    generalize spansU r b false = L1 at *
    generalize spansU r b true = L2 at *
    generalize moreUp r b = ud at *
    have hmu2 : decide ((j1 : Int) < (j2 : Int)) = ud := by rw [hmu]; simp
    refine pc_of_awp cx (fn := Tryz.f13) (c := _) Tryz.func13 rfl rfl (Nat.le_of_ble_eq_true rfl) ?_
    rw [Tryz.ntmps13]; refine Nav.imp ?_
    refine awp_region cx [] fun K hK => ?_
    simp [push_cast]
    repeat (refine And.intro (by clear hK; intros; first | omega | (simp_all; done) | (simp_all <;> omega)) ?_)
    refine hK _ ?_; clear hK K; refine Nav.imp ?_
    refine awp_region cx [(2, .p (.bool true))] fun K hK => ?_
    simp [push_cast, c1]
    repeat (refine And.intro (by clear hK; intros; first | omega | (simp_all; done) | (simp_all <;> omega)) ?_)
    refine hK _ ?_; clear hK K; refine Nav.imp ?_
    refine awp_cond (b := false) (by simp [push_cast]) (fun hb => ?_) (fun hb => ?_) <;> (refine Nav.imp ?_)
    · simp at hb
    · refine awp_region cx [(2, .p (encSpans L1))] fun K hK => ?_
      simp [push_cast, s1]
      repeat (refine And.intro (by clear hK; intros; first | omega | (simp_all; done) | (simp_all <;> omega)) ?_)
      refine hK _ ?_; clear hK K; refine Nav.imp ?_
      refine awp_region cx [(1, .p (.agg (regRow C1)))] fun K hK => ?_
      simp [push_cast, k1]
      repeat (refine And.intro (by clear hK; intros; first | omega | (simp_all; done) | (simp_all <;> omega)) ?_)
      refine hK _ ?_; clear hK K; refine Nav.imp ?_
      refine awp_region cx [(2, .p (encSpans L2))] fun K hK => ?_
      simp [push_cast, s2]
      repeat (refine And.intro (by clear hK; intros; first | omega | (simp_all; done) | (simp_all <;> omega)) ?_)
      refine hK _ ?_; clear hK K; refine Nav.imp ?_
      refine awp_region cx [(1, .p (.agg (regRow C2)))] fun K hK => ?_
      simp [push_cast, k2]
      repeat (refine And.intro (by clear hK; intros; first | omega | (simp_all; done) | (simp_all <;> omega)) ?_)
      refine hK _ ?_; clear hK K; refine Nav.imp ?_
      refine awp_region_draw cx mixed [(1, .p (.int .i64 j2)), (3, .p (.int .i64 j1))] fun K hK => ?_
      simp [push_cast, m1, m2, hmu2]
      repeat (refine And.intro (by clear hK; intros; first | omega | (simp_all; done) | (simp_all <;> omega)) ?_)
      refine hK _ _ (by kernel_rfl) ?_; clear hK K; refine Nav.imp ?_
      apply cut_
      · intro key
        cases ud with
        | true =>
          rw [if_pos rfl] at hL hC
          subst hL hC
          have hj : j1 < j2 := by simpa using hmu.symm
          refine awp_cond (b := true) (by simp [push_cast, hj]) (fun hb => ?_) (fun hb => ?_) <;> (refine Nav.imp ?_)
          · refine awp_region_draw cx mixed [] fun K hK => ?_
            simp [push_cast]
            repeat (refine And.intro (by clear hK; intros; first | omega | (simp_all; done) | (simp_all <;> omega)) ?_)
            refine hK _ _ (by kernel_rfl) ?_; clear hK K; refine Nav.imp ?_
            refine awp_weak (s' := ⟨61, [(2, .ptr 0 0 0), (3, .ptr 1 0 0), (5, .ptr 2 0 0), (6, .d (encSpans L)), (7, .ptr 3 0 0)], [(0, some ⟨24, 1, [(regRow r).map .d]⟩), (1, some ⟨24, 1, [(regRow b).map .d]⟩), (2, some ⟨24, 1, [[.nl]]⟩), (3, some ⟨24, 1, [(regRow C).map .d]⟩)], 4⟩) ?_ key.h
            refine weak_of [(0, some 0), (1, some 1), (2, some 3), (3, some 14)] rfl (by simp [upT, up, upL, push_cast]) (by simp [upH, upR, upL, up, push_cast]) (by simp [namesOk, push_cast]) (by simp [olds])
          · simp at hb
        | false =>
          rw [if_neg (by simp)] at hL hC
          subst hL hC
          have hj : j2 ≤ j1 := by simpa using hmu.symm
          refine awp_cond (b := false) (by simp [push_cast, hj]) (fun hb => ?_) (fun hb => ?_) <;> (refine Nav.imp ?_)
          · simp at hb
          · refine awp_weak (s' := ⟨61, [(2, .ptr 0 0 0), (3, .ptr 1 0 0), (5, .ptr 2 0 0), (6, .d (encSpans L)), (7, .ptr 3 0 0)], [(0, some ⟨24, 1, [(regRow r).map .d]⟩), (1, some ⟨24, 1, [(regRow b).map .d]⟩), (2, some ⟨24, 1, [[.nl]]⟩), (3, some ⟨24, 1, [(regRow C).map .d]⟩)], 4⟩) ?_ key.h
            refine weak_of [(0, some 0), (1, some 1), (2, some 3), (3, some 14)] rfl (by simp [upT, up, upL, push_cast]) (by simp [upH, upR, upL, up, push_cast]) (by simp [namesOk, push_cast]) (by simp [olds])
      · clear hL hC
        refine awp_region cx [] fun K hK => ?_
        simp [push_cast]
        repeat (refine And.intro (by clear hK; intros; first | omega | (simp_all; done) | (simp_all <;> omega)) ?_)
        refine hK _ ?_; clear hK K; refine Nav.imp ?_
        refine awp_region cx [] fun K hK => ?_
        simp [push_cast]
        repeat (refine And.intro (by clear hK; intros; first | omega | (simp_all; done) | (simp_all <;> omega)) ?_)
        refine hK _ ?_; clear hK K; refine Nav.imp ?_
        refine awp_loop (β := Nat × List Track) (fun s => ⟨61, [(2, .ptr 0 0 0), (3, .ptr 1 0 0), (5, .ptr 2 0 0), (7, .ptr 3 0 0), (10, .hs 4 0 s.2.length), (36, .d (encSpans L)), (37, .d (.int .i64 L.length)), (38, .d (.int .i64 s.1))], [(0, some ⟨24, 1, [(regRow r).map .d]⟩), (1, some ⟨24, 1, [(regRow b).map .d]⟩), (2, some ⟨24, 1, [[.nl]]⟩), (3, some ⟨24, 1, [(regRow C).map .d]⟩), (4, some ⟨47, 3, dr (s.2.map Track.row)⟩)], 5⟩) (fun s => s.1 ≤ L.length ∧ s.2 = (L.take s.1).map brT) (fun s => L.length - s.1) (0, []) ?_ ⟨Nat.zero_le _, by simp⟩ ?_
        · refine weak_of [(0, some 0), (1, some 1), (2, some 2), (3, some 3), (4, none)] rfl (by simp [upT, up, upL, push_cast]) (by simp [upH, upR, upL, up, push_cast]) (by simp [namesOk, push_cast]) (by simp [olds])
        · rintro ⟨k, X⟩ ⟨hk, hX⟩
          simp only at hk hX
          have hXl : X.length = k := by rw [hX]; simp; omega
          refine Nav.imp ?_
          refine awp_region cx [] fun K hK => ?_
          simp [push_cast]
          repeat (refine And.intro (by clear hK; intros; first | omega | (simp_all; done) | (simp_all <;> omega)) ?_)
          refine hK _ ?_; clear hK K; refine Nav.imp ?_
          refine awp_cond (b := decide ((k : Int) < L.length)) (by simp [push_cast]) (fun hb => ?_) (fun hb => ?_) <;> (refine Nav.imp ?_)
          · have hlt : k < L.length := by simpa using hb
            obtain ⟨l, hl⟩ := getq hlt
            have e0 := wrap_i64 (n := (k : Int) + 1) (by omega) (by omega)
            have hll := hLm l (List.mem_of_getElem? hl)
            have hX1 : (L.take (k + 1)).map brT = X ++ [brT l] := by rw [take_get hl, List.map_append, ← hX]; rfl
            have h16 : l.length * 16 ≤ 140737488355328 := by omega
            refine awp_region cx [] fun K hK => ?_
            simp [push_cast, hl]
            repeat (refine And.intro (by clear hK; intros; first | omega | (simp_all; done) | (simp_all <;> omega)) ?_)
            refine hK _ ?_; clear hK K; refine Nav.imp ?_
            refine awp_region cx [] fun K hK => ?_
            simp [push_cast, h16]
            repeat (refine And.intro (by clear hK; intros; first | omega | (simp_all; done) | (simp_all <;> omega)) ?_)
            refine hK _ ?_; clear hK K; refine Nav.imp ?_
            refine awp_region cx [] fun K hK => ?_
            simp [push_cast]
            repeat (refine And.intro (by clear hK; intros; first | omega | (simp_all; done) | (simp_all <;> omega)) ?_)
            refine hK _ ?_; clear hK K; refine Nav.imp ?_
            have ht2 : List.take l.length (l.map Cell.row) = l.map Cell.row := List.take_of_length_le (by simp)
            refine awp_freeze 11 (l.map Cell.row) rfl (by simp [push_cast, ht2]) fun K hK => ?_
            simp [push_cast, St.fz, fzT, fzH, fzO, fz, fzL, fzR, fzR_dr, fzR_app, fzR_set, fzL_map, ht2]
            refine hK _ ?_; clear hK K; refine Nav.imp ?_
            have h24 : (X.length + 1) * 40 ≤ 140737488355328 := by omega
            refine awp_region cx [] fun K hK => ?_
            simp [push_cast, h24]
            repeat (refine And.intro (by clear hK; intros; first | omega | (simp_all; done) | (simp_all <;> omega)) ?_)
            refine hK _ ?_; clear hK K; refine Nav.imp ?_
            refine awp_region cx [] fun K hK => ?_
            simp [push_cast, e0]
            repeat (refine And.intro (by clear hK; intros; first | omega | (simp_all; done) | (simp_all <;> omega)) ?_)
            refine hK _ ?_; clear hK K; refine Nav.imp ?_
            refine ⟨(k + 1, X ++ [brT l]), ⟨hlt, hX1.symm⟩, by simp only; omega, ?_⟩
            refine weak_of [(0, some 0), (1, some 1), (2, some 2), (3, some 3), (4, some 22)] rfl (by simp [upT, up, upL, push_cast, brT, Track.row]) (by simp [upH, upR, upL, up, push_cast, brT, Track.row]) (by simp [namesOk, push_cast]) (by simp [olds])
          · have hke : k = L.length := by simp at hb; omega
            subst hke
            rw [List.take_length] at hX
            subst hX
            refine awp_region_draw cx mixed [(3, .p (.agg (regRow D))), (5, .p (.agg (regRow W)))] fun K hK => ?_
            simp [push_cast, q1, q2]
            repeat (refine And.intro (by clear hK; intros; first | omega | (simp_all; done) | (simp_all <;> omega)) ?_)
            refine hK _ _ (by kernel_rfl) ?_; clear hK K; refine Nav.imp ?_
            have ht : List.take L.length ((L.map brT).map Track.row) = (L.map brT).map Track.row := List.take_of_length_le (by simp)
            simp [push_cast]
end Go.Proofs.YtknelhiejjdioaaGreat

set_option linter.unusedVariables false
set_option linter.unusedSimpArgs false
set_option maxRecDepth 100000
namespace Go.Proofs.YtknelhiejjdioaaGreat
open Go.Abs

/-! Offsets: what is valid; runs made shorter. -/
def reachB (R : List Row) (k : Int) : Bool := decide (0 ≤ k) && decide (k ≤ 64) && validR R
theorem mvalid_big (R : List Row) (k : Int) (hR : bigR R) : PC Tryz.prog 63 [.agg (regRow R), .int .i64 k] (.p (.bool (reachB R k))) := by
  have c1 := valid_big R hR
  unfold reachB
  generalize validR R = v at *
  by_cases h : 0 ≤ k ∧ k ≤ 64
  · have e1 : (0 : Int) ≤ k := h.1
    have e2 : k ≤ 64 := h.2
    refine pc_of_awp cx (fn := Tryz.f63) (c := _) Tryz.func63 rfl rfl (Nat.le_of_ble_eq_true rfl) ?_
    rw [Tryz.ntmps63]; refine Nav.imp ?_
    refine awp_region cx [] fun K hK => ?_
    simp [push_cast]
    repeat (refine And.intro (by clear hK; intros; first | omega | (simp_all; done) | (simp_all <;> omega)) ?_)
    refine hK _ ?_; clear hK K; refine Nav.imp ?_
    refine awp_region cx [(8, .p (.bool v))] fun K hK => ?_
    simp [push_cast, c1, e1, e2]
    repeat (refine And.intro (by clear hK; intros; first | omega | (simp_all; done) | (simp_all <;> omega)) ?_)
    refine hK _ ?_; clear hK K; refine Nav.imp ?_
    simp [push_cast, e1, e2]
  · have e : (decide (0 ≤ k) && decide (k ≤ 64)) = false := by simp; omega
    rw [e]
    by_cases h0 : 0 ≤ k
    · have e2 : ¬ k ≤ 64 := by omega
      refine pc_of_awp cx (fn := Tryz.f63) (c := _) Tryz.func63 rfl rfl (Nat.le_of_ble_eq_true rfl) ?_
      rw [Tryz.ntmps63]; refine Nav.imp ?_
      refine awp_region cx [] fun K hK => ?_
      simp [push_cast]
      repeat (refine And.intro (by clear hK; intros; first | omega | (simp_all; done) | (simp_all <;> omega)) ?_)
      refine hK _ ?_; clear hK K; refine Nav.imp ?_
      refine awp_region cx [(8, .skip)] fun K hK => ?_
      simp [push_cast, h0, e2]
      repeat (refine And.intro (by clear hK; intros; first | omega | (simp_all; done) | (simp_all <;> omega)) ?_)
      refine hK _ ?_; clear hK K; refine Nav.imp ?_
      simp [push_cast, h0, e2]
    · refine pc_of_awp cx (fn := Tryz.f63) (c := _) Tryz.func63 rfl rfl (Nat.le_of_ble_eq_true rfl) ?_
      rw [Tryz.ntmps63]; refine Nav.imp ?_
      refine awp_region cx [] fun K hK => ?_
      simp [push_cast]
      repeat (refine And.intro (by clear hK; intros; first | omega | (simp_all; done) | (simp_all <;> omega)) ?_)
      refine hK _ ?_; clear hK K; refine Nav.imp ?_
      refine awp_region cx [(8, .skip)] fun K hK => ?_
      simp [push_cast, h0]
      repeat (refine And.intro (by clear hK; intros; first | omega | (simp_all; done) | (simp_all <;> omega)) ?_)
      refine hK _ ?_; clear hK K; refine Nav.imp ?_
      simp [push_cast, h0]

theorem mvalid_ok (R : List Row) (k : Int) (hR : smallR R) : PC Tryz.prog 63 [.agg (regRow R), .int .i64 k] (.p (.bool (reachB R k))) := mvalid_big R k (big_of hR)

def shrRun (k : Int) (r : Run) : List Run := if r.a + k < r.b - k then [⟨r.a + k, r.b - k⟩] else []
def shrK (k : Int) (l : List Run) : List Run := l.flatMap (shrRun k)
def shrB (l : List Run) (k : Int) : List Run := if rvalid l && decide (0 ≤ k) && decide (k ≤ 1048576) then shrK k l else []
theorem shrRun_len (k : Int) (r : Run) : (shrRun k r).length ≤ 1 := by unfold shrRun; split <;> simp
theorem flat_one_len {α β : Type} {f : α → List β} (h : ∀ x, (f x).length ≤ 1) : ∀ m : List α, (m.flatMap f).length ≤ m.length
  | [] => by simp
  | x :: m => by have := h x; have := flat_one_len h m; rw [List.flatMap_cons, List.length_append, List.length_cons]; omega

set_option maxHeartbeats 1000000 in
theorem shrink_ok (l : List Run) (k : Int) (hl : l.length ≤ 1000000) : PC Tryz.prog 69 [encRuns l, .int .i64 k] (.p (encRuns (shrB l k))) := by
  have c1 := rvalid_ok l hl
  have hB : shrB l k = if rvalid l && decide (0 ≤ k) && decide (k ≤ 1048576) then shrK k l else [] := rfl
  cases hv : rvalid l with
  | false =>
    rw [hv] at c1 hB
    rw [if_neg (by simp)] at hB
    rw [hB]
    refine pc_of_awp cx (fn := Tryz.f69) (c := _) Tryz.func69 rfl rfl (Nat.le_of_ble_eq_true rfl) ?_
    rw [Tryz.ntmps69]; refine Nav.imp ?_
    refine awp_region cx [] fun K hK => ?_
    simp [push_cast]
    repeat (refine And.intro (by clear hK; intros; first | omega | (simp_all; done) | (simp_all <;> omega)) ?_)
    refine hK _ ?_; clear hK K; refine Nav.imp ?_
    refine awp_region cx [(1, .p (.bool false))] fun K hK => ?_
    simp [push_cast, c1]
    repeat (refine And.intro (by clear hK; intros; first | omega | (simp_all; done) | (simp_all <;> omega)) ?_)
    refine hK _ ?_; clear hK K; refine Nav.imp ?_
    refine awp_cond (b := true) (by simp [push_cast]) (fun hb => ?_) (fun hb => ?_) <;> (refine Nav.imp ?_)
    · refine awp_region cx [] fun K hK => ?_
      simp [push_cast]
      repeat (refine And.intro (by clear hK; intros; first | omega | (simp_all; done) | (simp_all <;> omega)) ?_)
      refine hK _ ?_; clear hK K; refine Nav.imp ?_
      simp [push_cast]
    · simp at hb
  | true =>
    rw [hv] at c1 hB
    by_cases hk : 0 ≤ k ∧ k ≤ 1048576
    · rw [if_pos (by simp; omega)] at hB
      rw [hB]
      clear hB
      have e1 : ¬ k < 0 := by omega
      have e2 : ¬ 1048576 < k := by omega
      refine pc_of_awp cx (fn := Tryz.f69) (c := _) Tryz.func69 rfl rfl (Nat.le_of_ble_eq_true rfl) ?_
      rw [Tryz.ntmps69]; refine Nav.imp ?_
      refine awp_region cx [] fun K hK => ?_
      simp [push_cast]
      repeat (refine And.intro (by clear hK; intros; first | omega | (simp_all; done) | (simp_all <;> omega)) ?_)
      refine hK _ ?_; clear hK K; refine Nav.imp ?_
      refine awp_region cx [(1, .p (.bool true))] fun K hK => ?_
      simp [push_cast, c1]
      repeat (refine And.intro (by clear hK; intros; first | omega | (simp_all; done) | (simp_all <;> omega)) ?_)
      refine hK _ ?_; clear hK K; refine Nav.imp ?_
      refine awp_cond (b := false) (by simp [push_cast, e1, e2]) (fun hb => ?_) (fun hb => ?_) <;> (refine Nav.imp ?_)
      · simp at hb
      · refine awp_region cx [] fun K hK => ?_
        simp [push_cast]
        repeat (refine And.intro (by clear hK; intros; first | omega | (simp_all; done) | (simp_all <;> omega)) ?_)
        refine hK _ ?_; clear hK K; refine Nav.imp ?_
        refine awp_region cx [] fun K hK => ?_
        simp [push_cast]
        repeat (refine And.intro (by clear hK; intros; first | omega | (simp_all; done) | (simp_all <;> omega)) ?_)
        refine hK _ ?_; clear hK K; refine Nav.imp ?_
        refine awp_loop (β := Nat × List Run) (fun s => ⟨48, [(1, .d (.int .i64 k)), (5, .hs 0 0 s.2.length), (19, .d (encRuns l)), (20, .d (.int .i64 l.length)), (21, .d (.int .i64 s.1))], [(0, some ⟨42, 2, dr (s.2.map Run.row)⟩)], 1⟩) (fun s => s.1 ≤ l.length ∧ s.2 = shrK k (l.take s.1)) (fun s => l.length - s.1) (0, []) ?_ ⟨Nat.zero_le _, by simp [shrK]⟩ ?_
        · refine weak_of [(0, none)] rfl (by simp [upT, up, upL, push_cast]) (by simp [upH, upR, upL, up, push_cast]) (by simp [namesOk, push_cast]) (by simp [olds])
        · rintro ⟨i, Z⟩ ⟨hi, hZ⟩
          simp only at hi hZ
          refine Nav.imp ?_
          refine awp_region cx [] fun K hK => ?_
          simp [push_cast]
          repeat (refine And.intro (by clear hK; intros; first | omega | (simp_all; done) | (simp_all <;> omega)) ?_)
          refine hK _ ?_; clear hK K; refine Nav.imp ?_
          refine awp_cond (b := decide ((i : Int) < l.length)) (by simp [push_cast]) (fun hb => ?_) (fun hb => ?_) <;> (refine Nav.imp ?_)
          · have hlt : i < l.length := by simpa using hb
            obtain ⟨r, hr⟩ := getq hlt
            have e0 := wrap_i64 (n := (i : Int) + 1) (by omega) (by omega)
            have hbd := fitsB_bd (rvalid_at hv hr).2
            have hZl : Z.length ≤ 1000000 := by
              have := flat_one_len (shrRun_len k) (l.take i)
              rw [hZ]; unfold shrK; rw [List.length_take] at this; omega
            have hZ16 : (Z.length + 1) * 16 ≤ 140737488355328 := by omega
            have hnx : shrK k (l.take (i + 1)) = Z ++ shrRun k r := by rw [hZ]; exact flat_take _ hr
            obtain ⟨ra, rb⟩ := r
            simp only [shrRun] at hnx hbd
            have w1 := wrap_i64 (n := ra + k) (by omega) (by omega)
            have w2 := wrap_i64 (n := rb - k) (by omega) (by omega)
            refine awp_region cx [] fun K hK => ?_
            simp [push_cast, hr, Run.row]
            repeat (refine And.intro (by clear hK; intros; first | omega | (simp_all; done) | (simp_all <;> omega)) ?_)
            refine hK _ ?_; clear hK K; refine Nav.imp ?_
            refine awp_region cx [] fun K hK => ?_
            simp [push_cast, w1, w2]
            repeat (refine And.intro (by clear hK; intros; first | omega | (simp_all; done) | (simp_all <;> omega)) ?_)
            refine hK _ ?_; clear hK K; refine Nav.imp ?_
            refine awp_cond (b := decide (ra + k < rb - k)) (by simp [push_cast]) (fun hb => ?_) (fun hb => ?_) <;> (refine Nav.imp ?_)
            · have hb : ra + k < rb - k := by simpa using hb
              rw [if_pos hb] at hnx
              refine awp_region cx [] fun K hK => ?_
              simp [push_cast, w1, w2, hZ16]
              repeat (refine And.intro (by clear hK; intros; first | omega | (simp_all; done) | (simp_all <;> omega)) ?_)
              refine hK _ ?_; clear hK K; refine Nav.imp ?_
              refine awp_region cx [] fun K hK => ?_
              simp [push_cast, e0]
              repeat (refine And.intro (by clear hK; intros; first | omega | (simp_all; done) | (simp_all <;> omega)) ?_)
              refine hK _ ?_; clear hK K; refine Nav.imp ?_
              refine ⟨(i + 1, Z ++ [⟨ra + k, rb - k⟩]), ⟨hlt, hnx.symm⟩, by simp only; omega, ?_⟩
              refine weak_of [(0, some 26)] rfl (by simp [upT, up, upL, push_cast, Run.row]) (by simp [upH, upR, upL, up, push_cast, Run.row]) (by simp [namesOk, push_cast]) (by simp [olds])
            · have hb : ¬ ra + k < rb - k := by simpa using hb
              rw [if_neg hb, List.append_nil] at hnx
              refine awp_region cx [] fun K hK => ?_
              simp [push_cast, e0]
              repeat (refine And.intro (by clear hK; intros; first | omega | (simp_all; done) | (simp_all <;> omega)) ?_)
              refine hK _ ?_; clear hK K; refine Nav.imp ?_
              refine ⟨(i + 1, Z), ⟨hlt, hnx.symm⟩, by simp only; omega, ?_⟩
              refine weak_of [(0, some 0)] rfl (by simp [upT, up, upL, push_cast]) (by simp [upH, upR, upL, up, push_cast]) (by simp [namesOk, push_cast]) (by simp [olds])
          · have hge : i = l.length := by simp at hb; omega
            subst hge
            rw [List.take_length] at hZ
            rw [← hZ]
            refine awp_region cx [] fun K hK => ?_
            simp [push_cast]
            repeat (refine And.intro (by clear hK; intros; first | omega | (simp_all; done) | (simp_all <;> omega)) ?_)
            refine hK _ ?_; clear hK K; refine Nav.imp ?_
            have ht : List.take Z.length (Z.map Run.row) = Z.map Run.row := List.take_of_length_le (by simp)
            simp [push_cast, ht]
    · rw [if_neg (by simp; omega)] at hB
      rw [hB]
      have e : (decide (k < 0) || decide (1048576 < k)) = true := by simp; omega
      refine pc_of_awp cx (fn := Tryz.f69) (c := _) Tryz.func69 rfl rfl (Nat.le_of_ble_eq_true rfl) ?_
      rw [Tryz.ntmps69]; refine Nav.imp ?_
      refine awp_region cx [] fun K hK => ?_
      simp [push_cast]
      repeat (refine And.intro (by clear hK; intros; first | omega | (simp_all; done) | (simp_all <;> omega)) ?_)
      refine hK _ ?_; clear hK K; refine Nav.imp ?_
      refine awp_region cx [(1, .p (.bool true))] fun K hK => ?_
      simp [push_cast, c1]
      repeat (refine And.intro (by clear hK; intros; first | omega | (simp_all; done) | (simp_all <;> omega)) ?_)
      refine hK _ ?_; clear hK K; refine Nav.imp ?_
      refine awp_cond (b := true) (by simp [push_cast, e]) (fun hb => ?_) (fun hb => ?_) <;> (refine Nav.imp ?_)
      · refine awp_region cx [] fun K hK => ?_
        simp [push_cast]
        repeat (refine And.intro (by clear hK; intros; first | omega | (simp_all; done) | (simp_all <;> omega)) ?_)
        refine hK _ ?_; clear hK K; refine Nav.imp ?_
        simp [push_cast]
      · simp at hb
end Go.Proofs.YtknelhiejjdioaaGreat

set_option linter.unusedVariables false
set_option linter.unusedSimpArgs false
set_option maxRecDepth 100000
namespace Go.Proofs.YtknelhiejjdioaaGreat
open Go.Abs

/-! Runs that overlap or touch are joined. -/
def joinOne (out : List Run) (r : Run) : List Run := match out.getLast? with
  | some q => if r.a ≤ q.b then out.dropLast ++ [⟨q.a, max q.b r.b⟩] else out ++ [r]
  | none => [r]
def joinL (l : List Run) : List Run := l.foldl joinOne []
theorem joinOne_nil (r : Run) : joinOne [] r = [r] := rfl
theorem joinOne_end (o : List Run) (q r : Run) : joinOne (o ++ [q]) r = if r.a ≤ q.b then o ++ [⟨q.a, max q.b r.b⟩] else o ++ [q] ++ [r] := by simp [joinOne]
theorem joinL_take {l : List Run} {k : Nat} {r : Run} (h : l[k]? = some r) : joinL (l.take (k + 1)) = joinOne (joinL (l.take k)) r := by
  unfold joinL; rw [take_get h, List.foldl_append]; rfl
theorem joinOne_len (out : List Run) (r : Run) : (joinOne out r).length ≤ out.length + 1 := by
  rcases List.eq_nil_or_concat out with rfl | ⟨o, q, rfl⟩
  · simp [joinOne_nil]
  · rw [List.concat_eq_append, joinOne_end]; split <;> simp

set_option maxHeartbeats 2000000 in
theorem join_ok (l : List Run) (hl : l.length ≤ 1000000) : PC Tryz.prog 99 [encRuns l] (.p (encRuns (joinL l))) := by
  refine pc_of_awp cx (fn := Tryz.f99) (c := _) Tryz.func99 rfl rfl (Nat.le_of_ble_eq_true rfl) ?_
  rw [Tryz.ntmps99]; refine Nav.imp ?_
  refine awp_region cx [] fun K hK => ?_
  simp [push_cast]
  repeat (refine And.intro (by clear hK; intros; first | omega | (simp_all; done) | (simp_all <;> omega)) ?_)
  refine hK _ ?_; clear hK K; refine Nav.imp ?_
  refine awp_region cx [] fun K hK => ?_
  simp [push_cast]
  repeat (refine And.intro (by clear hK; intros; first | omega | (simp_all; done) | (simp_all <;> omega)) ?_)
  refine hK _ ?_; clear hK K; refine Nav.imp ?_
  refine awp_region cx [] fun K hK => ?_
  simp [push_cast]
  repeat (refine And.intro (by clear hK; intros; first | omega | (simp_all; done) | (simp_all <;> omega)) ?_)
  refine hK _ ?_; clear hK K; refine Nav.imp ?_
  refine awp_loop (β := Nat × List Run) (fun s => ⟨46, [(3, .hs 0 0 s.2.length), (7, .d (encRuns l)), (8, .d (.int .i64 l.length)), (9, .d (.int .i64 s.1))], [(0, some ⟨42, 2, dr (s.2.map Run.row)⟩)], 1⟩) (fun s => s.1 ≤ l.length ∧ s.2.length ≤ s.1 ∧ s.2 = joinL (l.take s.1)) (fun s => l.length - s.1) (0, []) ?_ ⟨Nat.zero_le _, by simp, by simp [joinL]⟩ ?_
  · refine weak_of [(0, none)] rfl (by simp [upT, up, upL, push_cast]) (by simp [upH, upR, upL, up, push_cast]) (by simp [namesOk, push_cast]) (by simp [olds])
  · rintro ⟨i, out⟩ ⟨hi, hol, hZ⟩
    simp only at hi hol hZ
    refine Nav.imp ?_
    refine awp_region cx [] fun K hK => ?_
    simp [push_cast]
    repeat (refine And.intro (by clear hK; intros; first | omega | (simp_all; done) | (simp_all <;> omega)) ?_)
    refine hK _ ?_; clear hK K; refine Nav.imp ?_
    refine awp_cond (b := decide ((i : Int) < l.length)) (by simp [push_cast]) (fun hb => ?_) (fun hb => ?_) <;> (refine Nav.imp ?_)
    · have hlt : i < l.length := by simpa using hb
      obtain ⟨r, hr⟩ := getq hlt
      have e0 := wrap_i64 (n := (i : Int) + 1) (by omega) (by omega)
      have hnx : joinL (l.take (i + 1)) = joinOne out r := by rw [joinL_take hr, hZ]
      have hnl : (joinOne out r).length ≤ i + 1 := Nat.le_trans (joinOne_len out r) (by omega)
      have hO16 : (out.length + 1) * 16 ≤ 140737488355328 := by omega
      clear hZ
      obtain ⟨ra, rb⟩ := r
      rcases List.eq_nil_or_concat out with rfl | ⟨o, q, rfl⟩
      · rw [joinOne_nil] at hnx hnl
        have e1 := wrap_i64 (n := (((0 : Nat)) : Int) - 1) (by omega) (by omega)
        refine awp_region cx [] fun K hK => ?_
        simp [push_cast, hr, Run.row]
        repeat (refine And.intro (by clear hK; intros; first | omega | (simp_all; done) | (simp_all <;> omega)) ?_)
        refine hK _ ?_; clear hK K; refine Nav.imp ?_
        refine awp_region cx [] fun K hK => ?_
        simp [push_cast, e1]
        repeat (refine And.intro (by clear hK; intros; first | omega | (simp_all; done) | (simp_all <;> omega)) ?_)
        refine hK _ ?_; clear hK K; refine Nav.imp ?_
        refine awp_region_draw cx mixed [] fun K hK => ?_
        simp [push_cast]
        repeat (refine And.intro (by clear hK; intros; first | omega | (simp_all; done) | (simp_all <;> omega)) ?_)
        refine hK _ _ (by kernel_rfl) ?_; clear hK K; refine Nav.imp ?_
        refine awp_cond (b := false) (by simp [push_cast]) (fun hb => ?_) (fun hb => ?_) <;> (refine Nav.imp ?_)
        · simp at hb
        · refine awp_region cx [] fun K hK => ?_
          simp [push_cast]
          repeat (refine And.intro (by clear hK; intros; first | omega | (simp_all; done) | (simp_all <;> omega)) ?_)
          refine hK _ ?_; clear hK K; refine Nav.imp ?_
          refine awp_region cx [] fun K hK => ?_
          simp [push_cast, e0]
          repeat (refine And.intro (by clear hK; intros; first | omega | (simp_all; done) | (simp_all <;> omega)) ?_)
          refine hK _ ?_; clear hK K; refine Nav.imp ?_
          refine ⟨(i + 1, [⟨ra, rb⟩]), ⟨hlt, hnl, hnx.symm⟩, by simp only; omega, ?_⟩
          refine weak_of [(0, some 25)] rfl (by simp [upT, up, upL, push_cast, Run.row]) (by simp [upH, upR, upL, up, push_cast, Run.row]) (by simp [namesOk, push_cast]) (by simp [olds])
      · rw [List.concat_eq_append] at *
        rw [joinOne_end] at hnx hnl
        have hz : (o ++ [q])[o.length]? = some q := by simp
        have hlen : (o ++ [q]).length = o.length + 1 := by simp
        obtain ⟨qa, qb⟩ := q
        simp only at hnx hnl
        have hset : ∀ Y : Int, (dr ((o ++ [(⟨qa, qb⟩ : Run)]).map Run.row)).set o.length [.d (.int .i64 qa), .d (.int .i64 Y)] = dr ((o ++ [(⟨qa, Y⟩ : Run)]).map Run.row) := fun Y => by simp [dr, List.map_set, Run.row]
        have hset := hset (max qb rb)
        have e1 := wrap_i64 (n := ((o.length + 1 : Nat) : Int) - 1) (by omega) (by omega)
        have e2 : (((o.length + 1 : Nat) : Int) - 1) = o.length := by omega
        rw [e2] at e1
        have e3 : (0 : Int) ≤ (o.length : Int) := by omega
        have hjl : (o ++ [(⟨qa, max qb rb⟩ : Run)]).length = o.length + 1 := by simp
        generalize hJ : o ++ [(⟨qa, max qb rb⟩ : Run)] = J at *
        generalize hA : o ++ [(⟨qa, qb⟩ : Run)] = A at *
        rw [hlen]
        refine awp_region cx [] fun K hK => ?_
        simp [push_cast, hr, Run.row]
        repeat (refine And.intro (by clear hK; intros; first | omega | (simp_all; done) | (simp_all <;> omega)) ?_)
        refine hK _ ?_; clear hK K; refine Nav.imp ?_
        refine awp_region cx [] fun K hK => ?_
        simp [push_cast, e1, e2]
        repeat (refine And.intro (by clear hK; intros; first | omega | (simp_all; done) | (simp_all <;> omega)) ?_)
        refine hK _ ?_; clear hK K; refine Nav.imp ?_
        refine awp_region_draw cx mixed [] fun K hK => ?_
        simp [push_cast, hz, e1, e2, e3, Run.row]
        repeat (refine And.intro (by clear hK; intros; first | omega | (simp_all; done) | (simp_all <;> omega)) ?_)
        refine hK _ _ (by kernel_rfl) ?_; clear hK K; refine Nav.imp ?_
        refine awp_cond (b := decide (ra ≤ qb)) (by simp [push_cast, e3]) (fun hb => ?_) (fun hb => ?_) <;> (refine Nav.imp ?_)
        · have hq : ra ≤ qb := by simpa using hb
          rw [if_pos hq] at hnx hnl
          refine awp_region_draw cx mixed [] fun K hK => ?_
          simp [push_cast, hz, e1, e2, e3, Run.row, hset]
          repeat (refine And.intro (by clear hK; intros; first | omega | (simp_all; done) | (simp_all <;> omega)) ?_)
          refine hK _ _ (by kernel_rfl) ?_; clear hK K; refine Nav.imp ?_
          refine awp_region cx [] fun K hK => ?_
          simp [push_cast, e0]
          repeat (refine And.intro (by clear hK; intros; first | omega | (simp_all; done) | (simp_all <;> omega)) ?_)
          refine hK _ ?_; clear hK K; refine Nav.imp ?_
          refine ⟨(i + 1, J), ⟨hlt, hnl, hnx.symm⟩, by simp only; omega, ?_⟩
          refine weak_of [(0, some 0)] rfl (by simp [upT, up, upL, push_cast, Run.row, hjl]) (by simp [upH, upR, upL, up, push_cast, Run.row, hjl]) (by simp [namesOk, push_cast]) (by simp [olds])
        · have hq : ¬ ra ≤ qb := by simpa using hb
          rw [if_neg hq] at hnx hnl
          rw [← hlen]
          refine awp_region cx [] fun K hK => ?_
          simp [push_cast, hO16]
          repeat (refine And.intro (by clear hK; intros; first | omega | (simp_all; done) | (simp_all <;> omega)) ?_)
          refine hK _ ?_; clear hK K; refine Nav.imp ?_
          refine awp_region cx [] fun K hK => ?_
          simp [push_cast, e0]
          repeat (refine And.intro (by clear hK; intros; first | omega | (simp_all; done) | (simp_all <;> omega)) ?_)
          refine hK _ ?_; clear hK K; refine Nav.imp ?_
          refine ⟨(i + 1, A ++ [⟨ra, rb⟩]), ⟨hlt, hnl, hnx.symm⟩, by simp only; omega, ?_⟩
          refine weak_of [(0, some 25)] rfl (by simp [upT, up, upL, push_cast, Run.row]) (by simp [upH, upR, upL, up, push_cast, Run.row]) (by simp [namesOk, push_cast]) (by simp [olds])
    · have hge : i = l.length := by simp at hb; omega
      subst hge
      rw [List.take_length] at hZ
      rw [← hZ]
      refine awp_region cx [] fun K hK => ?_
      simp [push_cast]
      repeat (refine And.intro (by clear hK; intros; first | omega | (simp_all; done) | (simp_all <;> omega)) ?_)
      refine hK _ ?_; clear hK K; refine Nav.imp ?_
      have ht : List.take out.length (out.map Run.row) = out.map Run.row := List.take_of_length_le (by simp)
      simp [push_cast, ht]
end Go.Proofs.YtknelhiejjdioaaGreat

set_option linter.unusedVariables false
set_option linter.unusedSimpArgs false
namespace Go.Proofs.YtknelhiejjdioaaGreat
open Go.Abs

/-! Runs made longer: which numbers they hold. Maps from rows' numbers to runs. -/
theorem inR_append (C D : List Run) (y : Int) : inR (C ++ D) y = (inR C y || inR D y) := by simp [inR]
theorem inR_one (r : Run) (y : Int) : inR [r] y = (decide (r.a ≤ y) && decide (y < r.b)) := by simp [inR]

theorem joinL_app (l : List Run) (r : Run) : joinL (l ++ [r]) = joinOne (joinL l) r := by simp [joinL]
theorem joinL_facts : ∀ (n : Nat) (l : List Run), l.length = n → (∀ r ∈ l, r.a < r.b) → l.Pairwise (fun p r => p.a ≤ r.a) → Apart (joinL l) ∧ (∀ x, inR (joinL l) x = inR l x) ∧ ∀ q ∈ joinL l, ∃ r ∈ l, q.a = r.a
  | 0, l, hn, _, _ => by
    have : l = [] := List.eq_nil_of_length_eq_zero hn
    subst this
    exact ⟨⟨by simp [joinL], by simp [joinL]⟩, fun x => rfl, by simp [joinL]⟩
  | n + 1, l, hn, hlt, hs => by
    obtain ⟨m, r, rfl⟩ : ∃ m r, l = m ++ [r] := ⟨l.dropLast, l.getLast (by intro e; simp [e] at hn), (List.dropLast_concat_getLast _).symm⟩
    have hs' := List.pairwise_append.1 hs
    obtain ⟨i1, i2, i3⟩ := joinL_facts n m (by simpa using hn) (fun q hq => hlt q (by simp [hq])) hs'.1
    have hr := hlt r (by simp)
    rw [joinL_app]
    by_cases h0 : joinL m = []
    · rw [h0, joinOne_nil]
      refine ⟨⟨by simpa using hr, by simp⟩, fun x => ?_, fun q hq => ⟨r, by simp, by simp at hq; rw [hq]⟩⟩
      rw [inR_append, ← i2, h0]; simp [inR]
    · obtain ⟨o, q, hq⟩ : ∃ o q, joinL m = o ++ [q] := ⟨(joinL m).dropLast, (joinL m).getLast h0, (List.dropLast_concat_getLast h0).symm⟩
      rw [hq] at i1 i2 i3 ⊢
      rw [joinOne_end]
      have hqa : q.a ≤ r.a := by
        obtain ⟨p, hp, e⟩ := i3 q (by simp)
        rw [e]; exact hs'.2.2 p hp r (by simp)
      have hqb := i1.1 q (by simp)
      have ipw := List.pairwise_append.1 i1.2
      split
      · rename_i hle
        refine ⟨⟨fun p hp => ?_, ?_⟩, fun x => ?_, fun p hp => ?_⟩
        · simp only [List.mem_append, List.mem_singleton] at hp
          rcases hp with hp | rfl
          · exact i1.1 p (by simp [hp])
          · simp only; omega
        · refine List.pairwise_append.2 ⟨ipw.1, by simp, fun p hp s hs => ?_⟩
          simp only [List.mem_singleton] at hs
          subst hs
          exact ipw.2.2 p hp q (by simp)
        · rw [inR_append, inR_append, ← i2, inR_append, inR_one, inR_one, inR_one, Bool.or_assoc]
          congr 1
          rw [Bool.eq_iff_iff]
          simp only [Bool.or_eq_true, Bool.and_eq_true, decide_eq_true_eq]
          omega
        · simp only [List.mem_append, List.mem_singleton] at hp
          rcases hp with hp | rfl
          · obtain ⟨s, hs, e⟩ := i3 p (by simp [hp]); exact ⟨s, by simp [hs], e⟩
          · obtain ⟨s, hs, e⟩ := i3 q (by simp); exact ⟨s, by simp [hs], e⟩
      · rename_i hgt
        refine ⟨⟨fun p hp => ?_, ?_⟩, fun x => ?_, fun p hp => ?_⟩
        · simp only [List.mem_append, List.mem_singleton] at hp
          rcases hp with (hp | rfl) | rfl
          · exact i1.1 p (by simp [hp])
          · exact hqb
          · exact hr
        · refine List.pairwise_append.2 ⟨i1.2, by simp, fun p hp s hs => ?_⟩
          simp only [List.mem_singleton] at hs
          subst hs
          simp only [List.mem_append, List.mem_singleton] at hp
          rcases hp with hp | rfl
          · have := ipw.2.2 p hp q (by simp); have := i1.1 q (by simp); omega
          · omega
        · rw [inR_append, i2, inR_append]
        · simp only [List.mem_append, List.mem_singleton] at hp
          rcases hp with (hp | rfl) | rfl
          · obtain ⟨s, hs, e⟩ := i3 p (by simp [hp]); exact ⟨s, by simp [hs], e⟩
          · obtain ⟨s, hs, e⟩ := i3 p (by simp); exact ⟨s, by simp [hs], e⟩
          · exact ⟨p, by simp, rfl⟩

def groRun (k : Int) (r : Run) : Run := ⟨r.a - k, r.b + k⟩
def groL (l : List Run) (k : Int) : List Run := joinL (l.map (groRun k))
theorem groL_facts {l : List Run} (hf : fine l = true) {k : Int} (hk : 0 ≤ k ∧ k ≤ 64) : Apart (groL l k) ∧ (∀ r ∈ groL l k, -4160 ≤ r.a ∧ r.b ≤ 4160) ∧ ∀ x, inR (groL l k) x = true ↔ ∃ r ∈ l, r.a - k ≤ x ∧ x < r.b + k := by
  obtain ⟨_, ha, hb⟩ := fine_apart.1 hf
  obtain ⟨h1, h2, _⟩ := joinL_facts _ (l.map (groRun k)) rfl (fun r hr => by
    obtain ⟨q, hq, rfl⟩ := List.mem_map.1 hr
    have := ha.1 q hq
    simp only [groRun]; omega) (by
    rw [List.pairwise_map]
    refine ha.2.imp_of_mem fun {p r} hp hr h => ?_
    have := ha.1 p hp
    simp only [groRun]; omega)
  have hm : ∀ x, inR (groL l k) x = true ↔ ∃ r ∈ l, r.a - k ≤ x ∧ x < r.b + k := fun x => by
    unfold groL
    rw [h2, inR_iff]
    constructor
    · rintro ⟨r, hr, h⟩
      obtain ⟨q, hq, rfl⟩ := List.mem_map.1 hr
      exact ⟨q, hq, h⟩
    · rintro ⟨q, hq, h⟩
      exact ⟨groRun k q, List.mem_map.2 ⟨q, hq, rfl⟩, h⟩
  refine ⟨h1, apart_bounds h1 fun y hy => ?_, hm⟩
  obtain ⟨r, hr, h3, h4⟩ := (hm y).1 hy
  have := hb r hr
  omega
theorem apart_rv {l : List Run} (h : Apart l) (hb : ∀ r ∈ l, -4160 ≤ r.a ∧ r.b ≤ 4160) : rvalid l = true :=
  rvalid_iff.2 ⟨h, fun r hr => by have := hb r hr; have := h.1 r hr; simp [fitsB]; omega⟩
theorem apart_small {l : List Run} (h : Apart l) (hb : ∀ r ∈ l, -4160 ≤ r.a ∧ r.b ≤ 4160) : l.length ≤ 8320 := by
  have := apart_len h hb; omega

/-- A map from rows' numbers to runs, as its entries. -/
def mpRows (M : List (Int × List Run)) : List (List D) := rowL (fun y => .int .i64 y) encRuns M
def mget (M : List (Int × List Run)) (y : Int) : List Run := (getL M y).getD []
theorem eqK_int (a b : Int) : eqK (.int .i64 a) (.int .i64 b) = some (decide (a = b)) := by
  simp only [eqK, if_true, Option.some.injEq]
  by_cases h : a = b <;> simp [h]
theorem putR_mp (y : Int) (b : List Run) (M : List (Int × List Run)) : putR (.int .i64 y) (.d (.sl (b.map Run.row))) (dr (mpRows M)) = some (dr (mpRows (putL M y b))) :=
  putR_row (kd := fun y => D.int .i64 y) (vd := encRuns) eqK_int y b M
theorem look_mp (y : Int) (M : List (Int × List Run)) : lookIs .nl false (lookA (.int .i64 y) (dr (mpRows M))) (.sl ((mget M y).map Run.row)) = True := by
  rw [show dr (mpRows M) = dr (rowL (fun y => D.int .i64 y) encRuns M) from rfl, lookA_row (kd := fun y => D.int .i64 y) (vd := encRuns) eqK_int y M]
  unfold mget
  cases getL M y <;> simp [lookIs, outD, encRuns]
theorem mp_nil : ([] : List (List AV)) = dr (mpRows []) := rfl
theorem mget_put (M : List (Int × List Run)) (y z : Int) (l : List Run) : mget (putL M y l) z = if z = y then l else mget M z := by
  unfold mget; rw [getL_putL]; split <;> rfl
end Go.Proofs.YtknelhiejjdioaaGreat

set_option linter.unusedVariables false
set_option linter.unusedSimpArgs false
set_option maxRecDepth 100000
namespace Go.Proofs.YtknelhiejjdioaaGreat
open Go.Abs

/-! The runs of a row of a valid region, made longer. -/

set_option maxHeartbeats 1000000 in
theorem grow_ok (l : List Run) (d : Int) (hf : fine l = true) (hl : l.length ≤ 1000000) (hd : 0 ≤ d ∧ d ≤ 64) : PC Tryz.prog 66 [encRuns l, .int .i64 d] (.p (.tup [encRuns (groL l d), .int .i64 0])) := by
  have c1 := rvalid_ok l hl
  have c2 := join_ok (l.map (groRun d)) (by simpa using hl)
  have hG : groL l d = joinL (l.map (groRun d)) := rfl
  rw [← hG] at c2
  generalize groL l d = res at *
  clear hG
  rw [fine_rv hf] at c1
  obtain ⟨f, z, hf0, hz, q1, q2, q3⟩ := fine_ends hf
  have hm1 : 16 * (l.length : Int) ≤ 281474976710656 := by omega
  have hm2 : (l.length : Int) ≤ 9223372036854775807 := by omega
  have e1 := wrap_i64 (n := (l.length : Int) - 1) (by omega) (by omega)
  have e2 : ((l.length : Int) - 1).toNat = l.length - 1 := by omega
  have e3 : (0 : Int) ≤ (l.length : Int) - 1 := by omega
  have e4 : ((l.length : Int) == 0) = false := by simp; rintro rfl; simp at q3
  obtain ⟨fa, fb⟩ := f
  obtain ⟨za, zb⟩ := z
  simp only at q1 q2
  have d1 := wrap_i64 (n := fa - d) (by omega) (by omega)
  have d2 := wrap_i64 (n := zb + d) (by omega) (by omega)
  have n1 : ¬ d < 0 := by omega
  have n2 : ¬ (65536 : Int) < d := by omega
  have n3 : ¬ fa - d < -1048576 := by omega
  have n4 : ¬ (1048576 : Int) < zb + d := by omega
  refine pc_of_awp cx (fn := Tryz.f66) (c := _) Tryz.func66 rfl rfl (Nat.le_of_ble_eq_true rfl) ?_
  rw [Tryz.ntmps66]; refine Nav.imp ?_
  refine awp_region cx [] fun K hK => ?_
  simp [push_cast]
  repeat (refine And.intro (by clear hK; intros; first | omega | (simp_all; done) | (simp_all <;> omega)) ?_)
  refine hK _ ?_; clear hK K; refine Nav.imp ?_
  refine awp_region cx [(1, .p (.bool true))] fun K hK => ?_
  simp [push_cast, c1, n1, n2]
  repeat (refine And.intro (by clear hK; intros; first | omega | (simp_all; done) | (simp_all <;> omega)) ?_)
  refine hK _ ?_; clear hK K; refine Nav.imp ?_
  refine awp_cond (b := false) (by simp [push_cast, n1, n2]) (fun hb => ?_) (fun hb => ?_) <;> (refine Nav.imp ?_)
  · simp at hb
  · refine awp_region cx [] fun K hK => ?_
    simp [push_cast]
    repeat (refine And.intro (by clear hK; intros; first | omega | (simp_all; done) | (simp_all <;> omega)) ?_)
    refine hK _ ?_; clear hK K; refine Nav.imp ?_
    refine awp_cond (b := false) (by simp [push_cast, e4]) (fun hb => ?_) (fun hb => ?_) <;> (refine Nav.imp ?_)
    · simp at hb
    · refine awp_region cx [] fun K hK => ?_
      simp [push_cast, hf0, hz, e1, e2, e3, d1, d2, n3, n4, Run.row]
      repeat (refine And.intro (by clear hK; intros; first | omega | (simp_all; done) | (simp_all <;> omega)) ?_)
      refine hK _ ?_; clear hK K; refine Nav.imp ?_
      refine awp_cond (b := false) (by simp [push_cast, n3, n4]) (fun hb => ?_) (fun hb => ?_) <;> (refine Nav.imp ?_)
      · simp at hb
      · refine awp_region cx [] fun K hK => ?_
        simp [push_cast, hm1, hm2]
        repeat (refine And.intro (by clear hK; intros; first | omega | (simp_all; done) | (simp_all <;> omega)) ?_)
        refine hK _ ?_; clear hK K; refine Nav.imp ?_
        refine awp_region cx [] fun K hK => ?_
        simp [push_cast]
        repeat (refine And.intro (by clear hK; intros; first | omega | (simp_all; done) | (simp_all <;> omega)) ?_)
        refine hK _ ?_; clear hK K; refine Nav.imp ?_
        refine awp_loop (β := Nat × List Run) (fun b => ⟨70, [(1, .d (.int .i64 d)), (6, .hs 0 0 b.2.length), (48, .d (encRuns l)), (49, .d (.int .i64 l.length)), (50, .d (.int .i64 b.1))], [(0, some ⟨42, 2, dr (b.2.map Run.row)⟩)], 1⟩) (fun b => b.1 ≤ l.length ∧ b.2.length = l.length ∧ b.2.take b.1 = (l.take b.1).map (groRun d)) (fun b => l.length - b.1) (0, List.replicate l.length ⟨0, 0⟩) ?_ ⟨Nat.zero_le _, by simp, by simp⟩ ?_
        · have hrep : List.replicate l.length [AV.d (.int .i64 0), AV.d (.int .i64 0)] = dr ((List.replicate l.length (⟨0, 0⟩ : Run)).map Run.row) := by simp [dr, Run.row]
          refine weak_of [(0, some 40)] rfl (by simp [upT, up, upL, push_cast, hrep]) (by simp [upH, upR, upL, up, push_cast, hrep]) (by simp [namesOk, push_cast]) (by simp [olds])
        · rintro ⟨k, Z⟩ ⟨hk, hZl, hZ⟩
          simp only at hk hZl hZ
          refine Nav.imp ?_
          refine awp_region cx [] fun K hK => ?_
          simp [push_cast]
          repeat (refine And.intro (by clear hK; intros; first | omega | (simp_all; done) | (simp_all <;> omega)) ?_)
          refine hK _ ?_; clear hK K; refine Nav.imp ?_
          refine awp_cond (b := decide ((k : Int) < l.length)) (by simp [push_cast]) (fun hb => ?_) (fun hb => ?_) <;> (refine Nav.imp ?_)
          · have hlt : k < l.length := by simpa using hb
            obtain ⟨r, hr⟩ := getq hlt
            have hrb := fine_at hf hr
            have e0 := wrap_i64 (n := (k : Int) + 1) (by omega) (by omega)
            obtain ⟨ra, rb⟩ := r
            simp only at hrb
            have s1 := wrap_i64 (n := ra - d) (by omega) (by omega)
            have s2 := wrap_i64 (n := rb + d) (by omega) (by omega)
            obtain ⟨y, hy⟩ : ∃ y, Z[k]? = some y := getq (by omega)
            obtain ⟨Y, hY⟩ : ∃ Y, Y = Z.set k ⟨ra - d, rb + d⟩ := ⟨_, rfl⟩
            have hset : (dr (Z.map Run.row)).set k [.d (.int .i64 (ra - d)), .d (.int .i64 (rb + d))] = dr (Y.map Run.row) := by rw [hY]; simp [dr, List.map_set]
            have hYl : Y.length = Z.length := by rw [hY]; simp
            have hYt : Y.take (k + 1) = (l.take (k + 1)).map (groRun d) := by
              rw [hY, take_get hr, List.map_append, ← hZ, take_get (x := ⟨ra - d, rb + d⟩) (by rw [List.getElem?_set_self (by omega)]), List.take_set_of_le (by omega)]
              rfl
            clear hY
            refine awp_region cx [] fun K hK => ?_
            simp [push_cast, hr, Run.row]
            repeat (refine And.intro (by clear hK; intros; first | omega | (simp_all; done) | (simp_all <;> omega)) ?_)
            refine hK _ ?_; clear hK K; refine Nav.imp ?_
            refine awp_region cx [] fun K hK => ?_
            simp [push_cast, hy, s1, s2, hset, Run.row]
            repeat (refine And.intro (by clear hK; intros; first | omega | (simp_all; done) | (simp_all <;> omega)) ?_)
            refine hK _ ?_; clear hK K; refine Nav.imp ?_
            refine awp_region cx [] fun K hK => ?_
            simp [push_cast, e0]
            repeat (refine And.intro (by clear hK; intros; first | omega | (simp_all; done) | (simp_all <;> omega)) ?_)
            refine hK _ ?_; clear hK K; refine Nav.imp ?_
            rw [← hYl]
            refine ⟨(k + 1, Y), ⟨hlt, by simp only; omega, hYt⟩, by simp only; omega, ?_⟩
            refine weak_of [(0, some 0)] rfl (by simp [upT, up, upL, push_cast]) (by simp [upH, upR, upL, up, push_cast]) (by simp [namesOk, push_cast]) (by simp [olds])
          · have hge : k = l.length := by simp at hb; omega
            subst hge
            rw [List.take_length, ← hZl, List.take_length] at hZ
            rw [← hZ] at c2
            have ht : List.take Z.length (Z.map Run.row) = Z.map Run.row := List.take_of_length_le (by simp)
            refine awp_freeze 0 (Z.map Run.row) rfl (by simp [push_cast, Run.row, ht]) fun K hK => ?_
            simp [push_cast, St.fz, fzT, fzH, fzO, fz, fzL, fzR, fzR_dr, fzR_app, fzR_set, fzL_map, Run.row, ht]
            refine hK _ ?_; clear hK K; refine Nav.imp ?_
            refine awp_region cx [(1, .p (encRuns res))] fun K hK => ?_
            simp [push_cast, c2, ht]
            repeat (refine And.intro (by clear hK; intros; first | omega | (simp_all; done) | (simp_all <;> omega)) ?_)
            refine hK _ ?_; clear hK K; refine Nav.imp ?_
            simp [push_cast, ht]
end Go.Proofs.YtknelhiejjdioaaGreat

set_option linter.unusedVariables false
set_option linter.unusedSimpArgs false
set_option maxRecDepth 100000
namespace Go.Proofs.YtknelhiejjdioaaGreat
open Go.Abs

/-! What is marked around a region, row by row. -/
def nearStep (g : List Run) (M : List (Int × List Run)) (y : Int) : List (Int × List Run) := putL M y (sweep fU (mget M y) g)
def ysN (y : Int) (K j : Nat) : List Int := (List.range j).map fun i : Nat => y - K + i
def nearRow (K : Nat) (M : List (Int × List Run)) (w : Row) : List (Int × List Run) := (ysN w.y K (2 * K + 1)).foldl (nearStep (groL w.runs K)) M
def nearM (R : List Row) (K : Nat) : List (Int × List Run) := R.foldl (nearRow K) []
theorem ysN_succ (y : Int) (K j : Nat) : ysN y K (j + 1) = ysN y K j ++ [y - K + j] := by simp [ysN, List.range_succ]
theorem nearM_take {R : List Row} {K i : Nat} {w : Row} (h : R[i]? = some w) : nearM (R.take (i + 1)) K = nearRow K (nearM (R.take i) K) w := by simp [nearM, take_get h]
theorem ysN_mem (y : Int) (K : Nat) (z : Int) (j : Nat) : z ∈ ysN y K j ↔ y - K ≤ z ∧ z < y - K + j := by
  simp only [ysN, List.mem_map, List.mem_range]
  constructor
  · rintro ⟨i, hi, rfl⟩; omega
  · intro h; exact ⟨(z - (y - K)).toNat, by omega, by omega⟩
theorem ysN_pw (y : Int) (K j : Nat) : (ysN y K j).Pairwise (· < ·) := by
  simp only [ysN, List.pairwise_map]
  exact List.pairwise_lt_range.imp (fun {a b} h => by omega)

/-- What a map of runs holds. -/
def NI (P : Int → Int → Prop) (M : List (Int × List Run)) : Prop := ∀ y, Apart (mget M y) ∧ (∀ r ∈ mget M y, -4160 ≤ r.a ∧ r.b ≤ 4160) ∧ ∀ x, inR (mget M y) x = true ↔ P y x
theorem NI.nil : NI (fun _ _ => False) [] := fun y => ⟨⟨by simp [mget, getL], by simp [mget, getL]⟩, by simp [mget, getL], by simp [mget, getL, inR]⟩
theorem NI.congr {P Q : Int → Int → Prop} {M : List (Int × List Run)} (h : NI P M) (he : ∀ y x, P y x ↔ Q y x) : NI Q M := fun y => ⟨(h y).1, (h y).2.1, fun x => ((h y).2.2 x).trans (he y x)⟩
theorem NI.step {P : Int → Int → Prop} {M : List (Int × List Run)} (h : NI P M) {g : List Run} (hg : Apart g) (hb : ∀ r ∈ g, -4160 ≤ r.a ∧ r.b ≤ 4160) (z : Int) : NI (fun y x => P y x ∨ (y = z ∧ inR g x = true)) (nearStep g M z) := by
  intro y
  have h1 := h z
  have hs := sweep_facts (f := fU) rfl (apart_rv h1.1 h1.2.1) (apart_rv hg hb)
  unfold nearStep
  rw [mget_put]
  split
  · rename_i e
    subst e
    refine ⟨hs.1, apart_bounds hs.1 fun x hx => ?_, fun x => ?_⟩
    · rw [hs.2] at hx
      simp only [fU, Bool.or_eq_true] at hx
      rcases hx with hx | hx
      · obtain ⟨r, hr, h3, h4⟩ := inR_iff.1 hx; have := h1.2.1 r hr; omega
      · obtain ⟨r, hr, h3, h4⟩ := inR_iff.1 hx; have := hb r hr; omega
    · rw [hs.2]
      simp only [fU, Bool.or_eq_true, true_and, h1.2.2]
  · rename_i e
    refine ⟨(h y).1, (h y).2.1, fun x => ?_⟩
    rw [(h y).2.2]
    simp [e]
theorem NI.fold {g : List Run} (hg : Apart g) (hb : ∀ r ∈ g, -4160 ≤ r.a ∧ r.b ≤ 4160) : ∀ (l : List Int) {P : Int → Int → Prop} {M : List (Int × List Run)}, NI P M → NI (fun y x => P y x ∨ (y ∈ l ∧ inR g x = true)) (l.foldl (nearStep g) M)
  | [], P, M, h => h.congr fun y x => by simp
  | z :: l, P, M, h => (NI.fold hg hb l (h.step hg hb z)).congr fun y x => by
    simp only [List.mem_cons]
    constructor
    · rintro ((h1 | h1) | h1)
      · exact .inl h1
      · exact .inr ⟨.inl h1.1, h1.2⟩
      · exact .inr ⟨.inr h1.1, h1.2⟩
    · rintro (h1 | ⟨h1 | h1, h2⟩)
      · exact .inl (.inl h1)
      · exact .inl (.inr ⟨h1, h2⟩)
      · exact .inr ⟨h1, h2⟩
def nearP (R : List Row) (K : Nat) (y x : Int) : Prop := ∃ w ∈ R, w.y - K ≤ y ∧ y ≤ w.y + K ∧ ∃ r ∈ w.runs, r.a - K ≤ x ∧ x < r.b + K
theorem near_rows {K : Nat} (hK : K ≤ 64) : ∀ (R : List Row) {P : Int → Int → Prop} {M : List (Int × List Run)}, (∀ w ∈ R, fine w.runs = true) → NI P M → NI (fun y x => P y x ∨ nearP R K y x) (R.foldl (nearRow K) M)
  | [], P, M, _, h => h.congr fun y x => by simp [nearP]
  | w :: R, P, M, hf, h => by
    have hw := hf w (by simp)
    obtain ⟨g1, g2, g3⟩ := groL_facts hw (k := K) (by omega)
    refine (near_rows hK R (fun v hv => hf v (by simp [hv])) (NI.fold g1 g2 (ysN w.y K (2 * K + 1)) h)).congr fun y x => ?_
    rw [ysN_mem, g3]
    unfold nearP
    simp only [List.mem_cons, exists_eq_or_imp, or_assoc]
    constructor
    · rintro (h1 | ⟨h1, h2⟩ | h1)
      · exact .inl h1
      · exact .inr (.inl ⟨by omega, by omega, h2⟩)
      · exact .inr (.inr h1)
    · rintro (h1 | ⟨h1, h2, h3⟩ | h1)
      · exact .inl h1
      · exact .inr (.inl ⟨by omega, h3⟩)
      · exact .inr (.inr h1)
theorem near_facts {R : List Row} (hv : validR R = true) {K : Nat} (hK : K ≤ 64) : NI (nearP R K) (nearM R K) :=
  (near_rows hK R (fun w hw => (row_fine hv hw).2) NI.nil).congr fun y x => by simp
/-- .. in the middle of a row. -/
theorem near_mid {R : List Row} (hv : validR R = true) {K : Nat} (hK : K ≤ 64) {i : Nat} {w : Row} (hw : R[i]? = some w) (l : List Int) : ∃ P, NI P (l.foldl (nearStep (groL w.runs K)) (nearM (R.take i) K)) := by
  have h1 := near_rows hK (R.take i) (fun v hv' => (row_fine hv (List.mem_of_mem_take hv')).2) NI.nil
  obtain ⟨g1, g2, _⟩ := groL_facts (row_fine hv (List.mem_of_getElem? hw)).2 (k := K) (by omega)
  exact ⟨_, NI.fold g1 g2 l h1⟩

end Go.Proofs.YtknelhiejjdioaaGreat

set_option linter.unusedVariables false
set_option linter.unusedSimpArgs false
set_option maxRecDepth 100000
namespace Go.Proofs.YtknelhiejjdioaaGreat
open Go.Abs

/-! Regions made row by row of another one. -/
def mapRow (F : Row → List Run) (w : Row) : List Row := if F w = [] then [] else [⟨w.y, F w⟩]
def mapR (F : Row → List Run) (S : List Row) : List Row := S.flatMap (mapRow F)
theorem mapRow_len (F : Row → List Run) (w : Row) : (mapRow F w).length ≤ 1 := by unfold mapRow; split <;> simp
theorem mapRow_mem {F : Row → List Run} {w v : Row} (h : v ∈ mapRow F w) : v = ⟨w.y, F w⟩ ∧ F w ≠ [] := by
  unfold mapRow at h
  split at h
  · simp at h
  · rename_i e; simp at h; exact ⟨h, e⟩
theorem mapR_mem {F : Row → List Run} {S : List Row} {v : Row} (h : v ∈ mapR F S) : ∃ w ∈ S, v = ⟨w.y, F w⟩ ∧ F w ≠ [] := by
  obtain ⟨w, hw, hv⟩ := List.mem_flatMap.1 h
  exact ⟨w, hw, mapRow_mem hv⟩
theorem mapR_len (F : Row → List Run) : ∀ S : List Row, (mapR F S).length ≤ S.length := flat_one_len (mapRow_len F)
theorem mapR_take {F : Row → List Run} {S : List Row} {k : Nat} {w : Row} (h : S[k]? = some w) : mapR F (S.take (k + 1)) = mapR F (S.take k) ++ mapRow F w := flat_take _ h
theorem flat_pw {α β : Type} {P : α → α → Prop} {Q : β → β → Prop} {f : α → List β} (h1 : ∀ a, (f a).length ≤ 1) (h2 : ∀ a b x y, P a b → x ∈ f a → y ∈ f b → Q x y) : ∀ {l : List α}, l.Pairwise P → (l.flatMap f).Pairwise Q
  | [], _ => by simp
  | a :: l, h => by
    obtain ⟨ha, hl⟩ := List.pairwise_cons.1 h
    rw [List.flatMap_cons]
    refine List.pairwise_append.2 ⟨?_, flat_pw h1 h2 hl, fun x hx y hy => ?_⟩
    · have := h1 a
      match h : f a, this with
      | [], _ => simp
      | [x], _ => simp
    · obtain ⟨b, hb, hy⟩ := List.mem_flatMap.1 hy
      exact h2 a b x y (ha b hb) hx hy
theorem mapR_valid {F : Row → List Run} {S : List Row} (hv : validR S = true) (hF : ∀ w ∈ S, F w ≠ [] → fine (F w) = true) : validR (mapR F S) = true := by
  obtain ⟨h1, h2⟩ := validR_pw.1 hv
  refine validR_pw.2 ⟨fun v hv' => ?_, flat_pw (mapRow_len F) (fun a b x y hab hx hy => ?_) h2⟩
  · obtain ⟨w, hw, rfl, hne⟩ := mapR_mem hv'
    exact ⟨(h1 w hw).1, hF w hw hne⟩
  · rw [(mapRow_mem hx).1, (mapRow_mem hy).1]; exact hab
theorem mapR_cells {F : Row → List Run} {S : List Row} {c : Cell} : c ∈ regCells (mapR F S) ↔ ∃ w ∈ S, c.y = w.y ∧ inR (F w) c.x = true := by
  rw [mem_regCells]
  constructor
  · rintro ⟨v, hv, hy, hr⟩
    obtain ⟨w, hw, rfl, _⟩ := mapR_mem hv
    exact ⟨w, hw, hy, inR_iff.2 hr⟩
  · rintro ⟨w, hw, hy, hr⟩
    refine ⟨⟨w.y, F w⟩, List.mem_flatMap.2 ⟨w, hw, ?_⟩, hy, inR_iff.1 hr⟩
    unfold mapRow
    rw [if_neg (by rintro e; rw [e] at hr; simp [inR] at hr)]
    simp
theorem mapR_small {F : Row → List Run} {S : List Row} (hS : smallR S) (hv : validR (mapR F S) = true) : smallR (mapR F S) := by
  refine ⟨Nat.le_trans (mapR_len F S) hS.1, fun w hw => ?_⟩
  obtain ⟨_, h1, h2⟩ := fine_apart.1 (row_fine hv hw).2
  have := apart_len h1 (lo := -4096) (hi := 4096) h2
  omega
/-- What is left of a region where runs are taken away from its rows. -/
def lessF (g : Int → List Run) (w : Row) : List Run := sweep fD w.runs (g w.y)
theorem less_facts {S : List Row} (hv : validR S = true) {g : Int → List Run} (hg : ∀ y, rvalid (g y) = true) : validR (mapR (lessF g) S) = true ∧ ∀ c, c ∈ regCells (mapR (lessF g) S) ↔ c ∈ regCells S ∧ inR (g c.y) c.x = false := by
  have hsw : ∀ w ∈ S, Apart (lessF g w) ∧ ∀ x, inR (lessF g w) x = fD (inR w.runs x) (inR (g w.y) x) := fun w hw => sweep_facts rfl (fine_rv (row_fine hv hw).2) (hg w.y)
  refine ⟨mapR_valid hv fun w hw hne => fine_apart.2 ⟨hne, (hsw w hw).1, apart_bounds (hsw w hw).1 fun x hx => ?_⟩, fun c => ?_⟩
  · rw [(hsw w hw).2] at hx
    simp only [fD, Bool.and_eq_true] at hx
    obtain ⟨r, hr, h1, h2⟩ := inR_iff.1 hx.1
    obtain ⟨_, _, h3⟩ := fine_apart.1 (row_fine hv hw).2
    have := h3 r hr
    omega
  · rw [mapR_cells, mem_regCells]
    constructor
    · rintro ⟨w, hw, hy, hr⟩
      rw [(hsw w hw).2] at hr
      simp only [fD, Bool.and_eq_true, Bool.not_eq_true'] at hr
      exact ⟨⟨w, hw, hy, inR_iff.1 hr.1⟩, by rw [hy]; exact hr.2⟩
    · rintro ⟨⟨w, hw, hy, hr⟩, h2⟩
      refine ⟨w, hw, hy, ?_⟩
      rw [(hsw w hw).2, inR_iff.2 hr, ← hy, h2]
      rfl

/-- What the package calls missing. -/
def missB (S M : List Row) (k : Int) : Bool := validR S && validR M && decide (0 ≤ k) && decide (k ≤ 64)
def missR (S M : List Row) (k : Int) : List Row := if missB S M k then mapR (lessF (mget (nearM M k.toNat))) S else []
theorem miss_facts {S M : List Row} {k : Int} (h : missB S M k = true) : validR (missR S M k) = true ∧ ∀ c, c ∈ regCells (missR S M k) ↔ c ∈ regCells S ∧ ¬ nearP M k.toNat c.y c.x := by
  have e : missR S M k = mapR (lessF (mget (nearM M k.toNat))) S := by unfold missR; rw [if_pos h]
  simp only [missB, Bool.and_eq_true, decide_eq_true_eq] at h
  obtain ⟨⟨⟨h1, h2⟩, h3⟩, h4⟩ := h
  have hn := near_facts h2 (K := k.toNat) (by omega)
  obtain ⟨q1, q2⟩ := less_facts h1 (g := mget (nearM M k.toNat)) fun y => apart_rv (hn y).1 (hn y).2.1
  rw [e]
  refine ⟨q1, fun c => ?_⟩
  rw [q2, ← (hn c.y).2.2 c.x]
  simp
theorem miss_valid (S M : List Row) (k : Int) : validR (missR S M k) = true := by
  cases h : missB S M k with
  | true => exact (miss_facts h).1
  | false => unfold missR; rw [h]; rfl
theorem miss_small {S M : List Row} (hS : smallR S) (k : Int) : smallR (missR S M k) := by
  cases h : missB S M k with
  | true =>
    have hv := (miss_facts h).1
    unfold missR at hv ⊢
    rw [if_pos h] at hv ⊢
    exact mapR_small hS hv
  | false => unfold missR; rw [h]; exact ⟨by simp, by simp⟩

end Go.Proofs.YtknelhiejjdioaaGreat
