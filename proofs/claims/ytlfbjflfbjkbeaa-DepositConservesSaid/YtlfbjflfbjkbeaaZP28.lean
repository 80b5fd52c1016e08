/-
  Texts of this seat put together: P28.
-/
import Derived.Test.YtlfbjflfbjkbeaaJ8
import Derived.Test.YtlfbjflfbjkbeaaJ9
set_option linter.unusedVariables false
set_option linter.unusedSimpArgs false
set_option maxRecDepth 100000
namespace Go.Proofs.Ytlfbjflfbjkbeaa
open Go.Abs Go.ChangeShapes Go.WideShapes Go.ChangeAt Go.RowKit

theorem count_le (R : List Row) : countR R ≤ 67108864 := by
  unfold countR
  split
  · rename_i h; exact grid_len h
  · omega
theorem cellsN_le : ∀ L : List (List Row), cellsN L ≤ L.length * 67108864
  | [] => by simp [cellsN]
  | R :: L => by
    have h1 := cellsN_le L
    have h2 := count_le R
    simp only [cellsN, List.map_cons, List.sum_cons, List.length_cons] at h1 ⊢
    omega
theorem cellsN_next {L : List (List Row)} {i : Nat} {R : List Row} (h : L[i]? = some R) : cellsN (L.take (i + 1)) = cellsN (L.take i) + countR R := by
  rw [take_get h, cellsN_app]
  simp [cellsN]
theorem cells55_ok (L : List (List Row)) (hL : ∀ R ∈ L, smallR R) (hl : L.length ≤ 256) : PC Try.prog 18 [encLays L] (.p (.int .i64 (cellsN L))) := by
  refine pc_of_awp cx (fn := Try.f18) (c := _) Try.func18 rfl rfl (Nat.le_of_ble_eq_true rfl) ?_
  rw [Try.ntmps18]; refine Nav.imp ?_
  refine awp_region cx [] fun K hK => ?_
  simp [push_cast]
  repeat (refine And.intro (by clear hK; intros; first | omega | (simp_all; done) | (simp_all <;> omega)) ?_)
  refine hK _ ?_; clear hK K; refine Nav.imp ?_
  refine awp_region cx [] fun K hK => ?_
  simp [push_cast]
  repeat (refine And.intro (by clear hK; intros; first | omega | (simp_all; done) | (simp_all <;> omega)) ?_)
  refine hK _ ?_; clear hK K; refine Nav.imp ?_
  refine awp_region cx [] fun K hK => ?_
  simp [push_cast]
  repeat (refine And.intro (by clear hK; intros; first | omega | (simp_all; done) | (simp_all <;> omega)) ?_)
  refine hK _ ?_; clear hK K; refine Nav.imp ?_
  refine awp_loop (β := Nat × Nat) (fun z => ⟨19, [(0, .d (encLays L)), (3, .d (.int .i64 z.2)), (4, .d (.int .i64 z.1))], [], 0⟩) (fun z => z.1 ≤ L.length ∧ z.2 = cellsN (L.take z.1)) (fun z => L.length - z.1) (0, 0) ?_ ⟨Nat.zero_le _, by simp [cellsN]⟩ ?_
  · refine weak_of [] rfl (by simp [upT, up, upL, push_cast]) (by simp [upH, upR, upL, up, push_cast]) (by simp [namesOk, push_cast]) (by simp [olds])
  · rintro ⟨i, n⟩ ⟨hi, hn⟩
    simp only at hi hn
    refine Nav.imp ?_
    refine awp_region cx [] fun K hK => ?_
    simp [push_cast]
    repeat (refine And.intro (by clear hK; intros; first | omega | (simp_all; done) | (simp_all <;> omega)) ?_)
    refine hK _ ?_; clear hK K; refine Nav.imp ?_
    refine awp_cond (b := decide (i < L.length)) (by simp [push_cast]) (fun hb => ?_) (fun hb => ?_) <;> (refine Nav.imp ?_)
    · have hlt : i < L.length := by simpa using hb
      obtain ⟨R, hR⟩ := getq hlt
      have c1 := count_ok R (hL R (List.mem_of_getElem? hR))
      have e0 := wrap_i64 (n := (i : Int) + 1) (by omega) (by omega)
      have hnx := cellsN_next hR
      rw [← hn] at hnx
      have b1 := cellsN_le (L.take i)
      have b2 := count_le R
      rw [← hn] at b1
      rw [List.length_take] at b1
      have b3 : n ≤ 256 * 67108864 := Nat.le_trans b1 (Nat.mul_le_mul_right _ (by omega))
      generalize countR R = k at *
      have e1 := wrap_i64 (n := (n : Int) + (k : Nat)) (by omega) (by omega)
      refine awp_region cx [(5, .p (.int .i64 k))] fun K hK => ?_
      simp [push_cast, hR, c1, e1]
      repeat (refine And.intro (by clear hK; intros; first | omega | (simp_all; done) | (simp_all <;> omega)) ?_)
      refine hK _ ?_; clear hK K; refine Nav.imp ?_
      refine awp_region cx [] fun K hK => ?_
      simp [push_cast, e0]
      repeat (refine And.intro (by clear hK; intros; first | omega | (simp_all; done) | (simp_all <;> omega)) ?_)
      refine hK _ ?_; clear hK K; refine Nav.imp ?_
      refine ⟨(i + 1, n + k), ⟨hlt, hnx.symm⟩, by simp only; omega, ?_⟩
      refine weak_of [] rfl (by simp [upT, up, upL, push_cast]) (by simp [upH, upR, upL, up, push_cast]) (by simp [namesOk, push_cast]) (by simp [olds])
    · have hie : i = L.length := by simp at hb; omega
      subst hie
      rw [List.take_length] at hn
      subst hn
      refine awp_region cx [] fun K hK => ?_
      simp [push_cast]
      repeat (refine And.intro (by clear hK; intros; first | omega | (simp_all; done) | (simp_all <;> omega)) ?_)
      refine hK _ ?_; clear hK K; refine Nav.imp ?_
      simp [push_cast]
theorem balance_ok (b : Bench) (hv : validE b = true) : PC Try.prog 16 [.agg b.row] (.p (.int .i64 (balB b))) := by
  obtain ⟨_, _, _, h1, h2, h3, h4⟩ := valid_facts hv
  have e1 := wrap_i64 (n := b.real.s + b.drawn) (by omega) (by omega)
  have e2 := wrap_i64 (n := b.real.s + b.drawn + b.filament) (by omega) (by omega)
  have e3 := wrap_i64 (n := b.real.s + b.drawn + b.filament - b.dry) (by omega) (by omega)
  refine pc_of_awp cx (fn := Try.f16) (c := _) Try.func16 rfl rfl (Nat.le_of_ble_eq_true rfl) ?_
  rw [Try.ntmps16]; refine Nav.imp ?_
  refine awp_region cx [] fun K hK => ?_
  simp [push_cast]
  repeat (refine And.intro (by clear hK; intros; first | omega | (simp_all; done) | (simp_all <;> omega)) ?_)
  refine hK _ ?_; clear hK K; refine Nav.imp ?_
  refine awp_region cx [] fun K hK => ?_
  simp [push_cast, e1, e2, e3]
  repeat (refine And.intro (by clear hK; intros; first | omega | (simp_all; done) | (simp_all <;> omega)) ?_)
  refine hK _ ?_; clear hK K; refine Nav.imp ?_
  simp [push_cast, balB]
set_option maxHeartbeats 8000000 in
theorem dconserves_ok (b : Bench) (m : Mach) (s : Sett) (l : List Pos) : PC Try.prog 6 [.agg b.row, .agg m.row, .agg s.row, .sl (l.map Pos.row)] (.p (.bool true)) := by
  have c0 := awake55_ok
  have c1 := few_ok b
  have hS := few_small b
  generalize fewB b = B0 at *
  have c2 := valid55_ok B0 hS
  refine pc_of_awp cx (fn := Try.f6) (c := _) Try.func6 rfl rfl (Nat.le_of_ble_eq_true rfl) ?_
  rw [Try.ntmps6]; refine Nav.imp ?_
  refine awp_region cx [] fun K hK => ?_
  simp [push_cast]
  repeat (refine And.intro (by clear hK; intros; first | omega | (simp_all; done) | (simp_all <;> omega)) ?_)
  refine hK _ ?_; clear hK K; refine Nav.imp ?_
  refine awp_region cx [(1, .p (.agg B0.row))] fun K hK => ?_
  simp [push_cast, c1]
  repeat (refine And.intro (by clear hK; intros; first | omega | (simp_all; done) | (simp_all <;> omega)) ?_)
  refine hK _ ?_; clear hK K; refine Nav.imp ?_
  cases hv0 : validE B0 with
  | false =>
    rw [hv0] at c2
    refine awp_region cx [(1, .p (.bool false))] fun K hK => ?_
    simp [push_cast, c2]
    repeat (refine And.intro (by clear hK; intros; first | omega | (simp_all; done) | (simp_all <;> omega)) ?_)
    refine hK _ ?_; clear hK K; refine Nav.imp ?_
    refine awp_cond (b := true) (by simp [push_cast]) (fun hb => ?_) (fun hb => ?_) <;> (refine Nav.imp ?_)
    · refine awp_region cx [(0, .p (.bool true))] fun K hK => ?_
      simp [push_cast, c0]
      repeat (refine And.intro (by clear hK; intros; first | omega | (simp_all; done) | (simp_all <;> omega)) ?_)
      refine hK _ ?_; clear hK K; refine Nav.imp ?_
      simp [push_cast]
    · simp at hb
  | true =>
  rw [hv0] at c2
  have c3 := balance_ok B0 hv0
  have hs0 : balB B0 = balB B0 := rfl
  generalize hsum : balB B0 = sum at c3 hs0
  clear hs0
  refine awp_region cx [(1, .p (.bool true))] fun K hK => ?_
  simp [push_cast, c2]
  repeat (refine And.intro (by clear hK; intros; first | omega | (simp_all; done) | (simp_all <;> omega)) ?_)
  refine hK _ ?_; clear hK K; refine Nav.imp ?_
  refine awp_cond (b := false) (by simp [push_cast]) (fun hb => ?_) (fun hb => ?_) <;> (refine Nav.imp ?_)
  · simp at hb
  · refine awp_region cx [(1, .p (.int .i64 sum))] fun K hK => ?_
    simp [push_cast, c3]
    repeat (refine And.intro (by clear hK; intros; first | omega | (simp_all; done) | (simp_all <;> omega)) ?_)
    refine hK _ ?_; clear hK K; refine Nav.imp ?_
    refine awp_region cx [] fun K hK => ?_
    simp [push_cast]
    repeat (refine And.intro (by clear hK; intros; first | omega | (simp_all; done) | (simp_all <;> omega)) ?_)
    refine hK _ ?_; clear hK K; refine Nav.imp ?_
    refine awp_loop (β := Bench × Nat) (fun z => ⟨131, [(3, .d (.sl (l.map Pos.row))), (4, .ptr 0 0 0), (5, .ptr 1 0 0), (6, .ptr 2 0 0), (9, .d (.int .i64 sum)), (10, .d (.int .i64 z.2))], [(0, some ⟨43, 22, [z.1.row.map .d]⟩), (1, some ⟨26, 30, [m.row.map .d]⟩), (2, some ⟨28, 20, [s.row.map .d]⟩)], 3⟩) (fun z => z.2 ≤ 40 ∧ validE z.1 = true ∧ balB z.1 = sum) (fun z => 40 - z.2) (B0, 0) ?_ ⟨Nat.zero_le _, hv0, hsum⟩ ?_
    · refine weak_of [(0, some 0), (1, some 1), (2, some 2)] rfl (by simp [upT, up, upL, push_cast]) (by simp [upH, upR, upL, up, push_cast]) (by simp [namesOk, push_cast]) (by simp [olds])
    · clear c1 c2 c3 hS hv0 hsum
      rintro ⟨B, i⟩ ⟨hi, hv, hbal⟩
      simp only at hi hv hbal
      refine Nav.imp ?_
      refine awp_region cx [] fun K hK => ?_
      simp [push_cast]
      repeat (refine And.intro (by clear hK; intros; first | omega | (simp_all; done) | (simp_all <;> omega)) ?_)
      refine hK _ ?_; clear hK K; refine Nav.imp ?_
      refine awp_cond (b := decide (i < l.length) && decide ((i : Int) < 40)) (by simp [push_cast]) (fun hb => ?_) (fun hb => ?_) <;> (refine Nav.imp ?_)
      · obtain ⟨hlt, hl40⟩ : i < l.length ∧ i < 40 := by simp at hb; omega
        obtain ⟨p, hp⟩ := getq hlt
        have e0 := wrap_i64 (n := (i : Int) + 1) (by omega) (by omega)
        obtain ⟨hLv, hLl, _⟩ := valid_facts hv
        have hS : smallL B.lays := ⟨by omega, fun R hR => small_valid (hLv R hR)⟩
        have c1 := pulse_ok B m s p hS
        have hS2 := pulse_small m s p hS
        have hv2 := pulse_valid m s p hv
        have hb2 := pulse_bal B m s p
        obtain ⟨t1, t2, t3⟩ := pulse_mat m s p hv
        generalize pulseB B m s p = A at *
        obtain ⟨hAv, hAl, _⟩ := valid_facts hv2
        have c2 := valid55_ok A hS2
        rw [hv2] at c2
        have c3 := balance_ok A hv2
        rw [hb2, hbal] at c3
        rw [hbal] at hb2
        have c4 := cells55_ok A.lays hS2.2 hAl
        have c5 := cells55_ok B.lays hS.2 hLl
        have n1 := cellsN_le A.lays
        have n2 := cellsN_le B.lays
        have n3 : cellsN A.lays ≤ 256 * 67108864 := Nat.le_trans n1 (Nat.mul_le_mul_right _ hAl)
        have n4 : cellsN B.lays ≤ 256 * 67108864 := Nat.le_trans n2 (Nat.mul_le_mul_right _ hLl)
        clear n1 n2
        have c6 := under_ok m s A.real
        unfold underD at c6
        generalize underC m s A.real = c at *
        generalize underL m s A.real = ly at *
        have q1 : decide (A.lays.length < B.lays.length) = false := by simp; omega
        refine awp_region_draw cx mixed [(7, .p (.agg A.row))] fun K hK => ?_
        simp [push_cast, hp, c1]
        repeat (refine And.intro (by clear hK; intros; first | omega | (simp_all; done) | (simp_all <;> omega)) ?_)
        refine hK _ _ (by kernel_rfl) ?_; clear hK K; refine Nav.imp ?_
        refine awp_region cx [(1, .p (.bool true)), (5, .p (.int .i64 sum))] fun K hK => ?_
        simp [push_cast, c2, c3, q1]
        repeat (refine And.intro (by clear hK; intros; first | omega | (simp_all; done) | (simp_all <;> omega)) ?_)
        refine hK _ ?_; clear hK K; refine Nav.imp ?_
        refine awp_cond (b := false) (by simp [push_cast]) (fun hb => ?_) (fun hb => ?_) <;> (refine Nav.imp ?_)
        · simp at hb
        · refine awp_region cx [] fun K hK => ?_
          simp [push_cast]
          repeat (refine And.intro (by clear hK; intros; first | omega | (simp_all; done) | (simp_all <;> omega)) ?_)
          refine hK _ ?_; clear hK K; refine Nav.imp ?_
          refine awp_loop (β := Nat) (fun k => ⟨131, [(3, .d (.sl (l.map Pos.row))), (4, .ptr 0 0 0), (5, .ptr 1 0 0), (6, .ptr 2 0 0), (9, .d (.int .i64 sum)), (10, .d (.int .i64 i)), (11, .ptr 3 0 0), (12, .d (.int .i64 k))], [(0, some ⟨43, 22, [B.row.map .d]⟩), (1, some ⟨26, 30, [m.row.map .d]⟩), (2, some ⟨28, 20, [s.row.map .d]⟩), (3, some ⟨43, 22, [A.row.map .d]⟩)], 4⟩) (fun k => k ≤ B.lays.length) (fun k => B.lays.length - k) 0 ?_ (Nat.zero_le _) ?_
          · refine weak_of [(0, some 0), (1, some 1), (2, some 2), (3, some 19)] rfl (by simp [upT, up, upL, push_cast]) (by simp [upH, upR, upL, up, push_cast]) (by simp [namesOk, push_cast]) (by simp [olds])
          · rintro k hk
            refine Nav.imp ?_
            refine awp_region cx [] fun K hK => ?_
            simp [push_cast]
            repeat (refine And.intro (by clear hK; intros; first | omega | (simp_all; done) | (simp_all <;> omega)) ?_)
            refine hK _ ?_; clear hK K; refine Nav.imp ?_
            refine awp_cond (b := decide (k < B.lays.length)) (by simp [push_cast]) (fun hb => ?_) (fun hb => ?_) <;> (refine Nav.imp ?_)
            · have hlk : k < B.lays.length := by simpa using hb
              obtain ⟨R, hR⟩ := getq hlk
              obtain ⟨S, hSk, hw⟩ := t2 k R hR
              have e1 := wrap_i64 (n := (k : Int) + 1) (by omega) (by omega)
              have c7 := withinR_ok R S (hS.2 R (List.mem_of_getElem? hR)) (hS2.2 S (List.mem_of_getElem? hSk))
              rw [hw] at c7
              refine awp_region_draw cx mixed [(10, .p (.bool true))] fun K hK => ?_
              simp [push_cast, hR, hSk, c7]
              repeat (refine And.intro (by clear hK; intros; first | omega | (simp_all; done) | (simp_all <;> omega)) ?_)
              refine hK _ _ (by kernel_rfl) ?_; clear hK K; refine Nav.imp ?_
              refine awp_cond (b := false) (by simp [push_cast]) (fun hb => ?_) (fun hb => ?_) <;> (refine Nav.imp ?_)
              · simp at hb
              · refine awp_region cx [] fun K hK => ?_
                simp [push_cast, e1]
                repeat (refine And.intro (by clear hK; intros; first | omega | (simp_all; done) | (simp_all <;> omega)) ?_)
                refine hK _ ?_; clear hK K; refine Nav.imp ?_
                refine ⟨k + 1, hlk, by omega, ?_⟩
                refine weak_of [(0, some 0), (1, some 1), (2, some 2), (3, some 3)] rfl (by simp [upT, up, upL, push_cast]) (by simp [upH, upR, upL, up, push_cast]) (by simp [namesOk, push_cast]) (by simp [olds])
            · have w1 := wrap_i64 (n := (cellsN A.lays : Int) - (cellsN B.lays : Int)) (by omega) (by omega)
              rcases t3 with t3 | ⟨t3, ts, nl, hnl, hnl2, U, hU, hcU⟩
              · rw [t3] at c4 w1
                generalize cellsN B.lays = nb at *
                have w2 : (nb : Int) - (nb : Int) = 0 := by omega
                rw [w2] at w1
                refine awp_region_draw cx mixed [(2, .p (.int .i64 nb)), (5, .p (.int .i64 nb))] fun K hK => ?_
                simp [push_cast, c4, c5, w1, w2]
                repeat (refine And.intro (by clear hK; intros; first | omega | (simp_all; done) | (simp_all <;> omega)) ?_)
                refine hK _ _ (by kernel_rfl) ?_; clear hK K; refine Nav.imp ?_
                refine awp_region cx [(4, .p (.tup [.agg c.row, .int .i64 ly]))] fun K hK => ?_
                simp [push_cast, c6, Cell.row]
                repeat (refine And.intro (by clear hK; intros; first | omega | (simp_all; done) | (simp_all <;> omega)) ?_)
                refine hK _ ?_; clear hK K; refine Nav.imp ?_
                refine awp_region_draw cx mixed [(27, .skip), (28, .skip), (30, .skip)] fun K hK => ?_
                simp [push_cast, hp]
                repeat (refine And.intro (by clear hK; intros; first | omega | (simp_all; done) | (simp_all <;> omega)) ?_)
                refine hK _ _ (by kernel_rfl) ?_; clear hK K; refine Nav.imp ?_
                refine awp_cond (b := false) (by simp [push_cast]) (fun hb => ?_) (fun hb => ?_) <;> (refine Nav.imp ?_)
                · simp at hb
                · refine awp_region cx [] fun K hK => ?_
                  simp [push_cast]
                  repeat (refine And.intro (by clear hK; intros; first | omega | (simp_all; done) | (simp_all <;> omega)) ?_)
                  refine hK _ ?_; clear hK K; refine Nav.imp ?_
                  refine awp_region cx [] fun K hK => ?_
                  simp [push_cast, e0]
                  repeat (refine And.intro (by clear hK; intros; first | omega | (simp_all; done) | (simp_all <;> omega)) ?_)
                  refine hK _ ?_; clear hK K; refine Nav.imp ?_
                  refine ⟨(A, i + 1), ⟨by simp only; omega, hv2, hb2⟩, by simp only; omega, ?_⟩
                  refine weak_of [(0, some 0), (1, some 1), (2, some 2)] rfl (by simp [upT, up, upL, push_cast]) (by simp [upH, upR, upL, up, push_cast]) (by simp [namesOk, push_cast]) (by simp [olds])
              · subst hnl
                have c7 := contains_ok U c (hS2.2 U (List.mem_of_getElem? hU))
                rw [hcU] at c7
                rw [t3] at c4 w1
                generalize cellsN B.lays = nb at *
                have w2 : ((nb + 1 : Nat) : Int) - (nb : Int) = 1 := by omega
                rw [w2] at w1
                have w3 : (nb : Int) + 1 - (nb : Int) = 1 := by omega
                have w4 : IntKind.i64.wrap 1 = 1 := by decide
                have q2 : decide ((nl : Int) < 0) = false := by simp
                have q3 : decide (A.lays.length ≤ nl) = false := by simp; omega
                have q4 : (p.s == 1) = true := by simp [ts]
                refine awp_region_draw cx mixed [(2, .p (.int .i64 (nb + 1 : Nat))), (5, .p (.int .i64 nb))] fun K hK => ?_
                simp [push_cast, c4, c5, w1, w2, w3, w4]
                repeat (refine And.intro (by clear hK; intros; first | omega | (simp_all; done) | (simp_all <;> omega)) ?_)
                refine hK _ _ (by kernel_rfl) ?_; clear hK K; refine Nav.imp ?_
                refine awp_region cx [(4, .p (.tup [.agg c.row, .int .i64 nl]))] fun K hK => ?_
                simp [push_cast, c6, Cell.row]
                repeat (refine And.intro (by clear hK; intros; first | omega | (simp_all; done) | (simp_all <;> omega)) ?_)
                refine hK _ ?_; clear hK K; refine Nav.imp ?_
                refine awp_region_draw cx mixed [(30, .p (.bool true))] fun K hK => ?_
                simp [push_cast, hp, q2, q3, q4, ts, hU, c7, Cell.row]
                repeat (refine And.intro (by clear hK; intros; first | omega | (simp_all; done) | (simp_all <;> omega)) ?_)
                refine hK _ _ (by kernel_rfl) ?_; clear hK K; refine Nav.imp ?_
                refine awp_cond (b := false) (by simp [push_cast]) (fun hb => ?_) (fun hb => ?_) <;> (refine Nav.imp ?_)
                · simp at hb
                · refine awp_region cx [] fun K hK => ?_
                  simp [push_cast]
                  repeat (refine And.intro (by clear hK; intros; first | omega | (simp_all; done) | (simp_all <;> omega)) ?_)
                  refine hK _ ?_; clear hK K; refine Nav.imp ?_
                  refine awp_region cx [] fun K hK => ?_
                  simp [push_cast, e0]
                  repeat (refine And.intro (by clear hK; intros; first | omega | (simp_all; done) | (simp_all <;> omega)) ?_)
                  refine hK _ ?_; clear hK K; refine Nav.imp ?_
                  refine ⟨(A, i + 1), ⟨by simp only; omega, hv2, hb2⟩, by simp only; omega, ?_⟩
                  refine weak_of [(0, some 0), (1, some 1), (2, some 2)] rfl (by simp [upT, up, upL, push_cast]) (by simp [upH, upR, upL, up, push_cast]) (by simp [namesOk, push_cast]) (by simp [olds])
      · refine awp_region cx [(0, .p (.bool true))] fun K hK => ?_
        simp [push_cast, c0]
        repeat (refine And.intro (by clear hK; intros; first | omega | (simp_all; done) | (simp_all <;> omega)) ?_)
        refine hK _ ?_; clear hK K; refine Nav.imp ?_
        simp [push_cast]
set_option maxRecDepth 100000 in
theorem depositConserves_lifted (os : Os) (started : os.Started) (H : Type) (enc : TypeId × Value → H) :
    ReturnsInHanded {} Try.checked os 6 .any (Rows.depositConservesSpec.pre6 enc Try.prog Try.f6 Rows.depositConservesRow.domain false) (Rows.depositConservesSpec.post enc Try.prog Try.f6 false true false false) := by
  refine returnsInHanded_of_change (C := Try.checked) own started (by kernel_rfl) Try.func6
    (ChangeSpec.witness6 (enc := enc) (C := Try.checked) false ⟨#[], #[zeroBench, zeroMach, zeroSett, (.slice none 0 0)], []⟩ 8 (by kernel_rfl) (by kernel_rfl) (by kernel_rfl) (by kernel_rfl)) ?_
  intro W base args ds gs before hval hW _ _
  exact law_contract rfl (fun ds h => by match ds, h with | [a0, a1, a2, a3], _ => rfl) laidOut (by simp only [Try.params6]; intro t ht; simp at ht; rcases ht with rfl | rfl | rfl | rfl <;> exact ⟨by kernel_rfl, of_decide_eq_true (by kernel_rfl)⟩) (by kernel_rfl) rfl Try.underlying4
    (fun xs hx => by
      simp only [Try.params6, hasVs] at hx
      obtain ⟨x0, r0, rfl, h0, x1, r1, rfl, h1, x2, r2, rfl, h2, x3, r3, rfl, h3, rfl⟩ := hx
      obtain ⟨b, rfl⟩ := arg_bench h0
      obtain ⟨m, rfl⟩ := arg_mach h1
      obtain ⟨s, rfl⟩ := arg_sett h2
      obtain ⟨l, rfl⟩ := arg_poss h3
      exact dconserves_ok b m s l) W base args ds gs before hval hW

theorem depositConserves_holds : Rows.DepositConservesSaid :=
  OpenClaim.holds_of_wide 6 Try.f6 rfl rfl rfl rfl rfl rfl rfl ⟨rfl, rfl, rfl, rfl, rfl⟩ rfl rfl rfl rfl rfl (by kernel_rfl) Try.func6 (by kernel_rfl)
    (of_decide_eq_true (by kernel_rfl)) (by unfold Func.isWrapper; first | (rw [if_pos (by decide +kernel)]; kernel_rfl) | (rw [if_neg (by decide +kernel)]; exact ⟨rfl, rfl⟩))
    (fun os started H enc _ => depositConserves_lifted os started H enc)

end Go.Proofs.Ytlfbjflfbjkbeaa
