/-
  Texts of this seat put together: BB2, X8.
-/
import Derived.Test.YtdddknniooimmaaGreatI13
import Derived.Test.YtdddknniooimmaaGreatI5
import Derived.Test.YtdddknniooimmaaGreatI6
set_option linter.unusedVariables false
set_option linter.unusedSimpArgs false
set_option maxRecDepth 100000
namespace Go.Proofs.YtdddknniooimmaaGreat
open Go.Abs

theorem cut22_ok (x : Int) : PC Tryz.prog 94 [.int .i64 x] (.p (.int .i64 (cutC x))) := by
  by_cases h1 : x < -4096
  · have hC : cutC x = x := by unfold cutC; rw [if_pos (.inl h1)]
    refine pc_of_awp cx (fn := Tryz.f94) (c := _) Tryz.func94 rfl rfl (Nat.le_of_ble_eq_true rfl) ?_
    rw [Tryz.ntmps94]; refine Nav.imp ?_
    refine awp_region cx [] fun K hK => ?_
    simp [push_cast]
    repeat (refine And.intro (by clear hK; intros; first | omega | (simp_all; done) | (simp_all <;> omega)) ?_)
    refine hK _ ?_; clear hK K; refine Nav.imp ?_
    refine awp_region cx [] fun K hK => ?_
    simp [push_cast, h1]
    repeat (refine And.intro (by clear hK; intros; first | omega | (simp_all; done) | (simp_all <;> omega)) ?_)
    refine hK _ ?_; clear hK K; refine Nav.imp ?_
    refine awp_cond (b := true) (by simp [push_cast, h1]) (fun hb => ?_) (fun hb => ?_) <;> (refine Nav.imp ?_)
    · refine awp_region cx [] fun K hK => ?_
      simp [push_cast]
      repeat (refine And.intro (by clear hK; intros; first | omega | (simp_all; done) | (simp_all <;> omega)) ?_)
      refine hK _ ?_; clear hK K; refine Nav.imp ?_
      simp [push_cast, hC]
    · simp at hb
  · by_cases h2 : 4096 < x
    · have hC : cutC x = x := by unfold cutC; rw [if_pos (.inr h2)]
      refine pc_of_awp cx (fn := Tryz.f94) (c := _) Tryz.func94 rfl rfl (Nat.le_of_ble_eq_true rfl) ?_
      rw [Tryz.ntmps94]; refine Nav.imp ?_
      refine awp_region cx [] fun K hK => ?_
      simp [push_cast]
      repeat (refine And.intro (by clear hK; intros; first | omega | (simp_all; done) | (simp_all <;> omega)) ?_)
      refine hK _ ?_; clear hK K; refine Nav.imp ?_
      refine awp_region cx [] fun K hK => ?_
      simp [push_cast, h1, h2]
      repeat (refine And.intro (by clear hK; intros; first | omega | (simp_all; done) | (simp_all <;> omega)) ?_)
      refine hK _ ?_; clear hK K; refine Nav.imp ?_
      refine awp_cond (b := true) (by simp [push_cast, h1, h2]) (fun hb => ?_) (fun hb => ?_) <;> (refine Nav.imp ?_)
      · refine awp_region cx [] fun K hK => ?_
        simp [push_cast]
        repeat (refine And.intro (by clear hK; intros; first | omega | (simp_all; done) | (simp_all <;> omega)) ?_)
        refine hK _ ?_; clear hK K; refine Nav.imp ?_
        simp [push_cast, hC]
      · simp at hb
    · have hC : cutC x = x.tmod 13 := by unfold cutC; rw [if_neg (by omega)]
      have b1 := Int.tmod_lt_of_pos x (b := 13) (by omega)
      have b2 := Int.lt_tmod_of_pos x (b := 13) (by omega)
      have w := wrap_i64 (n := x.tmod 13) (by omega) (by omega)
      refine pc_of_awp cx (fn := Tryz.f94) (c := _) Tryz.func94 rfl rfl (Nat.le_of_ble_eq_true rfl) ?_
      rw [Tryz.ntmps94]; refine Nav.imp ?_
      refine awp_region cx [] fun K hK => ?_
      simp [push_cast]
      repeat (refine And.intro (by clear hK; intros; first | omega | (simp_all; done) | (simp_all <;> omega)) ?_)
      refine hK _ ?_; clear hK K; refine Nav.imp ?_
      refine awp_region cx [] fun K hK => ?_
      simp [push_cast, h1, h2]
      repeat (refine And.intro (by clear hK; intros; first | omega | (simp_all; done) | (simp_all <;> omega)) ?_)
      refine hK _ ?_; clear hK K; refine Nav.imp ?_
      refine awp_cond (b := false) (by simp [push_cast, h1, h2]) (fun hb => ?_) (fun hb => ?_) <;> (refine Nav.imp ?_)
      · simp at hb
      · refine awp_region cx [] fun K hK => ?_
        simp [push_cast, w]
        repeat (refine And.intro (by clear hK; intros; first | omega | (simp_all; done) | (simp_all <;> omega)) ?_)
        refine hK _ ?_; clear hK K; refine Nav.imp ?_
        simp [push_cast, hC]
set_option maxHeartbeats 4000000 in
theorem near22_ok (l : List (List Cell)) : PC Tryz.prog 36 [encPs l] (.p (encPs (nearL l))) := by
  refine pc_of_awp cx (fn := Tryz.f36) (c := _) Tryz.func36 rfl rfl (Nat.le_of_ble_eq_true rfl) ?_
  rw [Tryz.ntmps36]; refine Nav.imp ?_
  refine awp_region cx [] fun K hK => ?_
  simp [push_cast]
  repeat (refine And.intro (by clear hK; intros; first | omega | (simp_all; done) | (simp_all <;> omega)) ?_)
  refine hK _ ?_; clear hK K; refine Nav.imp ?_
  refine awp_region cx [] fun K hK => ?_
  simp [push_cast]
  repeat (refine And.intro (by clear hK; intros; first | omega | (simp_all; done) | (simp_all <;> omega)) ?_)
  refine hK _ ?_; clear hK K; refine Nav.imp ?_
  refine awp_region cx [] fun K hK => ?_
  simp [push_cast]
  repeat (refine And.intro (by clear hK; intros; first | omega | (simp_all; done) | (simp_all <;> omega)) ?_)
  refine hK _ ?_; clear hK K; refine Nav.imp ?_
  refine awp_loop (β := Nat × List (List Cell)) (fun b => ⟨62, [(0, .d (encPs l)), (3, .hs 0 0 b.2.length), (4, .d (.int .i64 b.1))], [(0, some ⟨55, 1, dr (b.2.map polyRow)⟩)], 1⟩) (fun b => b.1 ≤ l.length ∧ b.1 ≤ 5 ∧ b.2 = (l.take b.1).map nearF) (fun b => l.length - b.1) (0, []) ?_ ⟨Nat.zero_le _, by omega, by simp⟩ ?_
  · refine weak_of [(0, none)] rfl (by simp [upT, up, upL, push_cast]) (by simp [upH, upR, upL, up, push_cast]) (by simp [namesOk, push_cast]) (by simp [olds])
  · rintro ⟨k, out⟩ ⟨hk, hk2, hout⟩
    simp only at hk hk2 hout
    refine Nav.imp ?_
    refine awp_region cx [] fun K hK => ?_
    simp [push_cast]
    repeat (refine And.intro (by clear hK; intros; first | omega | (simp_all; done) | (simp_all <;> omega)) ?_)
    refine hK _ ?_; clear hK K; refine Nav.imp ?_
    refine awp_cond (by simp [push_cast] <;> exact rfl) (fun hb => ?_) (fun hb => ?_) <;> (refine Nav.imp ?_)
    · simp at hb
      obtain ⟨hlt, h5⟩ := hb
      obtain ⟨P, hP⟩ := getq hlt
      have e0 := wrap_i64 (n := (k : Int) + 1) (by omega) (by omega)
      have hnext : (l.take (k + 1)).map nearF = (l.take k).map nearF ++ [nearF P] := by rw [take_get hP]; simp
      have hol : out.length ≤ 5 := by rw [hout]; simp; omega
      have ho24 : (out.length + 1) * 24 ≤ 140737488355328 := by omega
      refine awp_region cx [] fun K hK => ?_
      simp [push_cast]
      repeat (refine And.intro (by clear hK; intros; first | omega | (simp_all; done) | (simp_all <;> omega)) ?_)
      refine hK _ ?_; clear hK K; refine Nav.imp ?_
      refine awp_region cx [] fun K hK => ?_
      simp [push_cast]
      repeat (refine And.intro (by clear hK; intros; first | omega | (simp_all; done) | (simp_all <;> omega)) ?_)
      refine hK _ ?_; clear hK K; refine Nav.imp ?_
      refine awp_loop (β := Nat × List Cell) (fun b => ⟨62, [(0, .d (encPs l)), (3, .hs 0 0 out.length), (4, .d (.int .i64 k)), (5, .ptr 1 0 0), (6, .d (.int .i64 b.1))], [(0, some ⟨55, 1, dr (out.map polyRow)⟩), (1, some ⟨55, 1, [[.hs 2 0 b.2.length]]⟩), (2, some ⟨58, 2, dr (b.2.map Cell.row)⟩)], 3⟩) (fun b => b.1 ≤ P.length ∧ b.1 ≤ 12 ∧ b.2 = (P.take b.1).map fun p => ⟨cutC p.x, cutC p.y⟩) (fun b => P.length - b.1) (0, []) ?_ ⟨Nat.zero_le _, by omega, by simp⟩ ?_
      · refine weak_of [(0, some 0), (1, some 9), (2, none)] rfl (by simp [upT, up, upL, push_cast]) (by simp [upH, upR, upL, up, push_cast]) (by simp [namesOk, push_cast]) (by simp [olds])
      · rintro ⟨j, L⟩ ⟨hj, hj2, hL⟩
        simp only at hj hj2 hL
        refine Nav.imp ?_
        refine awp_region cx [] fun K hK => ?_
        simp [push_cast, hP]
        repeat (refine And.intro (by clear hK; intros; first | omega | (simp_all; done) | (simp_all <;> omega)) ?_)
        refine hK _ ?_; clear hK K; refine Nav.imp ?_
        refine awp_cond (by simp [push_cast] <;> exact rfl) (fun hb => ?_) (fun hb => ?_) <;> (refine Nav.imp ?_)
        · simp at hb
          obtain ⟨hjl, h12⟩ := hb
          obtain ⟨p, hp⟩ := getq hjl
          have e1 := wrap_i64 (n := (j : Int) + 1) (by omega) (by omega)
          have hLl : L.length ≤ 12 := by rw [hL]; simp; omega
          have hL16 : (L.length + 1) * 16 ≤ 140737488355328 := by omega
          have hnx : (P.take (j + 1)).map (fun p => (⟨cutC p.x, cutC p.y⟩ : Cell)) = (P.take j).map (fun p => (⟨cutC p.x, cutC p.y⟩ : Cell)) ++ [⟨cutC p.x, cutC p.y⟩] := by rw [take_get hp]; simp
          rw [← hL] at hnx
          have c1 := cut22_ok p.x
          have c2 := cut22_ok p.y
          generalize cutC p.x = px at *
          generalize cutC p.y = py at *
          refine awp_region_draw cx mixed [(11, .p (.int .i64 px)), (21, .p (.int .i64 py))] fun K hK => ?_
          simp [push_cast, hP, hp, c1, c2, hL16]
          repeat (refine And.intro (by clear hK; intros; first | omega | (simp_all; done) | (simp_all <;> omega)) ?_)
          refine hK _ _ (by kernel_rfl) ?_; clear hK K; refine Nav.imp ?_
          refine awp_region cx [] fun K hK => ?_
          simp [push_cast, e1]
          repeat (refine And.intro (by clear hK; intros; first | omega | (simp_all; done) | (simp_all <;> omega)) ?_)
          refine hK _ ?_; clear hK K; refine Nav.imp ?_
          refine ⟨(j + 1, L ++ [⟨px, py⟩]), ⟨hjl, by simp only; omega, hnx.symm⟩, by simp only; omega, ?_⟩
          refine weak_of [(0, some 0), (1, some 1), (2, some 39)] rfl (by simp [upT, up, upL, push_cast]) (by simp [upH, upR, upL, up, push_cast]) (by simp [namesOk, push_cast]) (by simp [olds])
        · simp at hb
          have hf : nearF P = L := by
            rw [hL]
            unfold nearF
            congr 1
            by_cases h : j < P.length
            · rw [show j = 12 from by have := hb h; omega]
            · rw [List.take_of_length_le (by omega), List.take_of_length_le (by omega)]
          rw [hf, ← hout] at hnext
          refine awp_freeze 2 (L.map Cell.row) rfl (by simp [push_cast]) fun K hK => ?_
          simp [push_cast, St.fz, fzT, fzH, fzO, fz, fzL, fzR, fzR_dr, fzR_app, fzR_set, fzL_map]
          refine hK _ ?_; clear hK K; refine Nav.imp ?_
          refine awp_region cx [] fun K hK => ?_
          simp [push_cast, ho24]
          repeat (refine And.intro (by clear hK; intros; first | omega | (simp_all; done) | (simp_all <;> omega)) ?_)
          refine hK _ ?_; clear hK K; refine Nav.imp ?_
          refine awp_region cx [] fun K hK => ?_
          simp [push_cast, e0]
          repeat (refine And.intro (by clear hK; intros; first | omega | (simp_all; done) | (simp_all <;> omega)) ?_)
          refine hK _ ?_; clear hK K; refine Nav.imp ?_
          refine ⟨(k + 1, out ++ [L]), ⟨hlt, by simp only; omega, hnext.symm⟩, by simp only; omega, ?_⟩
          refine weak_of [(0, some 18)] rfl (by simp [upT, up, upL, push_cast]) (by simp [upH, upR, upL, up, push_cast]) (by simp [namesOk, push_cast]) (by simp [olds])
    · simp at hb
      have hf : nearL l = out := by
        rw [hout]
        unfold nearL
        congr 1
        by_cases h : k < l.length
        · rw [show k = 5 from by have := hb h; omega]
        · rw [List.take_of_length_le (by omega), List.take_of_length_le (by omega)]
      rw [hf]
      clear hf hout
      refine awp_freeze 0 (out.map polyRow) rfl (by simp [push_cast]) fun K hK => ?_
      simp [push_cast, St.fz, fzT, fzH, fzO, fz, fzL, fzR, fzR_dr, fzR_app, fzR_set, fzL_map]
      refine hK _ ?_; clear hK K; refine Nav.imp ?_
      refine awp_region cx [] fun K hK => ?_
      simp [push_cast]
      repeat (refine And.intro (by clear hK; intros; first | omega | (simp_all; done) | (simp_all <;> omega)) ?_)
      refine hK _ ?_; clear hK K; refine Nav.imp ?_
      simp [push_cast]
end Go.Proofs.YtdddknniooimmaaGreat

namespace Go.Proofs.YtdddknniooimmaaGreat
open Go.Abs

theorem fine_low {l : List Run} (h : fine l = true) : ∀ (k : Nat) (r : Run), l[k]? = some r → -4096 + (k : Int) ≤ r.a
  | 0, r, hr => by have := fine_at h hr; simp; omega
  | k + 1, r, hr => by
    have hk := (List.getElem?_eq_some_iff.1 hr).1
    obtain ⟨p, hp⟩ : ∃ p, l[k]? = some p := getq (by omega)
    have h1 := fine_low h k p hp
    have h2 := fine_gap h hr hp
    have h3 := fine_at h hp
    simp; omega
theorem rows_low {R : List Row} (h : validR R = true) : ∀ (k : Nat) (w : Row), R[k]? = some w → -4096 + (k : Int) ≤ w.y
  | 0, w, hw => by have := validR_at h hw; simp; omega
  | k + 1, w, hw => by
    have hk := (List.getElem?_eq_some_iff.1 hw).1
    obtain ⟨p, hp⟩ : ∃ p, R[k]? = some p := getq (by omega)
    have h1 := rows_low h k p hp
    have h2 := validR_gap h hw hp
    simp; omega
theorem valid_small {R : List Row} (h : validR R = true) : smallR R := by
  refine ⟨?_, fun w hw => ?_⟩
  · by_cases e : R.length ≤ 8192
    · omega
    · obtain ⟨w, hw⟩ := getq (show 8192 < R.length by omega)
      have h1 := rows_low h 8192 w hw
      have h2 := validR_at h hw
      simp at h1; omega
  · have hf := (row_fine h hw).2
    by_cases e : w.runs.length ≤ 8192
    · omega
    · obtain ⟨r, hr⟩ := getq (show 8192 < w.runs.length by omega)
      have h1 := fine_low hf 8192 r hr
      have h2 := fine_at hf hr
      simp at h1; omega




def sameB (a b : List Row) : Bool := validR a && validR b && decide (a = b)

end Go.Proofs.YtdddknniooimmaaGreat
