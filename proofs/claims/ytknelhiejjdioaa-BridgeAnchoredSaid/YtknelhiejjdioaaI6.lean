/-
  Texts of this seat put together: T1, T2, T3, T4, X2, X9, B1, AbsR.
-/
import Derived.Test.YtknelhiejjdioaaJ5
import Derived.Test.YtknelhiejjdioaaJ3
import Derived.OrdersIn
import Derived.TacticsIn
import Derived.RangeFuncNested
set_option linter.unusedVariables false
set_option linter.unusedSimpArgs false
namespace Go.Proofs.Ytknelhiejjdioaa
open Go.Abs

/-! What the sort of package region compares; the copy of a list. -/
def cmpI (a b : Int) : Int := if a < b then -1 else if b < a then 1 else 0
def intRow (x : Int) : List D := [.int .i64 x]
abbrev encInts (l : List Int) : D := .sl (l.map intRow)
def orI (a b : Int) : Int := if a ≠ 0 then a else b

theorem isNaN_ok (a : Int) : PC Try.prog 99 [.int .i64 a] (.p (.bool false)) := by
  refine pc_of_awp cx (fn := Try.f99) (c := _) Try.func99 rfl rfl (Nat.le_of_ble_eq_true rfl) ?_
  rw [Try.ntmps99]; refine Nav.imp ?_
  refine awp_region cx [] fun K hK => ?_
  simp [push_cast]
  repeat (refine And.intro (by clear hK; intros; first | omega | (simp_all; done) | (simp_all <;> omega)) ?_)
  refine hK _ ?_; clear hK K; refine Nav.imp ?_
  refine awp_region cx [] fun K hK => ?_
  simp [push_cast]
  repeat (refine And.intro (by clear hK; intros; first | omega | (simp_all; done) | (simp_all <;> omega)) ?_)
  refine hK _ ?_; clear hK K; refine Nav.imp ?_
  simp [push_cast]

theorem compare_ok (a b : Int) : PC Try.prog 77 [.int .i64 a, .int .i64 b] (.p (.int .i64 (cmpI a b))) := by
  have c1 := isNaN_ok a
  have c2 := isNaN_ok b
  refine pc_of_awp cx (fn := Try.f77) (c := _) Try.func77 rfl rfl (Nat.le_of_ble_eq_true rfl) ?_
  rw [Try.ntmps77]; refine Nav.imp ?_
  refine awp_region cx [] fun K hK => ?_
  simp [push_cast]
  repeat (refine And.intro (by clear hK; intros; first | omega | (simp_all; done) | (simp_all <;> omega)) ?_)
  refine hK _ ?_; clear hK K; refine Nav.imp ?_
  refine awp_region cx [(1, .p (.bool false))] fun K hK => ?_
  simp [push_cast, c1]
  repeat (refine And.intro (by clear hK; intros; first | omega | (simp_all; done) | (simp_all <;> omega)) ?_)
  refine hK _ ?_; clear hK K; refine Nav.imp ?_
  refine awp_region cx [(1, .p (.bool false))] fun K hK => ?_
  simp [push_cast, c2]
  repeat (refine And.intro (by clear hK; intros; first | omega | (simp_all; done) | (simp_all <;> omega)) ?_)
  refine hK _ ?_; clear hK K; refine Nav.imp ?_
  refine awp_region cx [] fun K hK => ?_
  simp [push_cast]
  repeat (refine And.intro (by clear hK; intros; first | omega | (simp_all; done) | (simp_all <;> omega)) ?_)
  refine hK _ ?_; clear hK K; refine Nav.imp ?_
  refine awp_cond (b := false) (by simp [push_cast]) (fun hb => ?_) (fun hb => ?_) <;> (refine Nav.imp ?_)
  · simp at hb
  · refine awp_region cx [] fun K hK => ?_
    simp [push_cast]
    repeat (refine And.intro (by clear hK; intros; first | omega | (simp_all; done) | (simp_all <;> omega)) ?_)
    refine hK _ ?_; clear hK K; refine Nav.imp ?_
    refine awp_cond (b := false) (by simp [push_cast]) (fun hb => ?_) (fun hb => ?_) <;> (refine Nav.imp ?_)
    · simp at hb
    · refine awp_region cx [] fun K hK => ?_
      simp [push_cast]
      repeat (refine And.intro (by clear hK; intros; first | omega | (simp_all; done) | (simp_all <;> omega)) ?_)
      refine hK _ ?_; clear hK K; refine Nav.imp ?_
      refine awp_cond (b := decide (a < b)) (by simp [push_cast]) (fun hb => ?_) (fun hb => ?_) <;> (refine Nav.imp ?_)
      · have hb : a < b := by simpa using hb
        refine awp_region cx [] fun K hK => ?_
        simp [push_cast]
        repeat (refine And.intro (by clear hK; intros; first | omega | (simp_all; done) | (simp_all <;> omega)) ?_)
        refine hK _ ?_; clear hK K; refine Nav.imp ?_
        simp [push_cast, cmpI, hb]
      · have hb : ¬ a < b := by simpa using hb
        refine awp_region cx [] fun K hK => ?_
        simp [push_cast]
        repeat (refine And.intro (by clear hK; intros; first | omega | (simp_all; done) | (simp_all <;> omega)) ?_)
        refine hK _ ?_; clear hK K; refine Nav.imp ?_
        refine awp_cond (b := decide (b < a)) (by simp [push_cast]) (fun hb => ?_) (fun hb => ?_) <;> (refine Nav.imp ?_)
        · have hb2 : b < a := by simpa using hb
          refine awp_region cx [] fun K hK => ?_
          simp [push_cast]
          repeat (refine And.intro (by clear hK; intros; first | omega | (simp_all; done) | (simp_all <;> omega)) ?_)
          refine hK _ ?_; clear hK K; refine Nav.imp ?_
          simp [push_cast, cmpI, hb, hb2]
          try omega
        · have hb2 : ¬ b < a := by simp at hb; omega
          refine awp_region cx [] fun K hK => ?_
          simp [push_cast]
          repeat (refine And.intro (by clear hK; intros; first | omega | (simp_all; done) | (simp_all <;> omega)) ?_)
          refine hK _ ?_; clear hK K; refine Nav.imp ?_
          simp [push_cast, cmpI, hb, hb2]
          try omega

theorem or_ok (a b : Int) : PC Try.prog 80 [encInts [a, b]] (.p (.int .i64 (orI a b))) := by
  have hlen : (encInts [a, b]) = .sl [[.int .i64 a], [.int .i64 b]] := rfl
  refine pc_of_awp cx (fn := Try.f80) (c := _) Try.func80 rfl rfl (Nat.le_of_ble_eq_true rfl) ?_
  rw [Try.ntmps80]; refine Nav.imp ?_
  refine awp_region cx [] fun K hK => ?_
  simp [push_cast]
  repeat (refine And.intro (by clear hK; intros; first | omega | (simp_all; done) | (simp_all <;> omega)) ?_)
  refine hK _ ?_; clear hK K; refine Nav.imp ?_
  refine awp_region cx [] fun K hK => ?_
  simp [push_cast]
  repeat (refine And.intro (by clear hK; intros; first | omega | (simp_all; done) | (simp_all <;> omega)) ?_)
  refine hK _ ?_; clear hK K; refine Nav.imp ?_
  refine awp_region cx [] fun K hK => ?_
  simp [push_cast]
  repeat (refine And.intro (by clear hK; intros; first | omega | (simp_all; done) | (simp_all <;> omega)) ?_)
  refine hK _ ?_; clear hK K; refine Nav.imp ?_
  refine awp_loop (β := Nat) (fun k => ⟨18, [(3, .d (.int .i64 0)), (6, .d (encInts [a, b])), (7, .d (.int .i64 2)), (8, .d (.int .i64 k))], [], 0⟩) (fun k => k ≤ 2 ∧ (0 < k → a = 0) ∧ (1 < k → b = 0)) (fun k => 2 - k) 0 ?_ ⟨by omega, by omega, by omega⟩ ?_
  · refine weak_of [] rfl (by simp [upT, up, upL, push_cast]) (by simp [upH, upR, upL, up, push_cast]) (by simp [namesOk, push_cast]) (by simp [olds])
  · rintro k ⟨hk, h1, h2⟩
    refine Nav.imp ?_
    by_cases e0 : k = 0
    · subst e0
      refine awp_region cx [] fun K hK => ?_
      simp [push_cast]
      repeat (refine And.intro (by clear hK; intros; first | omega | (simp_all; done) | (simp_all <;> omega)) ?_)
      refine hK _ ?_; clear hK K; refine Nav.imp ?_
      refine awp_cond (b := true) (by simp [push_cast]) (fun hb => ?_) (fun hb => ?_) <;> (refine Nav.imp ?_)
      · refine awp_region cx [] fun K hK => ?_
        simp [push_cast, intRow]
        repeat (refine And.intro (by clear hK; intros; first | omega | (simp_all; done) | (simp_all <;> omega)) ?_)
        refine hK _ ?_; clear hK K; refine Nav.imp ?_
        refine awp_region cx [] fun K hK => ?_
        simp [push_cast]
        repeat (refine And.intro (by clear hK; intros; first | omega | (simp_all; done) | (simp_all <;> omega)) ?_)
        refine hK _ ?_; clear hK K; refine Nav.imp ?_
        refine awp_cond (by simp [push_cast] <;> exact rfl) (fun hb => ?_) (fun hb => ?_) <;> (refine Nav.imp ?_)
        · simp at hb
          refine awp_region cx [] fun K hK => ?_
          simp [push_cast]
          repeat (refine And.intro (by clear hK; intros; first | omega | (simp_all; done) | (simp_all <;> omega)) ?_)
          refine hK _ ?_; clear hK K; refine Nav.imp ?_
          simp [push_cast, orI, hb]
        · simp at hb
          refine awp_region cx [] fun K hK => ?_
          simp [push_cast]
          repeat (refine And.intro (by clear hK; intros; first | omega | (simp_all; done) | (simp_all <;> omega)) ?_)
          refine hK _ ?_; clear hK K; refine Nav.imp ?_
          refine ⟨1, ⟨by omega, fun _ => hb, by omega⟩, by omega, ?_⟩
          refine weak_of [] rfl (by simp [upT, up, upL, push_cast]) (by simp [upH, upR, upL, up, push_cast]) (by simp [namesOk, push_cast]) (by simp [olds])
      · simp at hb
    · by_cases e1 : k = 1
      · subst e1
        have h1 := h1 (by omega)
        refine awp_region cx [] fun K hK => ?_
        simp [push_cast]
        repeat (refine And.intro (by clear hK; intros; first | omega | (simp_all; done) | (simp_all <;> omega)) ?_)
        refine hK _ ?_; clear hK K; refine Nav.imp ?_
        refine awp_cond (b := true) (by simp [push_cast]) (fun hb => ?_) (fun hb => ?_) <;> (refine Nav.imp ?_)
        · refine awp_region cx [] fun K hK => ?_
          simp [push_cast, intRow]
          repeat (refine And.intro (by clear hK; intros; first | omega | (simp_all; done) | (simp_all <;> omega)) ?_)
          refine hK _ ?_; clear hK K; refine Nav.imp ?_
          refine awp_region cx [] fun K hK => ?_
          simp [push_cast]
          repeat (refine And.intro (by clear hK; intros; first | omega | (simp_all; done) | (simp_all <;> omega)) ?_)
          refine hK _ ?_; clear hK K; refine Nav.imp ?_
          refine awp_cond (by simp [push_cast] <;> exact rfl) (fun hb => ?_) (fun hb => ?_) <;> (refine Nav.imp ?_)
          · simp at hb
            refine awp_region cx [] fun K hK => ?_
            simp [push_cast]
            repeat (refine And.intro (by clear hK; intros; first | omega | (simp_all; done) | (simp_all <;> omega)) ?_)
            refine hK _ ?_; clear hK K; refine Nav.imp ?_
            simp [push_cast, orI, hb, h1]
          · simp at hb
            refine awp_region cx [] fun K hK => ?_
            simp [push_cast]
            repeat (refine And.intro (by clear hK; intros; first | omega | (simp_all; done) | (simp_all <;> omega)) ?_)
            refine hK _ ?_; clear hK K; refine Nav.imp ?_
            refine ⟨2, ⟨by omega, fun _ => h1, fun _ => hb⟩, by omega, ?_⟩
            refine weak_of [] rfl (by simp [upT, up, upL, push_cast]) (by simp [upH, upR, upL, up, push_cast]) (by simp [namesOk, push_cast]) (by simp [olds])
        · simp at hb
      · have e2 : k = 2 := by omega
        subst e2
        have h1 := h1 (by omega)
        have h2 := h2 (by omega)
        refine awp_region cx [] fun K hK => ?_
        simp [push_cast]
        repeat (refine And.intro (by clear hK; intros; first | omega | (simp_all; done) | (simp_all <;> omega)) ?_)
        refine hK _ ?_; clear hK K; refine Nav.imp ?_
        refine awp_cond (b := false) (by simp [push_cast]) (fun hb => ?_) (fun hb => ?_) <;> (refine Nav.imp ?_)
        · simp at hb
        · refine awp_region cx [] fun K hK => ?_
          simp [push_cast]
          repeat (refine And.intro (by clear hK; intros; first | omega | (simp_all; done) | (simp_all <;> omega)) ?_)
          refine hK _ ?_; clear hK K; refine Nav.imp ?_
          simp [push_cast, orI, h1, h2]

def cfO (a b : Cell) : Int := orI (cmpI a.y b.y) (cmpI a.x b.x)
theorem ofCmp_ok (a b : Cell) : PC Try.prog 79 [.agg a.row, .agg b.row] (.p (.int .i64 (cfO a b))) := by
  have c1 := compare_ok a.y b.y
  have c2 := compare_ok a.x b.x
  have c3 := or_ok (cmpI a.y b.y) (cmpI a.x b.x)
  have hc : cfO a b = orI (cmpI a.y b.y) (cmpI a.x b.x) := rfl
  rw [hc]
  generalize orI (cmpI a.y b.y) (cmpI a.x b.x) = z at *
  generalize cmpI a.y b.y = x at *
  generalize cmpI a.x b.x = y at *
  refine pc_of_awp cx (fn := Try.f79) (c := _) Try.func79 rfl rfl (Nat.le_of_ble_eq_true rfl) ?_
  rw [Try.ntmps79]; refine Nav.imp ?_
  refine awp_region cx [] fun K hK => ?_
  simp [push_cast]
  repeat (refine And.intro (by clear hK; intros; first | omega | (simp_all; done) | (simp_all <;> omega)) ?_)
  refine hK _ ?_; clear hK K; refine Nav.imp ?_
  refine awp_region_draw cx mixed [(4, .p (.int .i64 x)), (9, .p (.int .i64 y)), (10, .f (encInts [x, y])), (11, .p (.int .i64 z))] fun K hK => ?_
  simp [push_cast, c1, c2, c3, intRow]
  repeat (refine And.intro (by clear hK; intros; first | omega | (simp_all; done) | (simp_all <;> omega)) ?_)
  refine hK _ _ (by kernel_rfl) ?_; clear hK K; refine Nav.imp ?_
  simp [push_cast]

theorem clone_ok (l : List Cell) (hl : l.length ≤ 1000000) : PC Try.prog 78 [encCells l] (.o 31 2 (l.map Cell.row)) := by
  have h16 : l.length * 16 ≤ 140737488355328 := by omega
  refine pc_of_awp cx (fn := Try.f78) (c := _) Try.func78 rfl rfl (Nat.le_of_ble_eq_true rfl) ?_
  rw [Try.ntmps78]; refine Nav.imp ?_
  refine awp_region cx [] fun K hK => ?_
  simp [push_cast]
  repeat (refine And.intro (by clear hK; intros; first | omega | (simp_all; done) | (simp_all <;> omega)) ?_)
  refine hK _ ?_; clear hK K; refine Nav.imp ?_
  refine awp_region cx [] fun K hK => ?_
  simp [push_cast]
  repeat (refine And.intro (by clear hK; intros; first | omega | (simp_all; done) | (simp_all <;> omega)) ?_)
  refine hK _ ?_; clear hK K; refine Nav.imp ?_
  refine awp_ub 4 (by simp [push_cast]; exact ⟨rfl, rfl⟩) fun bu hu1 hu2 => ?_
  refine awp_cond (b := bu) (by simp [push_cast]) (fun hb => ?_) (fun hb => ?_) <;> (refine Nav.imp ?_)
  · have hl0 : l = [] := by simpa using hu1 hb
    subst hl0
    refine awp_region cx [] fun K hK => ?_
    simp [push_cast]
    repeat (refine And.intro (by clear hK; intros; first | omega | (simp_all; done) | (simp_all <;> omega)) ?_)
    refine hK _ ?_; clear hK K; refine Nav.imp ?_
    simp [push_cast]
  · refine awp_region cx [] fun K hK => ?_
    simp [push_cast, h16]
    repeat (refine And.intro (by clear hK; intros; first | omega | (simp_all; done) | (simp_all <;> omega)) ?_)
    refine hK _ ?_; clear hK K; refine Nav.imp ?_
    simp [push_cast]
end Go.Proofs.Ytknelhiejjdioaa

set_option linter.unusedVariables false
set_option linter.unusedSimpArgs false
namespace Go.Proofs.Ytknelhiejjdioaa
open Go.Abs

/-! The reference: cells in their order. -/
def bef (a b : Cell) : Bool := decide (a.y < b.y) || (decide (a.y = b.y) && decide (a.x < b.x))
theorem bef_leY {a b : Cell} (h : bef a b = false) : leY b a = true := by simp [bef, leY] at *; omega
theorem leY_bef {a b : Cell} (h : bef a b = true) : leY a b = true := by simp [bef, leY] at *; omega
theorem leY_trans {a b c : Cell} (h1 : leY a b = true) (h2 : leY b c = true) : leY a c = true := by simp [leY] at *; omega

theorem inRange_ok (c : Cell) : PC Try.prog 53 [.agg c.row] (.p (.bool (onG c))) := by
  obtain ⟨x, y⟩ := c
  refine pc_of_awp cx (fn := Try.f53) (c := _) Try.func53 rfl rfl (Nat.le_of_ble_eq_true rfl) ?_
  rw [Try.ntmps53]; refine Nav.imp ?_
  refine awp_region cx [] fun K hK => ?_
  simp [push_cast]
  repeat (refine And.intro (by clear hK; intros; first | omega | (simp_all; done) | (simp_all <;> omega)) ?_)
  refine hK _ ?_; clear hK K; refine Nav.imp ?_
  refine awp_region cx [] fun K hK => ?_
  simp [push_cast]
  repeat (refine And.intro (by clear hK; intros; first | omega | (simp_all; done) | (simp_all <;> omega)) ?_)
  refine hK _ ?_; clear hK K; refine Nav.imp ?_
  simp [push_cast, onG, Bool.and_assoc]

theorem before_ok (a b : Cell) : PC Try.prog 82 [.agg a.row, .agg b.row] (.p (.bool (bef a b))) := by
  obtain ⟨x, y⟩ := a
  obtain ⟨x', y'⟩ := b
  refine pc_of_awp cx (fn := Try.f82) (c := _) Try.func82 rfl rfl (Nat.le_of_ble_eq_true rfl) ?_
  rw [Try.ntmps82]; refine Nav.imp ?_
  refine awp_region cx [] fun K hK => ?_
  simp [push_cast]
  repeat (refine And.intro (by clear hK; intros; first | omega | (simp_all; done) | (simp_all <;> omega)) ?_)
  refine hK _ ?_; clear hK K; refine Nav.imp ?_
  refine awp_region cx [] fun K hK => ?_
  simp [push_cast]
  repeat (refine And.intro (by clear hK; intros; first | omega | (simp_all; done) | (simp_all <;> omega)) ?_)
  refine hK _ ?_; clear hK K; refine Nav.imp ?_
  simp [push_cast, bef]
  rfl

/-- Cell c, at place k, is on its way down into the first i cells. -/
def InsAt (l : List Cell) (i : Nat) (Z : List Cell) (k : Nat) : Prop :=
  ∃ (P : List Cell) (c : Cell) (Q T : List Cell), Z = P ++ c :: (Q ++ T) ∧ P.length = k ∧ P.length + Q.length = i ∧ Z.Perm l ∧ ((P ++ Q).Pairwise fun a b => leY a b = true) ∧ ∀ q ∈ Q, leY c q = true
def UpTo (l : List Cell) (i : Nat) (Z : List Cell) : Prop := Z.Perm l ∧ ((Z.take i).Pairwise fun a b => leY a b = true)

theorem insAt_start {l Z : List Cell} {i : Nat} (h : UpTo l i Z) (hi : i < Z.length) : InsAt l i Z i := by
  refine ⟨Z.take i, Z[i], [], Z.drop (i + 1), ?_, by simp; omega, by simp; omega, h.1, by simpa using h.2, by simp⟩
  conv => lhs; rw [← List.take_append_drop i Z, List.drop_eq_getElem_cons hi]
  simp
theorem insAt_end {l Z : List Cell} {i k : Nat} (h : InsAt l i Z k) (hk : k = 0 ∨ ∃ c p, Z[k]? = some c ∧ Z[k - 1]? = some p ∧ bef c p = false) : UpTo l (i + 1) Z := by
  obtain ⟨P, c, Q, T, rfl, hP, hQ, hp, hs, hq⟩ := h
  refine ⟨hp, ?_⟩
  have e : (P ++ c :: (Q ++ T)).take (i + 1) = P ++ c :: Q := by
    rw [show P ++ c :: (Q ++ T) = (P ++ c :: Q) ++ T from by simp, List.take_left' (by simp; omega)]
  rw [e]
  rw [List.pairwise_append] at hs ⊢
  refine ⟨hs.1, List.pairwise_cons.2 ⟨hq, hs.2.1⟩, fun a ha b hb => ?_⟩
  rcases List.mem_cons.1 hb with rfl | hb
  · rcases hk with hk | ⟨c', p, h1, h2, h3⟩
    · rw [hk] at hP
      rw [List.length_eq_zero_iff.1 hP] at ha
      cases ha
    · have hc : c' = b := by
        rw [List.getElem?_append_right (by omega), hP, Nat.sub_self] at h1
        exact (Option.some.inj h1).symm
      subst hc
      rcases List.eq_nil_or_concat P with rfl | ⟨P', p', rfl⟩
      · cases ha
      · rw [List.concat_eq_append] at *
        have hpp : p' = p := by
          rw [List.append_assoc, List.getElem?_append_right (by simp at hP; omega)] at h2
          simp at hP
          rw [show k - 1 - P'.length = 0 from by omega] at h2
          exact Option.some.inj h2
        subst hpp
        have h4 := bef_leY h3
        rcases List.mem_append.1 ha with ha | ha
        · exact leY_trans ((List.pairwise_append.1 hs.1).2.2 a ha p' (by simp)) h4
        · simp at ha; subst ha; exact h4
  · exact hs.2.2 a ha b hb
theorem insAt_next {l Z : List Cell} {i k : Nat} {c p : Cell} (h : InsAt l i Z (k + 1)) (hc : Z[k + 1]? = some c) (hp : Z[k]? = some p) (hb : bef c p = true) : InsAt l i ((Z.set (k + 1) p).set k c) k := by
  obtain ⟨P, c', Q, T, rfl, hP, hQ, hperm, hs, hq⟩ := h
  rcases List.eq_nil_or_concat P with rfl | ⟨P', p', rfl⟩
  · simp at hP
  · rw [List.concat_eq_append] at *
    simp at hP
    have hcc : c' = c := by
      rw [List.getElem?_append_right (by simp; omega)] at hc
      simp [hP] at hc
      exact hc
    have hpp : p' = p := by
      rw [List.append_assoc, List.getElem?_append_right (by omega)] at hp
      simp [hP] at hp
      exact hp
    subst hcc hpp
    have e : (((P' ++ [p']) ++ c' :: (Q ++ T)).set (k + 1) p').set k c' = P' ++ c' :: ((p' :: Q) ++ T) := by
      subst hP
      simp
    rw [e]
    refine ⟨P', c', p' :: Q, T, rfl, hP, by simp at hQ ⊢; omega, ?_, ?_, ?_⟩
    · refine List.Perm.trans ?_ hperm
      simp only [List.append_assoc, List.singleton_append, List.cons_append]
      exact List.Perm.append_left _ (List.Perm.swap _ _ _)
    · simpa using hs
    · intro q hqm
      rcases List.mem_cons.1 hqm with rfl | hqm
      · exact leY_bef hb
      · exact hq q hqm
theorem upTo_end {l Z : List Cell} {i : Nat} (h : UpTo l i Z) (hi : Z.length ≤ i) : Z = sortY l := by
  rw [show i = Z.length + (i - Z.length) from by omega] at h
  have h2 := h.2
  rw [List.take_of_length_le (by omega)] at h2
  exact sortedY_uniq (h.1.trans (sortY_perm l).symm) h2 (sortY_le l)
theorem upTo_start (l : List Cell) : UpTo l 1 l := by
  refine ⟨List.Perm.refl l, ?_⟩
  cases l with
  | nil => simp
  | cons a l => simp

set_option maxHeartbeats 1000000 in
theorem sorted_ok (l : List Cell) (hl : l.length ≤ 1000000) : PC Try.prog 54 [encCells l] (.p (encCells (sortY l))) := by
  have h16 : l.length * 16 ≤ 140737488355328 := by omega
  refine pc_of_awp cx (fn := Try.f54) (c := _) Try.func54 rfl rfl (Nat.le_of_ble_eq_true rfl) ?_
  rw [Try.ntmps54]; refine Nav.imp ?_
  refine awp_region cx [] fun K hK => ?_
  simp [push_cast]
  repeat (refine And.intro (by clear hK; intros; first | omega | (simp_all; done) | (simp_all <;> omega)) ?_)
  refine hK _ ?_; clear hK K; refine Nav.imp ?_
  refine awp_region cx [] fun K hK => ?_
  simp [push_cast, h16]
  repeat (refine And.intro (by clear hK; intros; first | omega | (simp_all; done) | (simp_all <;> omega)) ?_)
  refine hK _ ?_; clear hK K; refine Nav.imp ?_
  refine awp_region cx [] fun K hK => ?_
  simp [push_cast]
  repeat (refine And.intro (by clear hK; intros; first | omega | (simp_all; done) | (simp_all <;> omega)) ?_)
  refine hK _ ?_; clear hK K; refine Nav.imp ?_
  refine awp_loop (β := Nat × List Cell) (fun b => ⟨51, [(3, .hs 0 0 b.2.length), (4, .d (.int .i64 b.1))], [(0, some ⟨31, 2, dr (b.2.map Cell.row)⟩)], 1⟩) (fun b => UpTo l b.1 b.2 ∧ 0 < b.1 ∧ b.1 ≤ 1000001) (fun b => l.length - b.1) (1, l) ?_ ⟨upTo_start l, by omega, by omega⟩ ?_
  · refine weak_of [(0, some 3)] rfl (by simp [upT, up, upL, push_cast]) (by simp [upH, upR, upL, up, push_cast]) (by simp [namesOk, push_cast]) (by simp [olds])
  · rintro ⟨i, Z⟩ ⟨hZ, hi, hib⟩
    simp only at hZ hi hib
    have hZl : Z.length = l.length := hZ.1.length_eq
    refine Nav.imp ?_
    refine awp_region cx [] fun K hK => ?_
    simp [push_cast]
    repeat (refine And.intro (by clear hK; intros; first | omega | (simp_all; done) | (simp_all <;> omega)) ?_)
    refine hK _ ?_; clear hK K; refine Nav.imp ?_
    refine awp_cond (b := decide ((i : Int) < Z.length)) (by simp [push_cast]) (fun hb => ?_) (fun hb => ?_) <;> (refine Nav.imp ?_)
    · have hlt : i < Z.length := by simpa using hb
      have e0 := wrap_i64 (n := (i : Int) + 1) (by omega) (by omega)
      refine awp_region cx [] fun K hK => ?_
      simp [push_cast]
      repeat (refine And.intro (by clear hK; intros; first | omega | (simp_all; done) | (simp_all <;> omega)) ?_)
      refine hK _ ?_; clear hK K; refine Nav.imp ?_
      refine awp_loop (β := Nat × List Cell) (fun b => ⟨51, [(3, .hs 0 0 b.2.length), (4, .d (.int .i64 i)), (5, .d (.int .i64 b.1))], [(0, some ⟨31, 2, dr (b.2.map Cell.row)⟩)], 1⟩) (fun b => InsAt l i b.2 b.1) (fun b => b.1) (i, Z) ?_ (insAt_start hZ hlt) ?_
      · refine weak_of [(0, some 0)] rfl (by simp [upT, up, upL, push_cast]) (by simp [upH, upR, upL, up, push_cast]) (by simp [namesOk, push_cast]) (by simp [olds])
      · rintro ⟨k, Y⟩ hY
        simp only at hY
        have hYl : Y.length = l.length := by obtain ⟨P, c, Q, T, _, _, _, h, _⟩ := hY; exact h.length_eq
        have hki : k ≤ i := by obtain ⟨P, c, Q, T, _, h1, h2, _⟩ := hY; omega
        refine Nav.imp ?_
        obtain ⟨c, hc⟩ : ∃ c, Y[k]? = some c := getq (by omega)
        cases k with
        | zero =>
          refine awp_region_draw cx mixed [(12, .skip)] fun K hK => ?_
          simp [push_cast, hc]
          repeat (refine And.intro (by clear hK; intros; first | omega | (simp_all; done) | (simp_all <;> omega)) ?_)
          refine hK _ _ (by kernel_rfl) ?_; clear hK K; refine Nav.imp ?_
          refine awp_cond (b := false) (by simp [push_cast]) (fun hb => ?_) (fun hb => ?_) <;> (refine Nav.imp ?_)
          · simp at hb
          · refine awp_region cx [] fun K hK => ?_
            simp [push_cast, e0]
            repeat (refine And.intro (by clear hK; intros; first | omega | (simp_all; done) | (simp_all <;> omega)) ?_)
            refine hK _ ?_; clear hK K; refine Nav.imp ?_
            refine ⟨(i + 1, Y), ⟨insAt_end hY (.inl rfl), by simp only; omega, by simp only; omega⟩, by simp only; omega, ?_⟩
            refine weak_of [(0, some 0)] rfl (by simp [upT, up, upL, push_cast]) (by simp [upH, upR, upL, up, push_cast]) (by simp [namesOk, push_cast]) (by simp [olds])
        | succ k =>
          obtain ⟨p, hp⟩ : ∃ c, Y[k]? = some c := getq (by omega)
          have c1 := before_ok c p
          generalize hbf : bef c p = bb at c1
          have e1 := wrap_i64 (n := ((k + 1 : Nat) : Int) - 1) (by omega) (by omega)
          have e2 : (((k + 1 : Nat) : Int) - 1) = k := by omega
          rw [e2] at e1
          have e3 : (((k + 1 : Nat) : Int) - 1).toNat = k := by omega
          have e4 : (0 : Int) < (k : Int) + 1 := by omega
          refine awp_region_draw cx mixed [(12, .p (.bool bb))] fun K hK => ?_
          simp [push_cast, hc, hp, c1, e1, e2, e3, e4]
          repeat (refine And.intro (by clear hK; intros; first | omega | (simp_all; done) | (simp_all <;> omega)) ?_)
          refine hK _ _ (by kernel_rfl) ?_; clear hK K; refine Nav.imp ?_
          refine awp_cond (b := bb) (by simp [push_cast]) (fun hb => ?_) (fun hb => ?_) <;> (refine Nav.imp ?_)
          · rw [hb] at hbf
            have hnx := insAt_next hY hc hp hbf
            obtain ⟨Y1, hY1⟩ : ∃ Y1, Y1 = Y.set (k + 1) p := ⟨_, rfl⟩
            have hr1 : (dr (Y.map Cell.row)).set (k + 1) [.d (.int .i64 p.x), .d (.int .i64 p.y)] = dr (Y1.map Cell.row) := by rw [hY1]; simp [dr, List.map_set]
            have hk1 : Y1[k]? = some p := by rw [hY1, List.getElem?_set_ne (by omega)]; exact hp
            rw [← hY1] at hnx
            have hl1 : Y1.length = Y.length := by rw [hY1]; simp
            obtain ⟨Y2, hY2⟩ : ∃ Y2, Y2 = Y1.set k c := ⟨_, rfl⟩
            have hr2 : (dr (Y1.map Cell.row)).set k [.d (.int .i64 c.x), .d (.int .i64 c.y)] = dr (Y2.map Cell.row) := by rw [hY2]; simp [dr, List.map_set]
            rw [← hY2] at hnx
            have hl2 : Y2.length = Y.length := by rw [hY2]; simp [hl1]
            clear hY1 hY2
            refine awp_region cx [] fun K hK => ?_
            simp [push_cast, hc]
            repeat (refine And.intro (by clear hK; intros; first | omega | (simp_all; done) | (simp_all <;> omega)) ?_)
            refine hK _ ?_; clear hK K; refine Nav.imp ?_
            refine awp_region cx [] fun K hK => ?_
            simp [push_cast, hp, hc, e1, e2, e3, hr1]
            repeat (refine And.intro (by clear hK; intros; first | omega | (simp_all; done) | (simp_all <;> omega)) ?_)
            refine hK _ ?_; clear hK K; refine Nav.imp ?_
            rw [← hl1]
            refine awp_region cx [] fun K hK => ?_
            simp [push_cast, e1, e2, hk1, hr2]
            repeat (refine And.intro (by clear hK; intros; first | omega | (simp_all; done) | (simp_all <;> omega)) ?_)
            refine hK _ ?_; clear hK K; refine Nav.imp ?_
            rw [hl1, ← hl2]
            refine awp_region cx [] fun K hK => ?_
            simp [push_cast, e1, e2]
            repeat (refine And.intro (by clear hK; intros; first | omega | (simp_all; done) | (simp_all <;> omega)) ?_)
            refine hK _ ?_; clear hK K; refine Nav.imp ?_
            refine ⟨(k, Y2), hnx, by simp only; omega, ?_⟩
            refine weak_of [(0, some 0)] rfl (by simp [upT, up, upL, push_cast]) (by simp [upH, upR, upL, up, push_cast]) (by simp [namesOk, push_cast]) (by simp [olds])
          · rw [hb] at hbf
            refine awp_region cx [] fun K hK => ?_
            simp [push_cast, e0]
            repeat (refine And.intro (by clear hK; intros; first | omega | (simp_all; done) | (simp_all <;> omega)) ?_)
            refine hK _ ?_; clear hK K; refine Nav.imp ?_
            refine ⟨(i + 1, Y), ⟨insAt_end hY (.inr ⟨c, p, hc, hp, hbf⟩), by simp only; omega, by simp only; omega⟩, by simp only; omega, ?_⟩
            refine weak_of [(0, some 0)] rfl (by simp [upT, up, upL, push_cast]) (by simp [upH, upR, upL, up, push_cast]) (by simp [namesOk, push_cast]) (by simp [olds])
    · have hge : l.length ≤ i := by simp at hb; omega
      have hs := upTo_end hZ (by omega)
      subst hs
      generalize sortY l = Z at *
      refine awp_region cx [] fun K hK => ?_
      simp [push_cast]
      repeat (refine And.intro (by clear hK; intros; first | omega | (simp_all; done) | (simp_all <;> omega)) ?_)
      refine hK _ ?_; clear hK K; refine Nav.imp ?_
      have ht : List.take Z.length (Z.map Cell.row) = Z.map Cell.row := List.take_of_length_le (by simp)
      simp [push_cast, ht]
end Go.Proofs.Ytknelhiejjdioaa

set_option linter.unusedVariables false
set_option linter.unusedSimpArgs false
namespace Go.Proofs.Ytknelhiejjdioaa
open Go.Abs

theorem with_ok (l : List Run) (x : Int) (hl : l.length ≤ 1000000) (hx : -4096 ≤ x ∧ x < 4096) : PC Try.prog 55 [encRuns l, .int .i64 x] (.p (encRuns (addRun l x))) := by
  have h16 : (l.length + 1) * 16 ≤ 140737488355328 := by omega
  have ex := wrap_i64 (n := x + 1) (by omega) (by omega)
  refine pc_of_awp cx (fn := Try.f55) (c := _) Try.func55 rfl rfl (Nat.le_of_ble_eq_true rfl) ?_
  rw [Try.ntmps55]; refine Nav.imp ?_
  refine awp_region cx [] fun K hK => ?_
  simp [push_cast]
  repeat (refine And.intro (by clear hK; intros; first | omega | (simp_all; done) | (simp_all <;> omega)) ?_)
  refine hK _ ?_; clear hK K; refine Nav.imp ?_
  refine awp_region cx [] fun K hK => ?_
  simp [push_cast]
  repeat (refine And.intro (by clear hK; intros; first | omega | (simp_all; done) | (simp_all <;> omega)) ?_)
  refine hK _ ?_; clear hK K; refine Nav.imp ?_
  rcases List.eq_nil_or_concat l with rfl | ⟨L, r, rfl⟩
  · rw [addRun_nil]
    refine awp_region cx [] fun K hK => ?_
    simp [push_cast]
    repeat (refine And.intro (by clear hK; intros; first | omega | (simp_all; done) | (simp_all <;> omega)) ?_)
    refine hK _ ?_; clear hK K; refine Nav.imp ?_
    refine awp_cond (b := false) (by simp [push_cast]) (fun hb => ?_) (fun hb => ?_) <;> (refine Nav.imp ?_)
    · simp at hb
    · refine awp_region cx [] fun K hK => ?_
      simp [push_cast]
      repeat (refine And.intro (by clear hK; intros; first | omega | (simp_all; done) | (simp_all <;> omega)) ?_)
      refine hK _ ?_; clear hK K; refine Nav.imp ?_
      refine awp_cond (b := false) (by simp [push_cast]) (fun hb => ?_) (fun hb => ?_) <;> (refine Nav.imp ?_)
      · simp at hb
      · refine awp_region cx [] fun K hK => ?_
        simp [push_cast, ex]
        repeat (refine And.intro (by clear hK; intros; first | omega | (simp_all; done) | (simp_all <;> omega)) ?_)
        refine hK _ ?_; clear hK K; refine Nav.imp ?_
        simp [push_cast]
  · rw [List.concat_eq_append] at *
    have hz : (L ++ [r])[L.length]? = some r := by simp
    have hlen : (L ++ [r]).length = L.length + 1 := by simp
    have hadd := addRun_end L r x
    have htk : ((L ++ [r]).map Run.row).take L.length = L.map Run.row := by simp
    obtain ⟨ra, rb⟩ := r
    simp only at hadd
    generalize hA : L ++ [⟨ra, rb⟩] = A at *
    have e1 := wrap_i64 (n := ((L.length + 1 : Nat) : Int) - 1) (by omega) (by omega)
    have e2 : (((L.length + 1 : Nat) : Int) - 1) = L.length := by omega
    rw [e2] at e1
    have e3 : (0 : Int) < (L.length : Int) + 1 := by omega
    have hle : L.length ≤ A.length := by omega
    have hL16 : L.length * 16 ≤ 140737488355328 := by omega
    have hL17 : (L.length + 1) * 16 ≤ 140737488355328 := by omega
    have hA16 : A.length * 16 ≤ 140737488355328 := by omega
    rw [hlen]
    refine awp_region cx [] fun K hK => ?_
    simp [push_cast, hz, e1, e2, e3, Run.row]
    repeat (refine And.intro (by clear hK; intros; first | omega | (simp_all; done) | (simp_all <;> omega)) ?_)
    refine hK _ ?_; clear hK K; refine Nav.imp ?_
    refine awp_cond (b := decide (x < rb)) (by simp [push_cast, e3]) (fun hb => ?_) (fun hb => ?_) <;> (refine Nav.imp ?_)
    · have hb : x < rb := by simpa using hb
      have hm : max rb (x + 1) = rb := by omega
      rw [hadd, if_neg (by omega), hm, hA]
      refine awp_region cx [] fun K hK => ?_
      simp [push_cast]
      repeat (refine And.intro (by clear hK; intros; first | omega | (simp_all; done) | (simp_all <;> omega)) ?_)
      refine hK _ ?_; clear hK K; refine Nav.imp ?_
      simp [push_cast]
    · have hb : ¬ x < rb := by simpa using hb
      refine awp_region cx [] fun K hK => ?_
      simp [push_cast, hz, e1, e2, e3, Run.row]
      repeat (refine And.intro (by clear hK; intros; first | omega | (simp_all; done) | (simp_all <;> omega)) ?_)
      refine hK _ ?_; clear hK K; refine Nav.imp ?_
      refine awp_cond (b := x == rb) (by simp [push_cast, e3]) (fun hb => ?_) (fun hb => ?_) <;> (refine Nav.imp ?_)
      · have hb2 : x = rb := by simpa using hb
        subst hb2
        have hm : max x (x + 1) = x + 1 := by omega
        rw [hadd, if_neg (by omega), hm]
        refine awp_region_draw cx mixed [] fun K hK => ?_
        simp [push_cast, hz, e1, e2, e3, Run.row, htk, ex, hle, hL16, hL17]
        repeat (refine And.intro (by clear hK; intros; first | omega | (simp_all; done) | (simp_all <;> omega)) ?_)
        refine hK _ _ (by kernel_rfl) ?_; clear hK K; refine Nav.imp ?_
        have ht : List.take (L.length + 1) (L.map Run.row ++ [[D.int IntKind.i64 ra, D.int IntKind.i64 (x + 1)]]) = L.map Run.row ++ [[D.int IntKind.i64 ra, D.int IntKind.i64 (x + 1)]] := List.take_of_length_le (by simp)
        have ht2 : List.take L.length (L.map Run.row) = L.map Run.row := List.take_of_length_le (by simp)
        simp [push_cast, ht, ht2]
      · have hb2 : ¬ x = rb := by simpa using hb
        rw [hadd, if_pos (by omega)]
        refine awp_region cx [] fun K hK => ?_
        simp [push_cast, ex, hA16, h16]
        repeat (refine And.intro (by clear hK; intros; first | omega | (simp_all; done) | (simp_all <;> omega)) ?_)
        refine hK _ ?_; clear hK K; refine Nav.imp ?_
        have ht : List.take (A.length + 1) (A.map Run.row ++ [[D.int IntKind.i64 x, D.int IntKind.i64 (x + 1)]]) = A.map Run.row ++ [[D.int IntKind.i64 x, D.int IntKind.i64 (x + 1)]] := List.take_of_length_le (by simp)
        simp [push_cast, ht, Run.row]
end Go.Proofs.Ytknelhiejjdioaa

set_option linter.unusedVariables false
set_option linter.unusedSimpArgs false
namespace Go.Proofs.Ytknelhiejjdioaa
open Go.Abs

/-! The reference: the region of cells. -/
/-- What Of returns: a region, and an error's number. -/
def ofR (l : List Cell) : List Row := if l.all onG then build (sortY l) else []
def ofE (l : List Cell) : Int := if l.all onG then 0 else 8
abbrev ofD (l : List Cell) : D := .tup [.agg (regRow (ofR l)), .int .i64 (ofE l)]

theorem addC_small {R : List Row} {n : Nat} (c : Cell) (h1 : R.length ≤ n) (h2 : ∀ w ∈ R, w.runs.length ≤ n) : (addC R c).length ≤ n + 1 ∧ ∀ w ∈ addC R c, w.runs.length ≤ n + 1 := by
  refine ⟨Nat.le_trans (addC_len R c) (by omega), fun w hw => ?_⟩
  rcases List.eq_nil_or_concat R with rfl | ⟨P, v, rfl⟩
  · rw [addC_nil] at hw; simp at hw; subst hw; simp
  · rw [List.concat_eq_append] at *
    rw [addC_end] at hw
    split at hw
    · rcases List.mem_append.1 hw with hw | hw
      · have := h2 w (by simp [hw]); omega
      · simp at hw
        subst hw
        have hv := h2 v (by simp)
        simp only
        rcases List.eq_nil_or_concat v.runs with e | ⟨L, r, e⟩
        · rw [e, addRun_nil]; simp
        · rw [List.concat_eq_append] at e
          rw [e] at hv ⊢
          rw [addRun_end]
          split <;> simp at hv ⊢ <;> omega
    · rcases List.mem_append.1 hw with hw | hw
      · have := h2 w hw; omega
      · simp at hw; subst hw; simp
theorem build_small (l : List Cell) : (build l).length ≤ l.length ∧ ∀ w ∈ build l, w.runs.length ≤ l.length := by
  have : ∀ k, k ≤ l.length → (build (l.take k)).length ≤ k ∧ ∀ w ∈ build (l.take k), w.runs.length ≤ k := by
    intro k
    induction k with
    | zero => intro _; simp [build]
    | succ k ih =>
      intro hk
      obtain ⟨c, hc⟩ := getq (show k < l.length by omega)
      rw [build_take hc]
      have := ih (by omega)
      exact addC_small c this.1 this.2
  have := this l.length (Nat.le_refl _)
  rwa [List.take_length] at this

set_option maxHeartbeats 4000000 in
theorem rof_ok (l : List Cell) (hl : l.length ≤ 1000000) : PC Try.prog 34 [encCells l] (.p (ofD l)) := by
  have hD : ofD l = .tup [.agg (regRow (ofR l)), .int .i64 (ofE l)] := rfl
  rw [hD]
  refine pc_of_awp cx (fn := Try.f34) (c := _) Try.func34 rfl rfl (Nat.le_of_ble_eq_true rfl) ?_
  rw [Try.ntmps34]; refine Nav.imp ?_
  refine awp_region cx [] fun K hK => ?_
  simp [push_cast]
  repeat (refine And.intro (by clear hK; intros; first | omega | (simp_all; done) | (simp_all <;> omega)) ?_)
  refine hK _ ?_; clear hK K; refine Nav.imp ?_
  refine awp_region cx [] fun K hK => ?_
  simp [push_cast]
  repeat (refine And.intro (by clear hK; intros; first | omega | (simp_all; done) | (simp_all <;> omega)) ?_)
  refine hK _ ?_; clear hK K; refine Nav.imp ?_
  refine awp_loop (β := Nat) (fun k => ⟨82, [(0, .d (encCells l)), (2, .ptr 0 0 0), (3, .d (.int .i64 0)), (4, .d (.int .i64 k))], [(0, some ⟨24, 1, [[.nl]]⟩)], 1⟩) (fun k => k ≤ l.length ∧ ∀ c ∈ l.take k, onG c = true) (fun k => l.length - k) 0 ?_ ⟨Nat.zero_le _, by simp⟩ ?_
  · refine weak_of [(0, some 0)] rfl (by simp [upT, up, upL, push_cast]) (by simp [upH, upR, upL, up, push_cast]) (by simp [namesOk, push_cast]) (by simp [olds])
  · rintro k ⟨hk, hon⟩
    refine Nav.imp ?_
    refine awp_region cx [] fun K hK => ?_
    simp [push_cast]
    repeat (refine And.intro (by clear hK; intros; first | omega | (simp_all; done) | (simp_all <;> omega)) ?_)
    refine hK _ ?_; clear hK K; refine Nav.imp ?_
    refine awp_cond (b := decide ((k : Int) < l.length)) (by simp [push_cast]) (fun hb => ?_) (fun hb => ?_) <;> (refine Nav.imp ?_)
    · have hlt : k < l.length := by simpa using hb
      obtain ⟨c, hc⟩ := getq hlt
      have e0 := wrap_i64 (n := (k : Int) + 1) (by omega) (by omega)
      have c1 := inRange_ok c
      generalize hv : onG c = v at c1
      refine awp_region cx [(4, .p (.bool v))] fun K hK => ?_
      simp [push_cast, hc, c1]
      repeat (refine And.intro (by clear hK; intros; first | omega | (simp_all; done) | (simp_all <;> omega)) ?_)
      refine hK _ ?_; clear hK K; refine Nav.imp ?_
      refine awp_cond (b := !v) (by simp [push_cast]) (fun hb => ?_) (fun hb => ?_) <;> (refine Nav.imp ?_)
      · simp at hb
        rw [hb] at hv
        have hall : l.all onG = false := by
          rw [Bool.eq_false_iff]
          intro h
          have := List.all_eq_true.1 h c (List.mem_of_getElem? hc)
          rw [hv] at this; cases this
        have h1 : ofR l = [] := by simp [ofR, hall]
        have h2 : ofE l = 8 := by simp [ofE, hall]
        rw [h1, h2]
        refine awp_region cx [] fun K hK => ?_
        simp [push_cast]
        repeat (refine And.intro (by clear hK; intros; first | omega | (simp_all; done) | (simp_all <;> omega)) ?_)
        refine hK _ ?_; clear hK K; refine Nav.imp ?_
        simp [push_cast]
      · simp at hb
        rw [hb] at hv
        refine awp_region cx [] fun K hK => ?_
        simp [push_cast, e0]
        repeat (refine And.intro (by clear hK; intros; first | omega | (simp_all; done) | (simp_all <;> omega)) ?_)
        refine hK _ ?_; clear hK K; refine Nav.imp ?_
        refine ⟨k + 1, ⟨hlt, fun d hd => ?_⟩, by omega, ?_⟩
        · rw [take_get hc] at hd
          rcases List.mem_append.1 hd with hd | hd
          · exact hon d hd
          · simp at hd; subst hd; exact hv
        · refine weak_of [(0, some 0)] rfl (by simp [upT, up, upL, push_cast]) (by simp [upH, upR, upL, up, push_cast]) (by simp [namesOk, push_cast]) (by simp [olds])
    · have hge : k = l.length := by simp at hb; omega
      subst hge
      rw [List.take_length] at hon
      have hall : l.all onG = true := List.all_eq_true.2 hon
      have h1 : ofR l = build (sortY l) := by simp [ofR, hall]
      have h2 : ofE l = 0 := by simp [ofE, hall]
      have c1 := sorted_ok l hl
      have hslen : (sortY l).length = l.length := (sortY_perm l).length_eq
      have hson : ∀ c ∈ sortY l, onG c = true := fun c hc => hon c ((sortY_perm l).mem_iff.1 hc)
      rw [h1, h2]
      clear h1 h2 hb hall
      generalize sortY l = s at *
      refine awp_region cx [(1, .p (encCells s))] fun K hK => ?_
      simp [push_cast, c1]
      repeat (refine And.intro (by clear hK; intros; first | omega | (simp_all; done) | (simp_all <;> omega)) ?_)
      refine hK _ ?_; clear hK K; refine Nav.imp ?_
      refine awp_region cx [] fun K hK => ?_
      simp [push_cast]
      repeat (refine And.intro (by clear hK; intros; first | omega | (simp_all; done) | (simp_all <;> omega)) ?_)
      refine hK _ ?_; clear hK K; refine Nav.imp ?_
      refine awp_region cx [] fun K hK => ?_
      simp [push_cast]
      repeat (refine And.intro (by clear hK; intros; first | omega | (simp_all; done) | (simp_all <;> omega)) ?_)
      refine hK _ ?_; clear hK K; refine Nav.imp ?_
      refine awp_loop (β := Nat × List Row) (fun b => ⟨82, [(0, .d (encCells s)), (2, .ptr 0 0 0), (5, .ptr 1 0 0), (6, .d (.int .i64 b.1))], [(0, some ⟨24, 1, [[.nl]]⟩), (1, some ⟨24, 1, [[.hs 2 0 b.2.length]]⟩), (2, some ⟨48, 2, dr (b.2.map Row.row)⟩)], 3⟩) (fun b => b.1 ≤ s.length ∧ b.2 = build (s.take b.1)) (fun b => s.length - b.1) (0, []) ?_ ⟨Nat.zero_le _, by simp [build]⟩ ?_
      · refine weak_of [(0, some 0), (1, some 8), (2, none)] rfl (by simp [upT, up, upL, push_cast]) (by simp [upH, upR, upL, up, push_cast]) (by simp [namesOk, push_cast]) (by simp [olds])
      · rintro ⟨k, X⟩ ⟨hk, hX⟩
        simp only at hk hX
        refine Nav.imp ?_
        refine awp_region cx [] fun K hK => ?_
        simp [push_cast]
        repeat (refine And.intro (by clear hK; intros; first | omega | (simp_all; done) | (simp_all <;> omega)) ?_)
        refine hK _ ?_; clear hK K; refine Nav.imp ?_
        refine awp_cond (b := decide ((k : Int) < s.length)) (by simp [push_cast]) (fun hb => ?_) (fun hb => ?_) <;> (refine Nav.imp ?_)
        · have hlt : k < s.length := by simpa using hb
          obtain ⟨c, hc⟩ := getq hlt
          have e0 := wrap_i64 (n := (k : Int) + 1) (by omega) (by omega)
          have hcg := onG_bd (hson c (List.mem_of_getElem? hc))
          have hnx : build (s.take (k + 1)) = addC X c := by rw [build_take hc, hX]
          have hsm := build_small (s.take k)
          rw [← hX] at hsm
          have hXl : X.length ≤ 1000000 := by have := hsm.1; simp at this; omega
          have hXr : ∀ w ∈ X, w.runs.length ≤ 1000000 := fun w hw => by have := hsm.2 w hw; simp at this; omega
          have hX32 : (X.length + 1) * 32 ≤ 140737488355328 := by omega
          clear hX hsm
          obtain ⟨x, y⟩ := c
          simp only at hcg
          refine awp_region cx [] fun K hK => ?_
          simp [push_cast]
          repeat (refine And.intro (by clear hK; intros; first | omega | (simp_all; done) | (simp_all <;> omega)) ?_)
          refine hK _ ?_; clear hK K; refine Nav.imp ?_
          rcases List.eq_nil_or_concat X with rfl | ⟨P, w, rfl⟩
          · rw [addC_nil] at hnx
            have c1 := with_ok [] x (by simp) (by omega)
            rw [addRun_nil] at c1
            simp only [encRuns, List.map_nil] at c1
            refine awp_region_draw cx mixed [] fun K hK => ?_
            simp [push_cast, hc]
            repeat (refine And.intro (by clear hK; intros; first | omega | (simp_all; done) | (simp_all <;> omega)) ?_)
            refine hK _ _ (by kernel_rfl) ?_; clear hK K; refine Nav.imp ?_
            refine awp_cond (b := true) (by simp [push_cast]) (fun hb => ?_) (fun hb => ?_) <;> (refine Nav.imp ?_)
            · refine awp_region_draw cx mixed [] fun K hK => ?_
              simp [push_cast, hc]
              repeat (refine And.intro (by clear hK; intros; first | omega | (simp_all; done) | (simp_all <;> omega)) ?_)
              refine hK _ _ (by kernel_rfl) ?_; clear hK K; refine Nav.imp ?_
              refine awp_region cx [] fun K hK => ?_
              simp [push_cast]
              repeat (refine And.intro (by clear hK; intros; first | omega | (simp_all; done) | (simp_all <;> omega)) ?_)
              refine hK _ ?_; clear hK K; refine Nav.imp ?_
              refine awp_region_draw cx mixed [(16, .p (encRuns [⟨x, x + 1⟩]))] fun K hK => ?_
              simp [push_cast, hc, c1]
              repeat (refine And.intro (by clear hK; intros; first | omega | (simp_all; done) | (simp_all <;> omega)) ?_)
              refine hK _ _ (by kernel_rfl) ?_; clear hK K; refine Nav.imp ?_
              refine awp_region cx [] fun K hK => ?_
              simp [push_cast, e0]
              repeat (refine And.intro (by clear hK; intros; first | omega | (simp_all; done) | (simp_all <;> omega)) ?_)
              refine hK _ ?_; clear hK K; refine Nav.imp ?_
              refine ⟨(k + 1, [⟨y, [⟨x, x + 1⟩]⟩]), ⟨hlt, hnx.symm⟩, by simp only; omega, ?_⟩
              refine weak_of [(0, some 0), (1, some 1), (2, some 37)] rfl (by simp [upT, up, upL, push_cast, Row.row]) (by simp [upH, upR, upL, up, push_cast, Row.row]) (by simp [namesOk, push_cast]) (by simp [olds])
            · simp at hb
          · rw [List.concat_eq_append] at *
            rw [addC_end] at hnx
            have hz : (P ++ [w])[P.length]? = some w := by simp
            have hlen : (P ++ [w]).length = P.length + 1 := by simp
            have hwr := hXr w (by simp)
            obtain ⟨wy, wr⟩ := w
            simp only at hnx hwr
            generalize hA : P ++ [⟨wy, wr⟩] = A at *
            have hA0 : ((A.length : Int) == 0) = false := by simp; rintro rfl; simp at hlen
            have e1 := wrap_i64 (n := (A.length : Int) - 1) (by omega) (by omega)
            have e2 : ((A.length : Int) - 1).toNat = P.length := by omega
            have e3 : (0 : Int) ≤ (A.length : Int) - 1 := by omega
            have e5 := wrap_i64 (n := (A.length : Int) + 1) (by omega) (by omega)
            have e6 := wrap_i64 (n := (A.length : Int)) (by omega) (by omega)
            refine awp_region_draw cx mixed [] fun K hK => ?_
            simp [push_cast, hc, hz, hA0, e1, e2, e3, Row.row]
            repeat (refine And.intro (by clear hK; intros; first | omega | (simp_all; done) | (simp_all <;> omega)) ?_)
            refine hK _ _ (by kernel_rfl) ?_; clear hK K; refine Nav.imp ?_
            refine awp_cond (b := wy != y) (by simp [push_cast, hA0]) (fun hb => ?_) (fun hb => ?_) <;> (refine Nav.imp ?_)
            · have hb : ¬ wy = y := by simpa using hb
              rw [if_neg hb] at hnx
              have c1 := with_ok [] x (by simp) (by omega)
              rw [addRun_nil] at c1
              simp only [encRuns, List.map_nil] at c1
              have hget : (dr (A.map Row.row) ++ [[AV.d (.int .i64 y), AV.nl]])[A.length]? = some [AV.d (.int .i64 y), AV.nl] := by
                rw [List.getElem?_append_right (by simp [dr])]; simp [dr]
              have hset : (dr (A.map Row.row) ++ [[AV.d (.int .i64 y), AV.nl]]).set A.length [AV.d (.int .i64 y), AV.d (encRuns [⟨x, x + 1⟩])] = dr ((A ++ [(⟨y, [⟨x, x + 1⟩]⟩ : Row)]).map Row.row) := by
                rw [List.set_append_right _ _ (by simp [dr])]; simp [dr, Row.row]
              refine awp_region_draw cx mixed [] fun K hK => ?_
              simp [push_cast, hc, hX32]
              repeat (refine And.intro (by clear hK; intros; first | omega | (simp_all; done) | (simp_all <;> omega)) ?_)
              refine hK _ _ (by kernel_rfl) ?_; clear hK K; refine Nav.imp ?_
              refine awp_region cx [] fun K hK => ?_
              simp [push_cast, e5]
              repeat (refine And.intro (by clear hK; intros; first | omega | (simp_all; done) | (simp_all <;> omega)) ?_)
              refine hK _ ?_; clear hK K; refine Nav.imp ?_
              refine awp_region_draw cx mixed [(16, .p (encRuns [⟨x, x + 1⟩]))] fun K hK => ?_
              simp [push_cast, hc, c1, e6, hget, hset]
              repeat (refine And.intro (by clear hK; intros; first | omega | (simp_all; done) | (simp_all <;> omega)) ?_)
              refine hK _ _ (by kernel_rfl) ?_; clear hK K; refine Nav.imp ?_
              refine awp_region cx [] fun K hK => ?_
              simp [push_cast, e0]
              repeat (refine And.intro (by clear hK; intros; first | omega | (simp_all; done) | (simp_all <;> omega)) ?_)
              refine hK _ ?_; clear hK K; refine Nav.imp ?_
              refine ⟨(k + 1, A ++ [⟨y, [⟨x, x + 1⟩]⟩]), ⟨hlt, hnx.symm⟩, by simp only; omega, ?_⟩
              refine weak_of [(0, some 0), (1, some 1), (2, some 37)] rfl (by simp [upT, up, upL, push_cast, Row.row]) (by simp [upH, upR, upL, up, push_cast, Row.row]) (by simp [namesOk, push_cast]) (by simp [olds])
            · have hb : wy = y := by simpa using hb
              rw [if_pos hb] at hnx
              have c1 := with_ok wr x hwr (by omega)
              have hset : (dr (A.map Row.row)).set P.length [AV.d (.int .i64 wy), AV.d (encRuns (addRun wr x))] = dr ((P ++ [(⟨wy, addRun wr x⟩ : Row)]).map Row.row) := by
                rw [← hA]; simp [dr, Row.row]
              generalize addRun wr x = nr at *
              refine awp_region_draw cx mixed [(16, .p (encRuns nr))] fun K hK => ?_
              simp [push_cast, hc, hz, c1, e1, e2, e3, hset, Row.row]
              repeat (refine And.intro (by clear hK; intros; first | omega | (simp_all; done) | (simp_all <;> omega)) ?_)
              refine hK _ _ (by kernel_rfl) ?_; clear hK K; refine Nav.imp ?_
              refine awp_region cx [] fun K hK => ?_
              simp [push_cast, e0]
              repeat (refine And.intro (by clear hK; intros; first | omega | (simp_all; done) | (simp_all <;> omega)) ?_)
              refine hK _ ?_; clear hK K; refine Nav.imp ?_
              have hlP : A.length = (P ++ [(⟨wy, nr⟩ : Row)]).length := by simp [hlen]
              rw [hlP]
              refine ⟨(k + 1, P ++ [(⟨wy, nr⟩ : Row)]), ⟨hlt, hnx.symm⟩, by simp only; omega, ?_⟩
              refine weak_of [(0, some 0), (1, some 1), (2, some 2)] rfl (by simp [upT, up, upL, push_cast, Row.row]) (by simp [upH, upR, upL, up, push_cast, Row.row]) (by simp [namesOk, push_cast]) (by simp [olds])
        · have hge : k = s.length := by simp at hb; omega
          subst hge
          rw [List.take_length] at hX
          rw [← hX]
          refine awp_freeze 2 (X.map Row.row) rfl (by simp [push_cast, Row.row]) fun K hK => ?_
          simp [push_cast, St.fz, fzT, fzH, fzO, fz, fzL, fzR, fzR_dr, fzR_app, fzR_set, fzL_map, Row.row]
          refine hK _ ?_; clear hK K; refine Nav.imp ?_
          refine awp_region cx [] fun K hK => ?_
          simp [push_cast]
          repeat (refine And.intro (by clear hK; intros; first | omega | (simp_all; done) | (simp_all <;> omega)) ?_)
          refine hK _ ?_; clear hK K; refine Nav.imp ?_
          simp [push_cast]
end Go.Proofs.Ytknelhiejjdioaa

set_option linter.unusedVariables false
set_option linter.unusedSimpArgs false
namespace Go.Proofs.Ytknelhiejjdioaa
open Go.Abs

theorem swX_le {a b : List Run} (ha : rvalid a = true) (hb : rvalid b = true) {p q : Nat} (hp : p ≤ 2 * a.length) (hq : q ≤ 2 * b.length) (hn : ¬ (p = 2 * a.length ∧ q = 2 * b.length)) :
    swP a (swX a b p q) p ≤ 2 * a.length ∧ swP b (swX a b p q) q ≤ 2 * b.length ∧ p + q + 1 ≤ swP a (swX a b p q) p + swP b (swX a b p q) q ∧ p ≤ swP a (swX a b p q) p := by
  have x1 : swX a b p q ≤ bnd a p := Int.min_le_left _ _
  have x2 : swX a b p q ≤ bnd b q := Int.min_le_right _ _
  have x3 : swX a b p q = bnd a p ∨ swX a b p q = bnd b q := by unfold swX; omega
  have hXb : swX a b p q ≤ 1048576 := by
    by_cases e : p < 2 * a.length
    · have := bnd_fits ha e; omega
    · have := bnd_fits hb (i := q) (by omega); omega
  have k1 : bnd a p = swX a b p q → p < 2 * a.length := fun e => by
    apply Classical.byContradiction
    intro h
    have h3 : bnd a p = 1048577 := by rw [show p = 2 * a.length from by omega]; exact bnd_over a
    omega
  have k2 : bnd b q = swX a b p q → q < 2 * b.length := fun e => by
    apply Classical.byContradiction
    intro h
    have h3 : bnd b q = 1048577 := by rw [show q = 2 * b.length from by omega]; exact bnd_over b
    omega
  unfold swP
  refine ⟨?_, ?_, ?_, ?_⟩
  · split
    · rename_i e; have := k1 e; omega
    · exact hp
  · split
    · rename_i e; have := k2 e; omega
    · exact hq
  · split <;> split <;> omega
  · split <;> omega

set_option maxRecDepth 100000 in
set_option maxHeartbeats 4000000 in
theorem sweepc_ok (f : Bool → Bool → Bool) (g : FuncId) (hg : ∀ x y, PC Try.prog g [.bool x, .bool y] (.p (.bool (f x y)))) (a b : List Run) (hal : a.length ≤ 1000000) (hbl : b.length ≤ 1000000) (ha : rvalid a = true) (hb : rvalid b = true) :
    PC Try.prog 68 [encRuns a, encRuns b, .fn (.func g) []] (.p (encRuns (sweep f a b))) := by
  have c1 := rvalid_ok a hal
  have c2 := rvalid_ok b hbl
  rw [ha] at c1
  rw [hb] at c2
  have hres : sweep f a b = swF f a b (2 * a.length + 2 * b.length) 0 0 [] false := by simp [sweep, ha, hb]
  generalize sweep f a b = res at *
  refine pc_of_awp cx (fn := Try.f68) (c := _) Try.func68 rfl rfl (Nat.le_of_ble_eq_true rfl) ?_
  rw [Try.ntmps68]; refine Nav.imp ?_
  refine awp_region cx [] fun K hK => ?_
  simp [push_cast]
  repeat (refine And.intro (by clear hK; intros; first | omega | (simp_all; done) | (simp_all <;> omega)) ?_)
  refine hK _ ?_; clear hK K; refine Nav.imp ?_
  refine awp_region cx [(1, .p (.bool true)), (5, .p (.bool true))] fun K hK => ?_
  simp [push_cast, c1, c2]
  repeat (refine And.intro (by clear hK; intros; first | omega | (simp_all; done) | (simp_all <;> omega)) ?_)
  refine hK _ ?_; clear hK K; refine Nav.imp ?_
  refine awp_cond (b := false) (by simp [push_cast]) (fun hb => ?_) (fun hb => ?_) <;> (refine Nav.imp ?_)
  · simp at hb
  · clear hb
    refine awp_region cx [] fun K hK => ?_
    simp [push_cast]
    repeat (refine And.intro (by clear hK; intros; first | omega | (simp_all; done) | (simp_all <;> omega)) ?_)
    refine hK _ ?_; clear hK K; refine Nav.imp ?_
    refine awp_region cx [] fun K hK => ?_
    simp [push_cast]
    repeat (refine And.intro (by clear hK; intros; first | omega | (simp_all; done) | (simp_all <;> omega)) ?_)
    refine hK _ ?_; clear hK K; refine Nav.imp ?_
    refine awp_region cx [] fun K hK => ?_
    simp [push_cast]
    repeat (refine And.intro (by clear hK; intros; first | omega | (simp_all; done) | (simp_all <;> omega)) ?_)
    refine hK _ ?_; clear hK K; refine Nav.imp ?_
    refine awp_loop (β := Nat × Nat × List Run × Bool) (fun s => ⟨78, [(2, .d (.fn (.func g) [])), (7, .ptr 0 0 0), (8, .ptr 1 0 0), (9, .hs 2 0 s.2.2.1.length), (10, .d (.bool s.2.2.2))], [(0, some ⟨116, 2, [(bdRow a s.1).map .d]⟩), (1, some ⟨116, 2, [(bdRow b s.2.1).map .d]⟩), (2, some ⟨51, 2, dr (s.2.2.1.map Run.row)⟩)], 3⟩)
      (fun s => s.1 ≤ 2 * a.length ∧ s.2.1 ≤ 2 * b.length ∧ (∃ n, 2 * a.length + 2 * b.length ≤ n + (s.1 + s.2.1) ∧ swF f a b n s.1 s.2.1 s.2.2.1 s.2.2.2 = res) ∧ (s.2.2.2 = true → s.2.2.1 ≠ []) ∧ s.2.2.1.length ≤ s.1 + s.2.1) (fun s => 2 * a.length + 2 * b.length - (s.1 + s.2.1)) (0, 0, [], false) ?_ ⟨Nat.zero_le _, Nat.zero_le _, ⟨_, by simp only; omega, hres.symm⟩, by simp, by simp⟩ ?_
    · refine weak_of [(0, some 11), (1, some 14), (2, none)] rfl (by simp [upT, up, upL, push_cast]) (by simp [upH, upR, upL, up, push_cast]) (by simp [namesOk, push_cast]) (by simp [olds])
    · rintro ⟨p, q, out, o⟩ ⟨hp, hq, ⟨n, hn, hsw⟩, hone, hol⟩
      simp only at hp hq hn hsw hone hol
      clear hres
      have d1 := over_ok a p hal hp
      have d2 := over_ok b q hbl hq
      have d3 := next_ok a p hal hp
      have d4 := next_ok b q hbl hq
      refine Nav.imp ?_
      by_cases hover : p = 2 * a.length ∧ q = 2 * b.length
      · rw [decide_eq_true hover.1] at d1
        rw [decide_eq_true hover.2] at d2
        have hre : res = out := by
          rw [← hsw]
          cases n with
          | zero => rfl
          | succ n => unfold swF; rw [if_pos hover]
        rw [hre]
        refine awp_region cx [(1, .x ⟨[(0, 0)], [.ptr 0 0 0], [(0, ⟨116, 2, [(bdRow a p).map .d]⟩)], [(0, 0)], none, [(0, ⟨116, 2, [(bdRow a p).map .d]⟩)], .d (.bool true)⟩), (5, .x ⟨[(0, 1)], [.ptr 0 0 0], [(0, ⟨116, 2, [(bdRow b q).map .d]⟩)], [(0, 0)], none, [(0, ⟨116, 2, [(bdRow b q).map .d]⟩)], .d (.bool true)⟩)] fun K hK => ?_
        simp [push_cast, d1, d2]
        repeat (refine And.intro (by clear hK; intros; first | omega | (simp_all; done) | (simp_all <;> omega)) ?_)
        refine hK _ ?_; clear hK K; refine Nav.imp ?_
        refine awp_cond (b := false) (by simp [push_cast]) (fun hb => ?_) (fun hb => ?_) <;> (refine Nav.imp ?_)
        · simp at hb
        · refine awp_region cx [] fun K hK => ?_
          simp [push_cast]
          repeat (refine And.intro (by clear hK; intros; first | omega | (simp_all; done) | (simp_all <;> omega)) ?_)
          refine hK _ ?_; clear hK K; refine Nav.imp ?_
          have ht : List.take out.length (out.map Run.row) = out.map Run.row := List.take_of_length_le (by simp)
          simp [push_cast, ht]
      · apply cut_
        · intro key
          by_cases hpo : p = 2 * a.length
          · have hqo : ¬ q = 2 * b.length := fun e => hover ⟨hpo, e⟩
            rw [decide_eq_true hpo] at d1
            rw [decide_eq_false hqo] at d2
            refine awp_region cx [(1, .x ⟨[(0, 0)], [.ptr 0 0 0], [(0, ⟨116, 2, [(bdRow a p).map .d]⟩)], [(0, 0)], none, [(0, ⟨116, 2, [(bdRow a p).map .d]⟩)], .d (.bool true)⟩), (5, .x ⟨[(0, 1)], [.ptr 0 0 0], [(0, ⟨116, 2, [(bdRow b q).map .d]⟩)], [(0, 0)], none, [(0, ⟨116, 2, [(bdRow b q).map .d]⟩)], .d (.bool false)⟩)] fun K hK => ?_
            simp [push_cast, d1, d2]
            repeat (refine And.intro (by clear hK; intros; first | omega | (simp_all; done) | (simp_all <;> omega)) ?_)
            refine hK _ ?_; clear hK K; refine Nav.imp ?_
            refine awp_cond (b := true) (by simp [push_cast]) (fun hb => ?_) (fun hb => ?_) <;> (refine Nav.imp ?_)
            · refine awp_weak (s' := ⟨78, [(2, .d (.fn (.func g) [])), (7, .ptr 0 0 0), (8, .ptr 1 0 0), (9, .hs 2 0 out.length), (10, .d (.bool o))], [(0, some ⟨116, 2, [(bdRow a p).map .d]⟩), (1, some ⟨116, 2, [(bdRow b q).map .d]⟩), (2, some ⟨51, 2, dr (out.map Run.row)⟩)], 3⟩) ?_ key.h
              refine weak_of [(0, some 0), (1, some 1), (2, some 2)] rfl (by simp [upT, up, upL, push_cast]) (by simp [upH, upR, upL, up, push_cast]) (by simp [namesOk, push_cast]) (by simp [olds])
            · simp at hb
          · rw [decide_eq_false hpo] at d1
            refine awp_region cx [(1, .x ⟨[(0, 0)], [.ptr 0 0 0], [(0, ⟨116, 2, [(bdRow a p).map .d]⟩)], [(0, 0)], none, [(0, ⟨116, 2, [(bdRow a p).map .d]⟩)], .d (.bool false)⟩), (5, .skip)] fun K hK => ?_
            simp [push_cast, d1]
            repeat (refine And.intro (by clear hK; intros; first | omega | (simp_all; done) | (simp_all <;> omega)) ?_)
            refine hK _ ?_; clear hK K; refine Nav.imp ?_
            refine awp_cond (b := true) (by simp [push_cast]) (fun hb => ?_) (fun hb => ?_) <;> (refine Nav.imp ?_)
            · refine awp_weak (s' := ⟨78, [(2, .d (.fn (.func g) [])), (7, .ptr 0 0 0), (8, .ptr 1 0 0), (9, .hs 2 0 out.length), (10, .d (.bool o))], [(0, some ⟨116, 2, [(bdRow a p).map .d]⟩), (1, some ⟨116, 2, [(bdRow b q).map .d]⟩), (2, some ⟨51, 2, dr (out.map Run.row)⟩)], 3⟩) ?_ key.h
              refine weak_of [(0, some 0), (1, some 1), (2, some 2)] rfl (by simp [upT, up, upL, push_cast]) (by simp [upH, upR, upL, up, push_cast]) (by simp [namesOk, push_cast]) (by simp [olds])
            · simp at hb
        · obtain ⟨n, rfl⟩ : ∃ m, n = m + 1 := ⟨n - 1, by omega⟩
          obtain ⟨y1, y2, y3, y4⟩ := swX_le ha hb hp hq hover
          unfold swF at hsw
          rw [if_neg hover] at hsw
          have hx : swX a b p q = min (bnd a p) (bnd b q) := rfl
          have d5 := pass_ok a p (swX a b p q) hal hp
          have d6 := pass_ok b q (swX a b p q) hbl hq
          have d7 := inside_ok a (swP a (swX a b p q) p) hal y1
          have d8 := inside_ok b (swP b (swX a b p q) q) hbl y2
          have d9 := hg (swP a (swX a b p q) p % 2 == 1) (swP b (swX a b p q) q % 2 == 1)
          generalize swP a (swX a b p q) p = p' at *
          generalize swP b (swX a b p q) q = q' at *
          generalize swX a b p q = x at *
          generalize bnd a p = ba at *
          generalize bnd b q = bb at *
          generalize (p' % 2 == 1) = i1 at *
          generalize (q' % 2 == 1) = i2 at *
          generalize f i1 i2 = now at *
          refine Nav.imp ?_
          refine awp_region cx [(1, .x ⟨[(0, 0)], [.ptr 0 0 0], [(0, ⟨116, 2, [(bdRow a p).map .d]⟩)], [(0, 0)], none, [(0, ⟨116, 2, [(bdRow a p).map .d]⟩)], .d (.int .i64 ba)⟩), (3, .x ⟨[(0, 1)], [.ptr 0 0 0], [(0, ⟨116, 2, [(bdRow b q).map .d]⟩)], [(0, 0)], none, [(0, ⟨116, 2, [(bdRow b q).map .d]⟩)], .d (.int .i64 bb)⟩)] fun K hK => ?_
          simp [push_cast, d3, d4]
          repeat (refine And.intro (by clear hK; intros; first | omega | (simp_all; done) | (simp_all <;> omega)) ?_)
          refine hK _ ?_; clear hK K; refine Nav.imp ?_
          rw [← hx]
          refine awp_region cx [(2, .x ⟨[(0, 0)], [.ptr 0 0 0, .d (.int .i64 x)], [(0, ⟨116, 2, [(bdRow a p).map .d]⟩)], [(0, 0)], none, [(0, ⟨116, 2, [(bdRow a p').map .d]⟩)], .tup []⟩)] fun K hK => ?_
          simp [push_cast, d5]
          repeat (refine And.intro (by clear hK; intros; first | omega | (simp_all; done) | (simp_all <;> omega)) ?_)
          refine hK _ ?_; clear hK K; refine Nav.imp ?_
          refine awp_region cx [(2, .x ⟨[(0, 1)], [.ptr 0 0 0, .d (.int .i64 x)], [(0, ⟨116, 2, [(bdRow b q).map .d]⟩)], [(0, 0)], none, [(0, ⟨116, 2, [(bdRow b q').map .d]⟩)], .tup []⟩)] fun K hK => ?_
          simp [push_cast, d6]
          repeat (refine And.intro (by clear hK; intros; first | omega | (simp_all; done) | (simp_all <;> omega)) ?_)
          refine hK _ ?_; clear hK K; refine Nav.imp ?_
          refine awp_region cx [(2, .x ⟨[(0, 0)], [.ptr 0 0 0], [(0, ⟨116, 2, [(bdRow a p').map .d]⟩)], [(0, 0)], none, [(0, ⟨116, 2, [(bdRow a p').map .d]⟩)], .d (.bool i1)⟩), (4, .x ⟨[(0, 1)], [.ptr 0 0 0], [(0, ⟨116, 2, [(bdRow b q').map .d]⟩)], [(0, 0)], none, [(0, ⟨116, 2, [(bdRow b q').map .d]⟩)], .d (.bool i2)⟩), (5, .p (.bool now))] fun K hK => ?_
          simp [push_cast, d7, d8, d9]
          repeat (refine And.intro (by clear hK; intros; first | omega | (simp_all; done) | (simp_all <;> omega)) ?_)
          refine hK _ ?_; clear hK K; refine Nav.imp ?_
          clear d1 d2 d3 d4 d5 d6 d7 d8 d9 c1 c2
          have ho16 : (out.length + 1) * 16 ≤ 140737488355328 := by omega
          cases now with
          | true =>
            cases o with
            | false =>
              have hso : swOut true false out x = out ++ [⟨x, 0⟩] := by simp [swOut]
              rw [hso] at hsw
              refine awp_region cx [] fun K hK => ?_
              simp [push_cast]
              repeat (refine And.intro (by clear hK; intros; first | omega | (simp_all; done) | (simp_all <;> omega)) ?_)
              refine hK _ ?_; clear hK K; refine Nav.imp ?_
              refine awp_cond (b := true) (by simp [push_cast]) (fun hb => ?_) (fun hb => ?_) <;> (refine Nav.imp ?_)
              · refine awp_region cx [] fun K hK => ?_
                simp [push_cast, ho16]
                repeat (refine And.intro (by clear hK; intros; first | omega | (simp_all; done) | (simp_all <;> omega)) ?_)
                refine hK _ ?_; clear hK K; refine Nav.imp ?_
                refine awp_region cx [] fun K hK => ?_
                simp [push_cast]
                repeat (refine And.intro (by clear hK; intros; first | omega | (simp_all; done) | (simp_all <;> omega)) ?_)
                refine hK _ ?_; clear hK K; refine Nav.imp ?_
                refine ⟨(p', q', out ++ [⟨x, 0⟩], true), ⟨y1, y2, ⟨n, by simp only; omega, hsw⟩, by simp, by simp; omega⟩, by simp only; omega, ?_⟩
                refine weak_of [(0, some 0), (1, some 1), (2, some 32)] rfl (by simp [upT, up, upL, push_cast, Run.row]) (by simp [upH, upR, upL, up, push_cast, Run.row]) (by simp [namesOk, push_cast]) (by simp [olds])
              · simp at hb
            | true =>
              have hso : swOut true true out x = out := by simp [swOut]
              rw [hso] at hsw
              refine awp_region cx [] fun K hK => ?_
              simp [push_cast]
              repeat (refine And.intro (by clear hK; intros; first | omega | (simp_all; done) | (simp_all <;> omega)) ?_)
              refine hK _ ?_; clear hK K; refine Nav.imp ?_
              refine awp_cond (b := false) (by simp [push_cast]) (fun hb => ?_) (fun hb => ?_) <;> (refine Nav.imp ?_)
              · simp at hb
              · refine awp_region cx [] fun K hK => ?_
                simp [push_cast]
                repeat (refine And.intro (by clear hK; intros; first | omega | (simp_all; done) | (simp_all <;> omega)) ?_)
                refine hK _ ?_; clear hK K; refine Nav.imp ?_
                refine awp_cond (b := false) (by simp [push_cast]) (fun hb => ?_) (fun hb => ?_) <;> (refine Nav.imp ?_)
                · simp at hb
                · refine awp_region cx [] fun K hK => ?_
                  simp [push_cast]
                  repeat (refine And.intro (by clear hK; intros; first | omega | (simp_all; done) | (simp_all <;> omega)) ?_)
                  refine hK _ ?_; clear hK K; refine Nav.imp ?_
                  refine ⟨(p', q', out, true), ⟨y1, y2, ⟨n, by simp only; omega, hsw⟩, hone, by simp only; omega⟩, by simp only; omega, ?_⟩
                  refine weak_of [(0, some 0), (1, some 1), (2, some 2)] rfl (by simp [upT, up, upL, push_cast, Run.row]) (by simp [upH, upR, upL, up, push_cast, Run.row]) (by simp [namesOk, push_cast]) (by simp [olds])
          | false =>
            cases o with
            | false =>
              have hso : swOut false false out x = out := by simp [swOut]
              rw [hso] at hsw
              refine awp_region cx [] fun K hK => ?_
              simp [push_cast]
              repeat (refine And.intro (by clear hK; intros; first | omega | (simp_all; done) | (simp_all <;> omega)) ?_)
              refine hK _ ?_; clear hK K; refine Nav.imp ?_
              refine awp_cond (b := false) (by simp [push_cast]) (fun hb => ?_) (fun hb => ?_) <;> (refine Nav.imp ?_)
              · simp at hb
              · refine awp_region cx [] fun K hK => ?_
                simp [push_cast]
                repeat (refine And.intro (by clear hK; intros; first | omega | (simp_all; done) | (simp_all <;> omega)) ?_)
                refine hK _ ?_; clear hK K; refine Nav.imp ?_
                refine awp_cond (b := false) (by simp [push_cast]) (fun hb => ?_) (fun hb => ?_) <;> (refine Nav.imp ?_)
                · simp at hb
                · refine awp_region cx [] fun K hK => ?_
                  simp [push_cast]
                  repeat (refine And.intro (by clear hK; intros; first | omega | (simp_all; done) | (simp_all <;> omega)) ?_)
                  refine hK _ ?_; clear hK K; refine Nav.imp ?_
                  refine ⟨(p', q', out, false), ⟨y1, y2, ⟨n, by simp only; omega, hsw⟩, by simp, by simp only; omega⟩, by simp only; omega, ?_⟩
                  refine weak_of [(0, some 0), (1, some 1), (2, some 2)] rfl (by simp [upT, up, upL, push_cast, Run.row]) (by simp [upH, upR, upL, up, push_cast, Run.row]) (by simp [namesOk, push_cast]) (by simp [olds])
            | true =>
              obtain ⟨L, r, rfl⟩ : ∃ L r, out = L ++ [r] := by
                rcases List.eq_nil_or_concat out with e | ⟨L, r, e⟩
                · exact absurd e (hone rfl)
                · exact ⟨L, r, by rw [e, List.concat_eq_append]⟩
              obtain ⟨ra, rb⟩ := r
              have hso : swOut false true (L ++ [⟨ra, rb⟩]) x = L ++ [⟨ra, x⟩] := by simp [swOut]
              rw [hso] at hsw
              have hz : (L ++ [(⟨ra, rb⟩ : Run)])[L.length]? = some ⟨ra, rb⟩ := by simp
              have hlen : (L ++ [(⟨ra, rb⟩ : Run)]).length = L.length + 1 := by simp
              have hset : (dr ((L ++ [(⟨ra, rb⟩ : Run)]).map Run.row)).set L.length [AV.d (.int .i64 ra), AV.d (.int .i64 x)] = dr ((L ++ [(⟨ra, x⟩ : Run)]).map Run.row) := by simp [dr, Run.row]
              have hlen2 : (L ++ [(⟨ra, x⟩ : Run)]).length = (L ++ [(⟨ra, rb⟩ : Run)]).length := by simp
              have hne : L ++ [(⟨ra, x⟩ : Run)] ≠ [] := by simp
              generalize L ++ [(⟨ra, x⟩ : Run)] = C at *
              generalize L ++ [(⟨ra, rb⟩ : Run)] = B at *
              have e7 := wrap_i64 (n := (B.length : Int) - 1) (by omega) (by omega)
              have e8 : ((B.length : Int) - 1).toNat = L.length := by omega
              have e9 : (0 : Int) ≤ (B.length : Int) - 1 := by omega
              refine awp_region cx [] fun K hK => ?_
              simp [push_cast]
              repeat (refine And.intro (by clear hK; intros; first | omega | (simp_all; done) | (simp_all <;> omega)) ?_)
              refine hK _ ?_; clear hK K; refine Nav.imp ?_
              refine awp_cond (b := false) (by simp [push_cast]) (fun hb => ?_) (fun hb => ?_) <;> (refine Nav.imp ?_)
              · simp at hb
              · refine awp_region cx [] fun K hK => ?_
                simp [push_cast]
                repeat (refine And.intro (by clear hK; intros; first | omega | (simp_all; done) | (simp_all <;> omega)) ?_)
                refine hK _ ?_; clear hK K; refine Nav.imp ?_
                refine awp_cond (b := true) (by simp [push_cast]) (fun hb => ?_) (fun hb => ?_) <;> (refine Nav.imp ?_)
                · refine awp_region cx [] fun K hK => ?_
                  simp [push_cast, hz, e7, e8, e9, hset, Run.row]
                  repeat (refine And.intro (by clear hK; intros; first | omega | (simp_all; done) | (simp_all <;> omega)) ?_)
                  refine hK _ ?_; clear hK K; refine Nav.imp ?_
                  refine awp_region cx [] fun K hK => ?_
                  simp [push_cast]
                  repeat (refine And.intro (by clear hK; intros; first | omega | (simp_all; done) | (simp_all <;> omega)) ?_)
                  refine hK _ ?_; clear hK K; refine Nav.imp ?_
                  rw [← hlen2]
                  refine ⟨(p', q', C, false), ⟨y1, y2, ⟨n, by simp only; omega, hsw⟩, by simp, by simp only; omega⟩, by simp only; omega, ?_⟩
                  refine weak_of [(0, some 0), (1, some 1), (2, some 2)] rfl (by simp [upT, up, upL, push_cast, Run.row]) (by simp [upH, upR, upL, up, push_cast, Run.row]) (by simp [namesOk, push_cast]) (by simp [olds])
                · simp at hb

def fU (x y : Bool) : Bool := x || y
def fI (x y : Bool) : Bool := x && y
def fD (x y : Bool) : Bool := x && !y
theorem keepU (x y : Bool) : PC Try.prog 69 [.bool x, .bool y] (.p (.bool (fU x y))) := by
  refine pc_of_awp cx (fn := Try.f69) (c := _) Try.func69 rfl rfl (Nat.le_of_ble_eq_true rfl) ?_
  rw [Try.ntmps69]; refine Nav.imp ?_
  refine awp_region cx [] fun K hK => ?_
  simp [push_cast]
  repeat (refine And.intro (by clear hK; intros; first | omega | (simp_all; done) | (simp_all <;> omega)) ?_)
  refine hK _ ?_; clear hK K; refine Nav.imp ?_
  cases x <;> cases y
  · refine awp_region cx [] fun K hK => ?_
    simp [push_cast]
    repeat (refine And.intro (by clear hK; intros; first | omega | (simp_all; done) | (simp_all <;> omega)) ?_)
    refine hK _ ?_; clear hK K; refine Nav.imp ?_
    simp [push_cast, fU]
  · refine awp_region cx [] fun K hK => ?_
    simp [push_cast]
    repeat (refine And.intro (by clear hK; intros; first | omega | (simp_all; done) | (simp_all <;> omega)) ?_)
    refine hK _ ?_; clear hK K; refine Nav.imp ?_
    simp [push_cast, fU]
  · refine awp_region cx [] fun K hK => ?_
    simp [push_cast]
    repeat (refine And.intro (by clear hK; intros; first | omega | (simp_all; done) | (simp_all <;> omega)) ?_)
    refine hK _ ?_; clear hK K; refine Nav.imp ?_
    simp [push_cast, fU]
  · refine awp_region cx [] fun K hK => ?_
    simp [push_cast]
    repeat (refine And.intro (by clear hK; intros; first | omega | (simp_all; done) | (simp_all <;> omega)) ?_)
    refine hK _ ?_; clear hK K; refine Nav.imp ?_
    simp [push_cast, fU]
theorem keepI (x y : Bool) : PC Try.prog 70 [.bool x, .bool y] (.p (.bool (fI x y))) := by
  refine pc_of_awp cx (fn := Try.f70) (c := _) Try.func70 rfl rfl (Nat.le_of_ble_eq_true rfl) ?_
  rw [Try.ntmps70]; refine Nav.imp ?_
  refine awp_region cx [] fun K hK => ?_
  simp [push_cast]
  repeat (refine And.intro (by clear hK; intros; first | omega | (simp_all; done) | (simp_all <;> omega)) ?_)
  refine hK _ ?_; clear hK K; refine Nav.imp ?_
  cases x <;> cases y
  · refine awp_region cx [] fun K hK => ?_
    simp [push_cast]
    repeat (refine And.intro (by clear hK; intros; first | omega | (simp_all; done) | (simp_all <;> omega)) ?_)
    refine hK _ ?_; clear hK K; refine Nav.imp ?_
    simp [push_cast, fI]
  · refine awp_region cx [] fun K hK => ?_
    simp [push_cast]
    repeat (refine And.intro (by clear hK; intros; first | omega | (simp_all; done) | (simp_all <;> omega)) ?_)
    refine hK _ ?_; clear hK K; refine Nav.imp ?_
    simp [push_cast, fI]
  · refine awp_region cx [] fun K hK => ?_
    simp [push_cast]
    repeat (refine And.intro (by clear hK; intros; first | omega | (simp_all; done) | (simp_all <;> omega)) ?_)
    refine hK _ ?_; clear hK K; refine Nav.imp ?_
    simp [push_cast, fI]
  · refine awp_region cx [] fun K hK => ?_
    simp [push_cast]
    repeat (refine And.intro (by clear hK; intros; first | omega | (simp_all; done) | (simp_all <;> omega)) ?_)
    refine hK _ ?_; clear hK K; refine Nav.imp ?_
    simp [push_cast, fI]
theorem keepD (x y : Bool) : PC Try.prog 88 [.bool x, .bool y] (.p (.bool (fD x y))) := by
  refine pc_of_awp cx (fn := Try.f88) (c := _) Try.func88 rfl rfl (Nat.le_of_ble_eq_true rfl) ?_
  rw [Try.ntmps88]; refine Nav.imp ?_
  refine awp_region cx [] fun K hK => ?_
  simp [push_cast]
  repeat (refine And.intro (by clear hK; intros; first | omega | (simp_all; done) | (simp_all <;> omega)) ?_)
  refine hK _ ?_; clear hK K; refine Nav.imp ?_
  cases x <;> cases y
  · refine awp_region cx [] fun K hK => ?_
    simp [push_cast]
    repeat (refine And.intro (by clear hK; intros; first | omega | (simp_all; done) | (simp_all <;> omega)) ?_)
    refine hK _ ?_; clear hK K; refine Nav.imp ?_
    simp [push_cast, fD]
  · refine awp_region cx [] fun K hK => ?_
    simp [push_cast]
    repeat (refine And.intro (by clear hK; intros; first | omega | (simp_all; done) | (simp_all <;> omega)) ?_)
    refine hK _ ?_; clear hK K; refine Nav.imp ?_
    simp [push_cast, fD]
  · refine awp_region cx [] fun K hK => ?_
    simp [push_cast]
    repeat (refine And.intro (by clear hK; intros; first | omega | (simp_all; done) | (simp_all <;> omega)) ?_)
    refine hK _ ?_; clear hK K; refine Nav.imp ?_
    simp [push_cast, fD]
  · refine awp_region cx [] fun K hK => ?_
    simp [push_cast]
    repeat (refine And.intro (by clear hK; intros; first | omega | (simp_all; done) | (simp_all <;> omega)) ?_)
    refine hK _ ?_; clear hK K; refine Nav.imp ?_
    simp [push_cast, fD]
theorem union_ok (a b : List Run) (hal : a.length ≤ 1000000) (hbl : b.length ≤ 1000000) (ha : rvalid a = true) (hb : rvalid b = true) : PC Try.prog 39 [encRuns a, encRuns b] (.p (encRuns (sweep fU a b))) := by
  have c1 := sweepc_ok fU 69 keepU a b hal hbl ha hb
  generalize sweep fU a b = r at *
  refine pc_of_awp cx (fn := Try.f39) (c := _) Try.func39 rfl rfl (Nat.le_of_ble_eq_true rfl) ?_
  rw [Try.ntmps39]; refine Nav.imp ?_
  refine awp_region cx [] fun K hK => ?_
  simp [push_cast]
  repeat (refine And.intro (by clear hK; intros; first | omega | (simp_all; done) | (simp_all <;> omega)) ?_)
  refine hK _ ?_; clear hK K; refine Nav.imp ?_
  refine awp_region cx [(2, .p (encRuns r))] fun K hK => ?_
  simp [push_cast, c1]
  repeat (refine And.intro (by clear hK; intros; first | omega | (simp_all; done) | (simp_all <;> omega)) ?_)
  refine hK _ ?_; clear hK K; refine Nav.imp ?_
  simp [push_cast]
theorem intersect_ok (a b : List Run) (hal : a.length ≤ 1000000) (hbl : b.length ≤ 1000000) (ha : rvalid a = true) (hb : rvalid b = true) : PC Try.prog 40 [encRuns a, encRuns b] (.p (encRuns (sweep fI a b))) := by
  have c1 := sweepc_ok fI 70 keepI a b hal hbl ha hb
  generalize sweep fI a b = r at *
  refine pc_of_awp cx (fn := Try.f40) (c := _) Try.func40 rfl rfl (Nat.le_of_ble_eq_true rfl) ?_
  rw [Try.ntmps40]; refine Nav.imp ?_
  refine awp_region cx [] fun K hK => ?_
  simp [push_cast]
  repeat (refine And.intro (by clear hK; intros; first | omega | (simp_all; done) | (simp_all <;> omega)) ?_)
  refine hK _ ?_; clear hK K; refine Nav.imp ?_
  refine awp_region cx [(2, .p (encRuns r))] fun K hK => ?_
  simp [push_cast, c1]
  repeat (refine And.intro (by clear hK; intros; first | omega | (simp_all; done) | (simp_all <;> omega)) ?_)
  refine hK _ ?_; clear hK K; refine Nav.imp ?_
  simp [push_cast]
theorem subtract_ok (a b : List Run) (hal : a.length ≤ 1000000) (hbl : b.length ≤ 1000000) (ha : rvalid a = true) (hb : rvalid b = true) : PC Try.prog 58 [encRuns a, encRuns b] (.p (encRuns (sweep fD a b))) := by
  have c1 := sweepc_ok fD 88 keepD a b hal hbl ha hb
  generalize sweep fD a b = r at *
  refine pc_of_awp cx (fn := Try.f58) (c := _) Try.func58 rfl rfl (Nat.le_of_ble_eq_true rfl) ?_
  rw [Try.ntmps58]; refine Nav.imp ?_
  refine awp_region cx [] fun K hK => ?_
  simp [push_cast]
  repeat (refine And.intro (by clear hK; intros; first | omega | (simp_all; done) | (simp_all <;> omega)) ?_)
  refine hK _ ?_; clear hK K; refine Nav.imp ?_
  refine awp_region cx [(2, .p (encRuns r))] fun K hK => ?_
  simp [push_cast, c1]
  repeat (refine And.intro (by clear hK; intros; first | omega | (simp_all; done) | (simp_all <;> omega)) ?_)
  refine hK _ ?_; clear hK K; refine Nav.imp ?_
  simp [push_cast]
end Go.Proofs.Ytknelhiejjdioaa

set_option linter.unusedVariables false
set_option linter.unusedSimpArgs false
namespace Go.Proofs.Ytknelhiejjdioaa
open Go.Abs

/-! The set operations, cell by cell. -/
section
variable {a b : List Row} (ha : validR a = true) (hb : validR b = true) (c : Cell)
include ha hb
theorem opU_iff : c ∈ regCells (opR fU a b) ↔ c ∈ regCells a ∨ c ∈ regCells b := by
  have h := (opR_facts (f := fU) rfl ha hb).2 c
  have e : ∀ x y, fU x y = (x || y) := fun _ _ => rfl
  rw [e] at h
  rw [← decide_eq_true_iff (p := c ∈ regCells (opR fU a b)), h]
  simp
theorem opI_iff : c ∈ regCells (opR fI a b) ↔ c ∈ regCells a ∧ c ∈ regCells b := by
  have h := (opR_facts (f := fI) rfl ha hb).2 c
  have e : ∀ x y, fI x y = (x && y) := fun _ _ => rfl
  rw [e] at h
  rw [← decide_eq_true_iff (p := c ∈ regCells (opR fI a b)), h]
  simp
theorem opD_iff : c ∈ regCells (opR fD a b) ↔ c ∈ regCells a ∧ c ∉ regCells b := by
  have h := (opR_facts (f := fD) rfl ha hb).2 c
  have e : ∀ x y, fD x y = (x && !y) := fun _ _ => rfl
  rw [e] at h
  rw [← decide_eq_true_iff (p := c ∈ regCells (opR fD a b)), h]
  simp
end
theorem valid_empty {R : List Row} (hv : validR R = true) (h : ∀ c, c ∉ regCells R) : R = [] := region_uniq hv rfl fun c => ⟨fun hc => absurd hc (h c), fun hc => by simp [regCells] at hc⟩
end Go.Proofs.Ytknelhiejjdioaa

set_option linter.unusedVariables false
set_option linter.unusedSimpArgs false
set_option maxRecDepth 100000
namespace Go.Proofs.Ytknelhiejjdioaa
open Go.Abs

/-! The region of any cells; regions with X and Y exchanged; spans. -/
theorem one_valid {c : Cell} (h : onG c = true) : validR [⟨c.y, [⟨c.x, c.x + 1⟩]⟩] = true ∧ ∀ d, d ∈ regCells [⟨c.y, [⟨c.x, c.x + 1⟩]⟩] ↔ d = c := by
  obtain ⟨x, y⟩ := c
  have hg := onG_bd h
  simp only at hg
  constructor
  · simp [validR, rowAt, okB, fine, fnAt, List.range_succ]
    omega
  · rintro ⟨a, b⟩
    rw [mem_regCells]
    simp
    omega
theorem set_region : ∀ {l : List Cell}, (∀ c ∈ l, onG c = true) → ∃ R, validR R = true ∧ ∀ c, c ∈ regCells R ↔ c ∈ l
  | [], _ => ⟨[], rfl, fun c => by simp [regCells]⟩
  | c :: l, h => by
    obtain ⟨R, h1, h2⟩ := set_region (l := l) fun d hd => h d (by simp [hd])
    obtain ⟨h3, h4⟩ := one_valid (h c (by simp))
    refine ⟨opR fU [⟨c.y, [⟨c.x, c.x + 1⟩]⟩] R, (opR_facts rfl h3 h1).1, fun d => ?_⟩
    rw [opU_iff h3 h1, h4, h2, List.mem_cons]
theorem of_set {l : List Cell} (hn : l.Nodup) (hon : ∀ c ∈ l, onG c = true) : validR (ofR l) = true ∧ (∀ c, c ∈ regCells (ofR l) ↔ c ∈ l) ∧ (regCells (ofR l)).length = l.length := by
  obtain ⟨R, h1, h2⟩ := set_region hon
  have hp : l.Perm (regCells R) := (List.perm_ext_iff_of_nodup hn (nodup_of_ltY (cells_pw h1))).2 fun c => (h2 c).symm
  have e : ofR l = R := by
    unfold ofR
    rw [if_pos (List.all_eq_true.2 hon), sortY_cells h1 hp, build_cells h1]
  rw [e]
  exact ⟨h1, h2, hp.length_eq.symm⟩
theorem of_err {l : List Cell} (hon : ∀ c ∈ l, onG c = true) : ofE l = 0 := by
  unfold ofE
  rw [if_pos (List.all_eq_true.2 hon)]

def xc (c : Cell) : Cell := ⟨c.y, c.x⟩
theorem xc_sw (c : Cell) : xc (xc c) = c := rfl
theorem xc_inj {a b : Cell} (h : xc a = xc b) : a = b := by rw [← xc_sw a, h, xc_sw]
theorem xc_on {c : Cell} (h : onG c = true) : onG (xc c) = true := by
  obtain ⟨x, y⟩ := c
  have h' := onG_bd h
  simp only at h'
  rw [show onG (xc ⟨x, y⟩) = (decide (-4096 ≤ y) && decide (y < 4096) && decide (-4096 ≤ x) && decide (x < 4096)) from rfl]
  simp
  omega
theorem xc_mem {l : List Cell} {c : Cell} : c ∈ l.map xc ↔ xc c ∈ l := by
  constructor
  · intro h
    obtain ⟨d, hd, rfl⟩ := List.mem_map.1 h
    rw [xc_sw]; exact hd
  · intro h
    exact List.mem_map.2 ⟨_, h, xc_sw c⟩
theorem xc_nodup {l : List Cell} (h : l.Nodup) : (l.map xc).Nodup := by
  rw [List.nodup_iff_pairwise_ne, List.pairwise_map]
  exact (List.nodup_iff_pairwise_ne.1 h).imp fun hab he => hab (xc_inj he)
theorem xc_all {l : List Cell} (h : ∀ c ∈ l, onG c = true) : ∀ c ∈ l.map xc, onG c = true := fun c hc => by
  obtain ⟨d, hd, rfl⟩ := List.mem_map.1 hc
  exact xc_on (h d hd)
def turnR (R : List Row) : List Row := ofR ((regCells R).map xc)
theorem turn_facts {R : List Row} (hv : validR R = true) : validR (turnR R) = true ∧ (∀ c, c ∈ regCells (turnR R) ↔ xc c ∈ regCells R) ∧ (regCells (turnR R)).length = (regCells R).length := by
  obtain ⟨h1, h2, h3⟩ := of_set (xc_nodup (nodup_of_ltY (cells_pw hv))) (xc_all fun c hc => cells_on hv hc)
  exact ⟨h1, fun c => by unfold turnR; rw [h2, xc_mem], by unfold turnR; rw [h3, List.length_map]⟩
theorem turn_err {R : List Row} (hv : validR R = true) : ofE ((regCells R).map xc) = 0 := of_err (xc_all fun c hc => cells_on hv hc)
theorem turn_turn {R : List Row} (hv : validR R = true) : turnR (turnR R) = R := by
  obtain ⟨h1, h2, _⟩ := turn_facts hv
  obtain ⟨h3, h4, _⟩ := turn_facts h1
  exact region_uniq h3 hv fun c => by rw [h4, h2, xc_sw]

/-- Whether a run lies between two cells that are held. -/
def anch (H : List Row) (y : Int) (q : Run) : Bool := decide ((⟨q.a - 1, y⟩ : Cell) ∈ regCells H) && decide ((⟨q.b, y⟩ : Cell) ∈ regCells H)
def spanRun (H : List Row) (y : Int) (q : Run) : List (List Cell) := if anch H y q then [runCells y q] else []
def spanRow (H : List Row) (w : Row) : List (List Cell) := w.runs.flatMap (spanRun H w.y)
def spanR (D H : List Row) : List (List Cell) := D.flatMap (spanRow H)
def spansL (r b : List Row) : List (List Cell) := spanR (opR fD r b) (opR fI r b)
def spansU (r b : List Row) (up : Bool) : List (List Cell) := if up then (spansL (turnR r) (turnR b)).map (·.map xc) else spansL r b
def coverR (L : List (List Cell)) : List Row := ofR L.flatten

theorem flat_subl {α β γ : Type} {f : α → List (List β)} {g : α → List β} (h : ∀ a, (f a).flatten.Sublist (g a)) : ∀ l : List α, (l.flatMap f).flatten.Sublist (l.flatMap g)
  | [] => by simp
  | a :: l => by
    rw [List.flatMap_cons, List.flatMap_cons, List.flatten_append]
    exact (h a).append (flat_subl (γ := γ) h l)
theorem span_sub (D H : List Row) : (spanR D H).flatten.Sublist (regCells D) := by
  refine flat_subl (γ := Unit) (fun w => ?_) D
  refine flat_subl (γ := Unit) (fun q => ?_) w.runs
  unfold spanRun
  split <;> simp
theorem span_mem {D H : List Row} {l : List Cell} (h : l ∈ spanR D H) : ∃ w ∈ D, ∃ q ∈ w.runs, anch H w.y q = true ∧ l = runCells w.y q := by
  obtain ⟨w, hw, hl⟩ := List.mem_flatMap.1 h
  obtain ⟨q, hq, hl⟩ := List.mem_flatMap.1 hl
  unfold spanRun at hl
  split at hl
  · rename_i ha
    exact ⟨w, hw, q, hq, ha, by simpa using hl⟩
  · simp at hl
theorem flat_len {D H : List Row} : (spanR D H).flatten.length ≤ (regCells D).length := (span_sub D H).length_le
theorem flat_mem {D H : List Row} {l : List Cell} (h : l ∈ spanR D H) : l.length ≤ (regCells D).length :=
  Nat.le_trans ((List.sublist_flatten_of_mem h).length_le) flat_len
theorem flat_num : ∀ {L : List (List Cell)}, (∀ l ∈ L, l ≠ []) → L.length ≤ L.flatten.length
  | [], _ => by simp
  | l :: L, h => by
    have h1 := flat_num (L := L) fun x hx => h x (by simp [hx])
    have h2 : 0 < l.length := List.length_pos_iff.2 (h l (by simp))
    simp only [List.length_cons, List.flatten_cons, List.length_append]
    omega
theorem span_ne {D H : List Row} (hv : validR D = true) {l : List Cell} (h : l ∈ spanR D H) : l ≠ [] := by
  obtain ⟨w, hw, q, hq, _, rfl⟩ := span_mem h
  have := (row_runs hv hw hq).2.1
  intro h0
  have := congrArg List.length h0
  rw [runCells_len] at this
  simp at this
  omega
theorem span_num {D H : List Row} (hv : validR D = true) : (spanR D H).length ≤ (regCells D).length := Nat.le_trans (flat_num fun l h => span_ne hv h) flat_len
theorem cells_le {a b : List Row} (ha : validR a = true) (hb : validR b = true) (h : ∀ x, x ∈ regCells a → x ∈ regCells b) : (regCells a).length ≤ (regCells b).length := by
  have e : regCells a = (regCells b).filter fun c => decide (c ∈ regCells a) := ltY_uniq (cells_pw ha) ((cells_pw hb).filter _) fun c => by
    rw [List.mem_filter, decide_eq_true_eq]
    exact ⟨fun hc => ⟨h c hc, hc⟩, fun hc => hc.2⟩
  rw [e]
  exact List.length_filter_le _ _
end Go.Proofs.Ytknelhiejjdioaa

set_option linter.unusedVariables false
set_option linter.unusedSimpArgs false
namespace Go.Abs
open Go.RowKit

/-! ### An operation goes through within a round as outside. -/
theorem calls_round {l n : Nat} {P : Program} {f : FuncId} {args : Array Value} {w : World} {R : Ending → World → Prop} (h : Calls P f args w R) : CallsIn (Fence.wide.inRound l) n P f args w R :=
  CallsIn.inRound l (callsIn_wide.2 h)
theorem rows_round {l n : Nat} {P : Program} {row : String} {args : Array Value} {w : World} {R : Value → World → Prop} (h : Rows P row args w R) : RowsIn (Fence.wide.inRound l) n P row args w R := by
  intro c cs _
  obtain ⟨v, w', h1, h2⟩ := h c cs
  exact ⟨v, w', h1, stepsIn_wide.2 h2⟩
/-- A fence that bars nothing. -/
structure Free (F : Fence) (n : Nat) : Prop where
  fn : ∀ f, F.fn f
  depth : F.depth.isSome = false
  calls : ∀ {P : Program} {f : FuncId} {args : Array Value} {w : World} {R : Ending → World → Prop}, Calls P f args w R → CallsIn F (n - 1) P f args w R
  rows : ∀ {P : Program} {row : String} {args : Array Value} {w : World} {R : Value → World → Prop}, Rows P row args w R → RowsIn F (n - 1) P row args w R
theorem free_round (l n : Nat) : Free (Fence.wide.inRound l) n := ⟨fun _ => trivial, rfl, calls_round, rows_round⟩
theorem free_wide (n : Nat) : Free Fence.wide n := ⟨fun _ => trivial, rfl, fun h => callsIn_wide.2 h, fun h => fun c cs _ => by
  obtain ⟨v, w', h1, h2⟩ := h c cs
  exact ⟨v, w', h1, stepsIn_wide.2 h2⟩⟩
theorem op_free {F : Fence} {n : Nat} (hF : Free F n) {P : Program} {o : Oper} {a : Act} {w : World} {K K' : Act → World → Prop} {Q : Exit → Act → World → Prop} (hd : ∀ c, o.op ≠ .defer c) (hK : ∀ a w, K a w → K' a w) (h : o.wp P a w K Q) : o.wpIn F n P a w K' Q := by
  refine ⟨fun _ _ => hF.fn _, ?_⟩
  have hs : o.semAt F.round a.eval = execOp a.eval o := Oper.semAt_eq _ _ _ hd
  rw [hs]
  have h := Oper.wp_mono hK h
  unfold Oper.wp at h
  generalize (execOp a.eval o).run P w = r at *
  cases r with
  | ok x w' =>
    cases x <;> simp only [Oper.upon, Oper.uponIn] at h ⊢ <;> first
      | exact h
      | exact ⟨fun hh => absurd hh (by rw [hF.depth]; exact Bool.false_ne_true), (hF.calls h).mono fun e w'' he => by cases e <;> exact he⟩
      | exact ⟨fun hh => absurd hh (by rw [hF.depth]; exact Bool.false_ne_true), hF.rows h⟩
      | exact False.elim h
  | halt x w' => cases x <;> simp only [Oper.upon, Oper.uponIn] at h ⊢ <;> first | exact h | exact h.elim

theorem op_round {l n : Nat} {P : Program} {o : Oper} {a : Act} {w : World} {K K' : Act → World → Prop} {Q : Exit → Act → World → Prop} (hd : ∀ c, o.op ≠ .defer c) (hK : ∀ a w, K a w → K' a w) (h : o.wp P a w K Q) : o.wpIn (Fence.wide.inRound l) n P a w K' Q := by
  refine ⟨fun _ _ => trivial, ?_⟩
  rw [Oper.semAt_eq _ _ _ hd]
  have h := Oper.wp_mono hK h
  unfold Oper.wp at h
  generalize (execOp a.eval o).run P w = r at *
  cases r with
  | ok x w' =>
    cases x <;> simp only [Oper.upon, Oper.uponIn] at h ⊢ <;> first
      | exact h
      | exact ⟨fun hh => absurd hh (by simp [Fence.wide]), (calls_round h).mono fun e w'' he => by cases e <;> exact he⟩
      | exact ⟨fun hh => absurd hh (by simp [Fence.wide]), rows_round h⟩
      | exact False.elim h
  | halt x w' => cases x <;> simp only [Oper.upon, Oper.uponIn] at h ⊢ <;> first | exact h | exact h.elim

def noDefer (l : List Oper) : Bool := l.all fun o => match o.op with | .defer _ => false | _ => true
theorem noDefer_mem {l : List Oper} (h : noDefer l = true) {o : Oper} (ho : o ∈ l) : ∀ c, o.op ≠ .defer c := fun c hc => by
  have := List.all_eq_true.1 h o ho
  rw [hc] at this
  cases this

theorem wpList_round {l n : Nat} {P : Program} {ops : Array Oper} {Q : Exit → Act → World → Prop} (hQ : ¬ LetsOut Q) : ∀ (ls : List Oper) (a : Act) (w : World), noDefer ls = true → wpList P ops Q ls a w → wpListIn (Fence.wide.inRound l) n P ops Q ls a w
  | [], a, w, _, h => h
  | o :: rest, a, w, hd, h => by
    have hd' : noDefer rest = true := by simp only [noDefer, List.all_cons, Bool.and_eq_true] at hd; exact hd.2
    simp only [wpList, wpListIn] at h ⊢
    split
    · rename_i hw
      rw [if_pos hw] at h
      rcases h with h | h
      · exact op_round (noDefer_mem hd (by simp)) (fun a w hk => wpList_round hQ rest a w hd' hk) h
      · exact absurd h.2 hQ
    · rename_i hw
      rw [if_neg hw] at h
      exact ⟨fun _ _ => trivial, wpList_round hQ rest _ w hd' h⟩

theorem wpAny_round {l n : Nat} {P : Program} {md : Region.Mode} {ls : List Oper} {Q : Exit → Act → World → Prop} (hQ : ¬ LetsOut Q) (hd : noDefer ls = true) : ∀ (fuel : Nat) (listed : Array Bool) (a : Act) (w : World), wpAny P md ls.toArray Q fuel listed a w → wpAnyIn (Fence.wide.inRound l) n P md ls.toArray Q fuel listed a w
  | 0, listed, a, w, h => h
  | fuel + 1, listed, a, w, h => by
    refine ⟨h.1, fun i hi => ?_⟩
    have h2 := h.2 i hi
    unfold wpOp at h2
    unfold wpOpIn
    cases ho : ls.toArray[i]? with
    | none => rw [ho] at h2; exact wpAny_round hQ hd fuel _ a w h2
    | some o =>
      rw [ho] at h2
      simp only at h2 ⊢
      have hm : o ∈ ls := List.mem_of_getElem? (by simpa using ho)
      split
      · rename_i hw
        rw [if_pos hw] at h2
        rcases h2 with h2 | h2
        · exact op_round (noDefer_mem hd hm) (fun a w hk => wpAny_round hQ hd fuel _ a w hk) h2
        · exact absurd h2.2 hQ
      · rename_i hw
        rw [if_neg hw] at h2
        exact ⟨fun _ _ => trivial, wpAny_round hQ hd fuel _ _ w h2⟩

/-- Code within a round, over states. -/
def AWr (n : Nat) (P : Program) (c : Code) (Q : Exit → St → Prop) (s : St) : Prop :=
  ∀ (l : Nat) g a w, RelS s g a w → c.wpIn (Fence.wide.inRound l) n P (fun e a' w' => ∃ s' g', RelS s' g' a' w' ∧ Step g w g' w' ∧ Q e s') a w

theorem awr_seq {n : Nat} {P : Program} {x y : Code} {Q : Exit → St → Prop} {s : St} (h : AWr n P x (fun e s' => match e with | .normal => AWr n P y Q s' | e => Q e s') s) : AWr n P (.seq x y) Q s := by
  intro l g a w hr
  refine wpIn_seq (wpIn_mono (h l g a w hr) fun e a' w' ⟨s', g', h1, h2, h3⟩ => ?_)
  cases e with
  | normal => exact wpIn_mono (h3 l g' a' w' h1) fun e2 a2 w2 ⟨s2, g2, k1, k2, k3⟩ => ⟨s2, g2, k1, h2.trans k2, k3⟩
  | _ => exact ⟨s', g', h1, h2, h3⟩

theorem awr_block {n id : Nat} {P : Program} {c : Code} {Q : St → Prop} {s : St} (h : AWr n P c (fun e s => e = .normal ∧ Q s) s) : AWr n P (.block id c) (fun e s => e = .normal ∧ Q s) s := by
  intro l g a w hr
  refine wpIn_block (wpIn_mono (h l g a w hr) fun e a' w' ⟨s', g', h1, h2, h3, h4⟩ => ?_)
  subst h3
  exact ⟨s', g', h1, h2, rfl, h4⟩

theorem awr_region {n : Nat} {P : Program} {ty : TypeId → Option TI} (hc : Ctx P ty) (orc : List (Nat × Res)) {id : Nat} {l : List Oper} {Q : Exit → St → Prop} {s : St} (hQ : ∀ s', ¬ Q .outgrown s') (hd : noDefer l = true)
    (h : ∀ K : St → Prop, (∀ s', Q .normal s' → K s') → wpT ty P orc (l.map (·.dst)) s.nxt 0 l { s with nxt := s.nxt + l.length } K) : AWr n P (.region id l.toArray false) Q s := by
  intro r g a w hr
  have hw := wpT_sound (P := P) hc (orc := orc) (gs := l.map (·.dst)) (ops := l.toArray) (by intro j; simp) (base := s.nxt) (nxt := s.nxt + l.length)
    (Q := fun e a' w' => ∃ s' g', RelS s' g' a' w' ∧ Step g w g' w' ∧ Q e s') (K := fun s' => Q .normal s') (g0 := g) (w0 := w)
    (fun s' g' a' w' h1 h2 h3 => ⟨s', g', h1, h2, h3⟩) l 0 { s with nxt := s.nxt + l.length } g a w (by simp) rfl ⟨hr.defers, hr.size, hr.tmp, fun id hu => by have := hr.used id hu; simpa using this, hr.heap⟩ (Step.refl g w) (h _ fun _ hq => hq)
  exact wpIn_region_lit (wpList_round (fun hx => by obtain ⟨_, _, s', _, _, _, hq⟩ := hx; exact hQ s' hq) l a w hd hw)

theorem awr_region_draw {n : Nat} {P : Program} {ty : TypeId → Option TI} (hc : Ctx P ty) (hm : P.follows .mixedOrders = true) (orc : List (Nat × Res)) {id : Nat} {l : List Oper} {Q : Exit → St → Prop} {s : St} (hQo : ∀ s', ¬ Q .outgrown s') (hd : noDefer l = true)
    (h : ∀ K : St → List (Nat × List Nat × List Nat) → Prop, (∀ s' acc, regOk l.toArray (cfOf acc) = true → Q .normal s' → K s' acc) → wpD ty P orc (l.map fun o => o.dst) s.nxt 0 l { s with nxt := s.nxt + l.length } [] K) : AWr n P (.region id l.toArray true) Q s := by
  intro r g a w hr
  have hwp := wpD_wpC _ _ _ _ _ _ _ _ _ (h (fun s' acc => regOk l.toArray (cfOf acc) = true ∧ Q .normal s') fun s' acc h1 h2 => ⟨h1, h2⟩)
  obtain ⟨E, s', cf, hfact, hget, hobj, hn, hnx, hcf, acc', rfl, hreg, hQ⟩ := wpC_trace (l := l) (g0 := s.get) (o0 := s.obj) (n := s.n) (nxt := s.nxt + l.length) l 0 { s with nxt := s.nxt + l.length } [] [] (fun _ => (none, .any)) rfl (Nat.zero_le _) (fun j o hj _ => absurd hj (by omega)) (fun t => rfl) (fun id => rfl) rfl rfl
    (fun j hj => absurd hj (by omega)) (fun j k _ hk _ => absurd hk (by omega)) hwp
  refine wpIn_region_any hm (wpAny_round (fun hx => by obtain ⟨_, _, s', _, _, _, hq⟩ := hx; exact hQo s' hq) hd _ _ a _ ?_)
  obtain ⟨d1, d2, d3⟩ := hr.heap.idle (w' := { w with drawn := w.drawn + 1 }) ⟨rfl, ⟨rfl, Nat.le_succ _⟩, rfl, Nat.le_refl _, fun _ _ => rfl⟩
  refine any_sound hc hreg hcf hfact (gg := g) (ww := w) (fun g' a' w' hrel hst => ?_) l.length (List.range l.length) (Array.replicate l.length false) g a _ (by simp) List.nodup_range (by simp) (fun i hi => by simp [hi]) (fun j o _ hj => by
    have hj' : (Array.replicate l.length false).getD j false = true := hj; rw [show (Array.replicate l.length false).getD j false = false by rcases Nat.lt_or_ge j l.length with h | h <;> simp [h]] at hj'; cases hj') ?_ d2
  · refine ⟨s', g', ?_, hst, hQ⟩
    have := hrel.congr hget hobj
    refine ⟨this.defers, by rw [hn]; exact this.size, this.tmp, fun id hid => by have := this.used id hid; show id < s'.nxt; rw [hnx]; exact this, this.heap⟩
  · have hf : ∀ j, (Array.replicate l.length false).getD j false = false := fun j => by rcases Nat.lt_or_ge j l.length with h | h <;> simp [h]
    have e1 : getS l E s.get (fun i => (Array.replicate l.length false).getD i false) = s.get := funext fun t => by
      unfold getS
      rw [stAt_skip (j := 0) (Nat.zero_le _) fun i _ _ h => by rw [hf] at h; cases h]
      rfl
    have e2 : objS l E s.obj (fun i => (Array.replicate l.length false).getD i false) = s.obj := funext fun t => by
      unfold objS
      rw [stAt_skip (j := 0) (Nat.zero_le _) fun i _ _ h => by rw [hf] at h; cases h]
      rfl
    rw [e1, e2]
    exact ⟨hr.defers, hr.size, fun t => RepA.later d3 _ _ (hr.tmp t), fun id hid => .inl (hr.used id hid), d1⟩
theorem wpT_soundIn {F : Fence} {n : Nat} (hF : Free F n) {P : Program} {ty : TypeId → Option TI} (hc : Ctx P ty) {orc : List (Nat × Res)} {gs : List (Option Tmp)} {ops : Array Oper} (hgs : ∀ j : Nat, gs[j]? = (ops[j]?).map fun o : Oper => o.dst) {base nxt : Nat} {Q : Exit → Act → World → Prop} {K : St → Prop} {g0 : G} {w0 : World}
    {l2 : List Oper} {en n0 : Nat} (hQ : ∀ s g a w, s.nxt = nxt → s.n = n0 → Rel (· < base + en) g s.get s.obj s.n a w → Step g0 w0 g w → K s → wpListIn F n P ops Q l2 a w) :
    ∀ (l : List Oper) (i : Nat) (s : St) (g : G) (a : Act) (w : World), noDefer l = true → i + l.length = en → s.nxt = nxt → s.n = n0 → Rel (· < base + i) g s.get s.obj s.n a w → Step g0 w0 g w → wpT ty P orc gs base i l s K → wpListIn F n P ops Q (l ++ l2) a w
  | [], i, s, g, a, w, _, hle, hnx, hn0, h, hs, hk => hQ s g a w hnx hn0 (by simp at hle; rw [← hle]; exact h) hs hk
  | o :: rest, i, s, g, a, w, hdf, hle, hnx, hn0, h, hs, hk => by
    simp only [List.length_cons] at hle
    have hdo := noDefer_mem hdf (o := o) (by simp)
    have hdr : noDefer rest = true := by simp only [noDefer, List.all_cons, Bool.and_eq_true] at hdf; exact hdf.2
    have hargs : RepAs g w (o.op.operands.toList.map s.eval) (o.op.operands.toList.map a.eval) := by
      refine RepAs.of_get (by simp) fun j av hj => ?_
      rw [List.getElem?_map] at hj ⊢
      cases hx : o.op.operands.toList[j]? with
      | none => rw [hx] at hj; cases hj
      | some x => rw [hx] at hj; cases hj; exact ⟨a.eval x, rfl, eval_rep h (fun _ => rfl) x⟩
    have relapp : ∀ (e : Eff) (g' : G) (a' : Act) (w' : World), Rel (fun k => k < base + i ∨ k = base + i) g' (putG s.get o.dst e.val) (updL s.obj e.wr) s.n a' w' → Rel (· < base + (i + 1)) g' (s.app o.dst e).get (s.app o.dst e).obj (s.app o.dst e).n a' w' := by
      intro e g' a' w' hr
      have hn : (s.app o.dst e).n = s.n := by unfold St.app St.put; cases o.dst <;> rfl
      rw [hn]
      exact ⟨hr.defers, hr.size, fun t => by rw [app_get]; exact hr.tmp t, fun id hu => by
        have := hr.used id hu
        show id < base + (i + 1)
        rcases this with hh | hh <;> omega, by
        have : (s.app o.dst e).obj = updL s.obj e.wr := funext (app_obj s o.dst e)
        rw [this]; exact hr.heap⟩
    have hnapp : ∀ e, (s.app o.dst e).nxt = nxt := fun e => by rw [← hnx]; unfold St.app St.put; cases o.dst <;> rfl
    have hna : ∀ e, (s.app o.dst e).n = s.n := fun e => by unfold St.app St.put; cases o.dst <;> rfl
    have hnput : ∀ v, (s.put o.dst v).nxt = nxt := fun v => by rw [← hnx]; unfold St.put; cases o.dst <;> rfl
    have hnn : ∀ v, (s.put o.dst v).n = s.n := fun v => by unfold St.put; cases o.dst <;> rfl
    have relput : ∀ (v : AV) (g' : G) (a' : Act) (w' : World) (U : Nat → Prop), (∀ k, U k → k < base + (i + 1)) → Rel U g' (putG s.get o.dst v) s.obj s.n a' w' → Rel (· < base + (i + 1)) g' (s.put o.dst v).get (s.put o.dst v).obj (s.put o.dst v).n a' w' := by
      intro v g' a' w' U hU hr
      rw [hnn]
      have := hr.congr (get' := (s.put o.dst v).get) (obj' := (s.put o.dst v).obj) (fun t => St.get_put s o.dst v t) (fun id => put_obj s o.dst v id)
      exact ⟨this.defers, this.size, this.tmp, fun k hk => hU k (this.used k hk), this.heap⟩
    have skipped : ∀ v, (∀ d, o.dst = some d → d < s.n) → RepA g w v undef → wpT ty P orc gs base (i + 1) rest (s.put o.dst v) K → wpListIn F n P ops Q (rest ++ l2) (a.put o.dst undef) w := by
      intro v hd hv hrest
      have hr := rel_put (U' := (· < base + i)) (dst := o.dst) (v := v) (u := undef) h h.heap ⟨fun b hb => ⟨hb, rfl⟩, fun _ hx => hx, fun _ _ => .inl rfl⟩ (fun k hk => h.used k hk) hv hd
      exact wpT_soundIn hF (nxt := nxt) hc hgs hQ rest (i + 1) _ g _ w hdr (by omega) (hnput v) ((hnn v).trans hn0) (relput v g _ w _ (fun k hk => by omega) hr) hs hrest
    simp only [List.cons_append, wpListIn]
    unfold wpT at hk
    split at hk
    · rename_i hg
      have hw : Region.wanted o (yielded ops a.tmps) = true := by simp [Region.wanted, hg]
      rw [if_pos hw]
      unfold doOp at hk
      split at hk
      · rename_i e he
        obtain ⟨hob, hd, hrest⟩ := hk
        exact op_free hF hdo (fun _ _ hk => hk) <| op_step hc (nid := base + i) h (by simp) hargs he hob (fun d hd' => by rw [hd'] at hd; exact hd) fun g' a' w' hr hst =>
          wpT_soundIn hF (nxt := nxt) hc hgs hQ rest (i + 1) (s.app o.dst e) g' a' w' hdr (by omega) (hnapp e) ((hna e).trans hn0) (relapp e g' a' w' hr) (hs.trans hst) hrest
      · exact hk.elim
    · rename_i j want hg
      split at hk
      · rename_i x hgv
        have hw := guard_wanted (a := a) hgs h.tmp hg hgv
        rw [hw]
        obtain ⟨hd, hk⟩ := hk
        have hd' : ∀ d, o.dst = some d → d < s.n := fun d hd' => by rw [hd'] at hd; exact hd
        split at hk
        · rename_i e he
          split at hk
          · rename_i hwr
            obtain ⟨hexec, hrest⟩ := hk
            cases x with
            | true =>
              rw [if_pos rfl]
              obtain ⟨hso, hob⟩ := hexec rfl
              refine op_free hF hdo (fun _ _ hk => hk) <| op_step hc (nid := base + i) h (by simp) (strips_repG hargs hso) he hob hd' fun g' a' w' hr hst => ?_
              rw [hwr] at hr
              exact wpT_soundIn hF (nxt := nxt) hc hgs hQ rest (i + 1) _ g' a' w' hdr (by omega) (hnput _) ((hnn _).trans hn0) (relput _ g' a' w' _ (fun k hk => by rcases hk with hh | hh <;> omega) hr.opt) (hs.trans hst) hrest
            | false =>
              rw [if_neg (by simp)]
              exact ⟨fun _ _ => hF.fn _, skipped _ hd' (by simp [RepA]) hrest⟩
          · obtain ⟨rfl, hso, hob, hrest⟩ := hk
            rw [if_pos rfl]
            exact op_free hF hdo (fun _ _ hk => hk) <| op_step hc (nid := base + i) h (by simp) (strips_repG hargs hso) he hob hd' fun g' a' w' hr hst =>
              wpT_soundIn hF (nxt := nxt) hc hgs hQ rest (i + 1) (s.app o.dst e) g' a' w' hdr (by omega) (hnapp e) ((hna e).trans hn0) (relapp e g' a' w' hr) (hs.trans hst) hrest
        · obtain ⟨rfl, hrest⟩ := hk
          rw [if_neg (by simp)]
          exact ⟨fun _ _ => hF.fn _, skipped _ hd' (by simp [RepA]) hrest⟩
      · exact hk.elim



end Go.Abs
