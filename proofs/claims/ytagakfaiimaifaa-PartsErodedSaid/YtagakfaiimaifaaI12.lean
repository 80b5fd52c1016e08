/-
  Texts of this seat put together: M7, A7, A8, A9, A10, A11, L0, A12.
-/
import Derived.Test.YtagakfaiimaifaaI11
import Derived.Test.YtagakfaiimaifaaI7
import Derived.Test.YtagakfaiimaifaaI9
import Derived.Test.YtagakfaiimaifaaI8
import Derived.Test.YtagakfaiimaifaaI10
import Derived.Test.YtagakfaiimaifaaI4
import Derived.Test.YtagakfaiimaifaaI3
import Derived.Test.YtagakfaiimaifaaChecked
set_option linter.unusedVariables false
set_option linter.unusedSimpArgs false
set_option maxRecDepth 100000
namespace Go.Proofs.Ytagakfaiimaifaa
open Go.Abs

/-! Opening by one cell, and the wide part of a region. -/
def openR (R : List Row) : List Row := dilR (eroR R 1) 1
theorem cell_bd {R : List Row} (hv : validR R = true) {c : Cell} (hc : c ∈ regCells R) : -4096 ≤ c.x ∧ c.x < 4096 ∧ -4096 ≤ c.y ∧ c.y < 4096 := by
  obtain ⟨w, hw, hy, r, hr, h5, h6⟩ := mem_regCells.1 hc
  obtain ⟨h1, h2⟩ := row_fine hv hw
  have := (fine_apart.1 h2).2.2 r hr
  omega
end Go.Proofs.Ytagakfaiimaifaa

set_option linter.unusedVariables false
set_option linter.unusedSimpArgs false
set_option maxRecDepth 100000
namespace Go.Proofs.Ytagakfaiimaifaa
open Go.Abs

abbrev encRgs (L : List (List Row)) : D := .sl (L.map regRow)
def stepsL : List Cell := [⟨1, 0⟩, ⟨-1, 0⟩, ⟨0, 1⟩, ⟨0, -1⟩]
def touchL : List Cell := [⟨1, 0⟩, ⟨-1, 0⟩, ⟨0, 1⟩, ⟨0, -1⟩, ⟨1, 1⟩, ⟨1, -1⟩, ⟨-1, 1⟩, ⟨-1, -1⟩]
theorem steps_own : PC Try.prog 32 [] (.o 33 2 (stepsL.map Cell.row)) := by
  refine pc_of_awp cx (fn := Try.f32) (c := _) Try.func32 rfl rfl (Nat.le_of_ble_eq_true rfl) ?_
  rw [Try.ntmps32]; refine Nav.imp ?_
  refine awp_region cx [] fun K hK => ?_
  simp [push_cast]
  repeat (refine And.intro (by clear hK; intros; first | omega | (simp_all; done) | (simp_all <;> omega)) ?_)
  refine hK _ ?_; clear hK K; refine Nav.imp ?_
  refine awp_region cx [] fun K hK => ?_
  simp [push_cast]
  repeat (refine And.intro (by clear hK; intros; first | omega | (simp_all; done) | (simp_all <;> omega)) ?_)
  refine hK _ ?_; clear hK K; refine Nav.imp ?_
  simp [push_cast, stepsL, Cell.row]
theorem steps_ok : PC Try.prog 32 [] (.p (encCells stepsL)) := steps_own.data
theorem touches_ok : PC Try.prog 39 [] (.p (encCells touchL)) := by
  have c := steps_own
  simp only [stepsL, List.map_cons, List.map_nil, Cell.row] at c
  refine pc_of_awp cx (fn := Try.f39) (c := _) Try.func39 rfl rfl (Nat.le_of_ble_eq_true rfl) ?_
  rw [Try.ntmps39]; refine Nav.imp ?_
  refine awp_region cx [] fun K hK => ?_
  simp [push_cast]
  repeat (refine And.intro (by clear hK; intros; first | omega | (simp_all; done) | (simp_all <;> omega)) ?_)
  refine hK _ ?_; clear hK K; refine Nav.imp ?_
  refine awp_region cx [(0, .o 33 2 [[.int .i64 1, .int .i64 0], [.int .i64 (-1), .int .i64 0], [.int .i64 0, .int .i64 1], [.int .i64 0, .int .i64 (-1)]])] fun K hK => ?_
  simp [push_cast, c]
  repeat (refine And.intro (by clear hK; intros; first | omega | (simp_all; done) | (simp_all <;> omega)) ?_)
  refine hK _ ?_; clear hK K; refine Nav.imp ?_
  simp [push_cast, touchL, Cell.row]
theorem adj_steps (b x : Cell) (h : b ≠ x) : adjR false b x = true ↔ ∃ d ∈ stepsL, moveC b d = x := by
  obtain ⟨bx, bz⟩ := b
  obtain ⟨xx, xy⟩ := x
  simp only [adjR, Bool.false_or, Bool.and_eq_true, Bool.or_eq_true, decide_eq_true_eq, stepsL, List.mem_cons, List.not_mem_nil, or_false, exists_eq_or_imp, exists_eq_left, moveC, Cell.mk.injEq]
  simp only [ne_eq, Cell.mk.injEq] at h
  omega
theorem adj_touch (b x : Cell) (h : b ≠ x) : adjR true b x = true ↔ ∃ d ∈ touchL, moveC b d = x := by
  obtain ⟨bx, bz⟩ := b
  obtain ⟨xx, xy⟩ := x
  simp only [adjR, Bool.true_or, Bool.and_eq_true, decide_eq_true_eq, and_true, touchL, List.mem_cons, List.not_mem_nil, or_false, exists_eq_or_imp, exists_eq_left, moveC, Cell.mk.injEq]
  simp only [ne_eq, Cell.mk.injEq] at h
  omega
theorem grps_len (l : List Cell) (adj : Cell → Cell → Bool) : (grps l adj).length ≤ l.length ∧ ∀ g ∈ grps l adj, g.length ≤ l.length := by
  refine ⟨by simp only [grps, List.length_map]; exact hdS_len _, fun g hg => ?_⟩
  obtain ⟨h, _, rfl⟩ := List.mem_map.1 hg
  exact List.length_filter_le _ _
theorem cells_sm {R : List Row} : ∀ c ∈ cellsOf R, smC c := fun c hc => by
  unfold cellsOf at hc
  split at hc
  · rename_i hv
    have := cell_bd hv hc
    unfold smC; omega
  · simp at hc

noncomputable def compR (R : List Row) : List (List Row) := (grps (cellsOf R) (adjR false)).map ofR
set_option maxHeartbeats 4000000 in
theorem components_ok (R : List Row) (hR : smallR R) (hn : (cellsOf R).length ≤ 100000) : PC Try.prog 11 [.agg (regRow R)] (.p (encRgs (compR R))) := by
  have c1 := cells_ok R hR (fun hv => by unfold cellsOf at hn; rw [if_pos hv] at hn; omega)
  have c2 := steps_ok
  have c3 := split_ok21 (cellsOf R) false stepsL hn cells_sm (by simp [stepsL]) (by simp [stepsL]) adj_steps
  have hgl := grps_len (cellsOf R) (adjR false)
  have hof := fun g (hg : g ∈ grps (cellsOf R) (adjR false)) => of_ok g (by have := hgl.2 g hg; omega)
  have hGl : (grps (cellsOf R) (adjR false)).length ≤ 100000 := by omega
  unfold compR
  generalize grps (cellsOf R) (adjR false) = G at *
  generalize cellsOf R = l at *
  refine pc_of_awp cx (fn := Try.f11) (c := _) Try.func11 rfl rfl (Nat.le_of_ble_eq_true rfl) ?_
  rw [Try.ntmps11]; refine Nav.imp ?_
  refine awp_region cx [] fun K hK => ?_
  simp [push_cast]
  repeat (refine And.intro (by clear hK; intros; first | omega | (simp_all; done) | (simp_all <;> omega)) ?_)
  refine hK _ ?_; clear hK K; refine Nav.imp ?_
  refine awp_region cx [] fun K hK => ?_
  simp [push_cast]
  repeat (refine And.intro (by clear hK; intros; first | omega | (simp_all; done) | (simp_all <;> omega)) ?_)
  refine hK _ ?_; clear hK K; refine Nav.imp ?_
  refine awp_region cx [(1, .p (encCells l)), (2, .p (encCells stepsL)), (3, .p (encGs G))] fun K hK => ?_
  simp [push_cast, c1, c2, c3]
  repeat (refine And.intro (by clear hK; intros; first | omega | (simp_all; done) | (simp_all <;> omega)) ?_)
  refine hK _ ?_; clear hK K; refine Nav.imp ?_
  refine awp_loop (β := Nat × List (List Row)) (fun s => ⟨28, [(3, .hs 0 0 s.2.length), (11, .d (encGs G)), (12, .d (.int .i64 G.length)), (13, .d (.int .i64 s.1))], [(0, some ⟨24, 1, dr (s.2.map regRow)⟩)], 1⟩) (fun s => s.1 ≤ G.length ∧ s.2 = (G.take s.1).map ofR) (fun s => G.length - s.1) (0, []) ?_ ⟨Nat.zero_le _, rfl⟩ ?_
  · refine weak_of [(0, none)] rfl (by simp [upT, up, upL, push_cast]) (by simp [upH, upR, upL, up, push_cast]) (by simp [namesOk, push_cast]) (by simp [olds])
  · rintro ⟨k, X⟩ ⟨hk, hX⟩
    simp only at hk hX
    have hXl : X.length = k := by rw [hX]; simp; omega
    refine Nav.imp ?_
    refine awp_region cx [] fun K hK => ?_
    simp [push_cast]
    repeat (refine And.intro (by clear hK; intros; first | omega | (simp_all; done) | (simp_all <;> omega)) ?_)
    refine hK _ ?_; clear hK K; refine Nav.imp ?_
    refine awp_cond (b := decide ((k : Int) < G.length)) (by simp [push_cast]) (fun hb => ?_) (fun hb => ?_) <;> (refine Nav.imp ?_)
    · have hlt : k < G.length := by simpa using hb
      obtain ⟨g, hg⟩ := getq hlt
      have e0 := wrap_i64 (n := (k : Int) + 1) (by omega) (by omega)
      have c4 := hof g (List.mem_of_getElem? hg)
      have h24 : (X.length + 1) * 24 ≤ 140737488355328 := by omega
      have hnx : (G.take (k + 1)).map ofR = X ++ [ofR g] := by rw [take_get hg, hX]; simp
      refine awp_region cx [] fun K hK => ?_
      simp [push_cast, hg]
      repeat (refine And.intro (by clear hK; intros; first | omega | (simp_all; done) | (simp_all <;> omega)) ?_)
      refine hK _ ?_; clear hK K; refine Nav.imp ?_
      refine awp_region cx [(1, .p (ofD g))] fun K hK => ?_
      simp [push_cast, c4]
      repeat (refine And.intro (by clear hK; intros; first | omega | (simp_all; done) | (simp_all <;> omega)) ?_)
      refine hK _ ?_; clear hK K; refine Nav.imp ?_
      refine awp_region cx [] fun K hK => ?_
      simp [push_cast, h24]
      repeat (refine And.intro (by clear hK; intros; first | omega | (simp_all; done) | (simp_all <;> omega)) ?_)
      refine hK _ ?_; clear hK K; refine Nav.imp ?_
      refine awp_region cx [] fun K hK => ?_
      simp [push_cast, e0]
      repeat (refine And.intro (by clear hK; intros; first | omega | (simp_all; done) | (simp_all <;> omega)) ?_)
      refine hK _ ?_; clear hK K; refine Nav.imp ?_
      refine ⟨(k + 1, X ++ [ofR g]), ⟨hlt, hnx.symm⟩, by simp only; omega, ?_⟩
      refine weak_of [(0, some 16)] rfl (by simp [upT, up, upL, push_cast]) (by simp [upH, upR, upL, up, push_cast]) (by simp [namesOk, push_cast]) (by simp [olds])
    · have hke : k = G.length := by simp at hb; omega
      subst hke
      rw [List.take_length] at hX
      rw [← hX]
      have ht : List.take X.length (X.map regRow) = X.map regRow := List.take_of_length_le (by simp)
      refine awp_region cx [] fun K hK => ?_
      simp [push_cast]
      repeat (refine And.intro (by clear hK; intros; first | omega | (simp_all; done) | (simp_all <;> omega)) ?_)
      refine hK _ ?_; clear hK K; refine Nav.imp ?_
      simp [push_cast, ht]
end Go.Proofs.Ytagakfaiimaifaa

set_option linter.unusedVariables false
set_option linter.unusedSimpArgs false
set_option maxRecDepth 100000
namespace Go.Proofs.Ytagakfaiimaifaa
open Go.Abs

/-! The cells around a region that are not in it. -/
def frLine (R : List Row) (y : Int) (xs : List Int) : List Cell := (xs.filter fun x => !conB R ⟨x, y⟩).map fun x => ⟨x, y⟩
def frXs (R : List Row) : List Int := ysD (lowX R - 1) (highX R - lowX R + 3).toNat
def frYs (R : List Row) : List Int := ysD (fstY R - 1) (lstY R - fstY R + 3).toNat
def freeL (R : List Row) : List Cell := (frYs R).flatMap fun y => frLine R y (frXs R)
def boxSm (R : List Row) : Prop := some? R = true → highX R - lowX R < 30 ∧ lstY R - fstY R < 30
theorem frLine_len {R : List Row} {y : Int} {xs : List Int} : (frLine R y xs).length ≤ xs.length := by
  simp only [frLine, List.length_map]
  exact List.length_filter_le _ _
theorem frLine_next {R : List Row} {y x : Int} {xs : List Int} {j : Nat} (h : xs[j]? = some x) : frLine R y (xs.take (j + 1)) = frLine R y (xs.take j) ++ if conB R ⟨x, y⟩ then [] else [⟨x, y⟩] := by
  unfold frLine
  rw [take_get h, List.filter_append, List.map_append]
  cases q : conB R ⟨x, y⟩ <;> simp [q]
theorem ysD_get {lo : Int} {n j : Nat} (h : j < n) : (ysD lo n)[j]? = some (lo + j) := by simp [ysD, h]
theorem ysD_len (lo : Int) (n : Nat) : (ysD lo n).length = n := by simp [ysD]
theorem flatN_len {α β : Type} {f : α → List β} {n : Nat} (h : ∀ x, (f x).length ≤ n) : ∀ l : List α, (l.flatMap f).length ≤ n * l.length
  | [] => by simp
  | x :: l => by
    have h1 := flatN_len h l
    have h2 := h x
    rw [List.flatMap_cons, List.length_append, List.length_cons, Nat.mul_add, Nat.mul_one]
    omega
theorem box_ends {R : List Row} (hv : validR R = true) (h0 : 0 < R.length) : -4096 ≤ lowX R ∧ lowX R ≤ highX R ∧ highX R ≤ 4095 ∧ -4096 ≤ fstY R ∧ fstY R ≤ lstY R ∧ lstY R ≤ 4095 := by
  obtain ⟨w0, hw0⟩ : ∃ w, R[0]? = some w := getq h0
  have hm := List.mem_of_getElem? hw0
  obtain ⟨w1, hw1⟩ : ∃ w, R[R.length - 1]? = some w := getq (by omega)
  have b1 := (row_fine hv hm).1
  have b2 := (row_fine hv (List.mem_of_getElem? hw1)).1
  have y1 : fstY R = w0.y := by simp [fstY, hw0]
  have y2 : lstY R = w1.y := by simp [lstY, hw1]
  have y3 := rows_ends hv hm
  have lx2 : -4096 ≤ lowX R := (foldMin fstA R 4096).2.2 (-4096) (by omega) fun w hw => (row_ends0 (row_fine hv hw).2).2.1
  have hx2 : highX R ≤ 4095 := (foldMax (fun w => lstB w - 1) R (-4096)).2.2 4095 (by omega) fun w hw => by have := (row_ends0 (row_fine hv hw).2).2.2.2; show lstB w - 1 ≤ 4095; omega
  have q1 : lowX R ≤ fstA w0 := (foldMin fstA R 4096).2.1 w0 hm
  have q2 : lstB w0 - 1 ≤ highX R := (foldMax (fun w => lstB w - 1) R (-4096)).2.1 w0 hm
  have q3 := (row_ends0 (row_fine hv hm).2).2.2.1
  omega
theorem free_len {R : List Row} (hb : boxSm R) (hs : some? R = true) : (frXs R).length ≤ 32 ∧ (frYs R).length ≤ 32 := by
  have := hb hs
  simp only [frXs, frYs, ysD_len]
  omega
theorem free_sm {R : List Row} (hv : validR R = true) (h0 : 0 < R.length) : ∀ c ∈ freeL R, smC c := fun c hc => by
  obtain ⟨y, hy, hc⟩ := List.mem_flatMap.1 hc
  obtain ⟨x, hx, rfl⟩ := List.mem_map.1 hc
  have hx := (List.mem_filter.1 hx).1
  have hb := box_ends hv h0
  unfold frXs at hx
  unfold frYs at hy
  rw [ysD_mem] at hx hy
  unfold smC
  simp only
  omega
noncomputable def holesR (R : List Row) : List (List Row) := if some? R then ((grps (freeL R) (adjR true)).drop 1).map ofR else []

set_option maxHeartbeats 16000000 in
theorem holes_ok (R : List Row) (hR : smallR R) (hbx : boxSm R) : PC Try.prog 14 [.agg (regRow R)] (.p (encRgs (holesR R))) := by
  have c1 := box_ok R hR
  by_cases hs : some? R = true
  · have hv : validR R = true := by simp [some?] at hs; exact hs.1
    have h0 : 0 < R.length := by simp [some?] at hs; exact hs.2
    have hres : holesR R = ((grps (freeL R) (adjR true)).drop 1).map ofR := by unfold holesR; rw [if_pos hs]
    have hbxx : boxD R = .tup [.agg (Cell.row ⟨lowX R, fstY R⟩), .agg (Cell.row ⟨highX R, lstY R⟩), .bool true] := by simp [boxD, boxLo, boxHi, hs]
    rw [hbxx] at c1
    clear hbxx
    obtain ⟨hxl, hyl⟩ := free_len hbx hs
    have hbe := box_ends hv h0
    have hbs := hbx hs
    have hfs := free_sm hv h0
    have hfl : (freeL R).length ≤ 1024 := by
      have := flatN_len (f := fun y => frLine R y (frXs R)) (n := 32) (fun y => Nat.le_trans frLine_len hxl) (frYs R)
      unfold freeL
      omega
    have c2 := touches_ok
    have c3 := split_ok21 (freeL R) true touchL (by omega) hfs (by simp [touchL]) (by simp [touchL]) adj_touch
    have hgl := grps_len (freeL R) (adjR true)
    have hof := fun g (hg : g ∈ grps (freeL R) (adjR true)) => of_ok g (by have := hgl.2 g hg; omega)
    have hcon := fun c => contains_ok R c hR
    have hfd : freeL R = (frYs R).flatMap fun y => frLine R y (frXs R) := rfl
    have hln := fun y x xs j (h : xs[j]? = some x) => frLine_next (R := R) (y := y) h
    have hXn : ∀ j : Nat, j < (highX R - lowX R + 3).toNat → (frXs R)[j]? = some (lowX R - 1 + j) := fun j hj => ysD_get hj
    have hYn : ∀ j : Nat, j < (lstY R - fstY R + 3).toNat → (frYs R)[j]? = some (fstY R - 1 + j) := fun j hj => ysD_get hj
    have hXl : (frXs R).length = (highX R - lowX R + 3).toNat := ysD_len _ _
    have hYl : (frYs R).length = (lstY R - fstY R + 3).toNat := ysD_len _ _
    have hl32 : ∀ y xs, (frLine R y xs).length ≤ xs.length := fun y xs => frLine_len
    have hl0 : ∀ y, frLine R y [] = [] := fun y => rfl
    rw [hres]
    clear hres hbx
    generalize conB R = con at *
    generalize frLine R = fl at *
    have hfy : ∀ i : Nat, (((frYs R).take i).flatMap (fun y => fl y (frXs R))).length ≤ 1024 := fun i => by
      have := flatN_len (f := fun y => fl y (frXs R)) (n := 32) (fun y => Nat.le_trans (hl32 y _) hxl) ((frYs R).take i)
      rw [List.length_take] at this
      omega
    generalize hF : freeL R = fr at *
    generalize frXs R = xs at *
    generalize frYs R = ys at *
    generalize hG : grps fr (adjR true) = G at *
    generalize lowX R = lx at *
    generalize highX R = hx at *
    generalize fstY R = fy at *
    generalize lstY R = ly at *
    have e1 := wrap_i64 (n := lx - 1) (by omega) (by omega)
    have e2 := wrap_i64 (n := fy - 1) (by omega) (by omega)
    have e3 := wrap_i64 (n := hx + 1) (by omega) (by omega)
    have e4 := wrap_i64 (n := ly + 1) (by omega) (by omega)
    refine pc_of_awp cx (fn := Try.f14) (c := _) Try.func14 rfl rfl (Nat.le_of_ble_eq_true rfl) ?_
    rw [Try.ntmps14]; refine Nav.imp ?_
    refine awp_region cx [] fun K hK => ?_
    simp [push_cast]
    repeat (refine And.intro (by clear hK; intros; first | omega | (simp_all; done) | (simp_all <;> omega)) ?_)
    refine hK _ ?_; clear hK K; refine Nav.imp ?_
    refine awp_region cx [(1, .p (.tup [.agg (Cell.row ⟨lx, fy⟩), .agg (Cell.row ⟨hx, ly⟩), .bool true]))] fun K hK => ?_
    simp [push_cast, c1, Cell.row]
    repeat (refine And.intro (by clear hK; intros; first | omega | (simp_all; done) | (simp_all <;> omega)) ?_)
    refine hK _ ?_; clear hK K; refine Nav.imp ?_
    refine awp_region cx [] fun K hK => ?_
    simp [push_cast]
    repeat (refine And.intro (by clear hK; intros; first | omega | (simp_all; done) | (simp_all <;> omega)) ?_)
    refine hK _ ?_; clear hK K; refine Nav.imp ?_
    refine awp_cond (b := false) (by simp [push_cast]) (fun hb => ?_) (fun hb => ?_) <;> (refine Nav.imp ?_)
    · simp at hb
    · refine awp_region cx [] fun K hK => ?_
      simp [push_cast]
      repeat (refine And.intro (by clear hK; intros; first | omega | (simp_all; done) | (simp_all <;> omega)) ?_)
      refine hK _ ?_; clear hK K; refine Nav.imp ?_
      refine awp_region cx [] fun K hK => ?_
      simp [push_cast, e2, Cell.row]
      repeat (refine And.intro (by clear hK; intros; first | omega | (simp_all; done) | (simp_all <;> omega)) ?_)
      refine hK _ ?_; clear hK K; refine Nav.imp ?_
      refine awp_loop (β := Nat × List Cell) (fun s => ⟨76, [(1, .ptr 0 0 0), (3, .ptr 1 0 0), (4, .ptr 2 0 0), (6, .hs 3 0 s.2.length), (7, .d (.int .i64 (fy - 1 + s.1)))], [(0, some ⟨24, 1, [(regRow R).map .d]⟩), (1, some ⟨33, 2, [(Cell.row ⟨lx, fy⟩).map .d]⟩), (2, some ⟨33, 2, [(Cell.row ⟨hx, ly⟩).map .d]⟩), (3, some ⟨33, 2, dr (s.2.map Cell.row)⟩)], 4⟩) (fun s => s.1 ≤ (ly - fy + 3).toNat ∧ s.2 = (ys.take s.1).flatMap fun y => fl y xs) (fun s => (ly - fy + 3).toNat - s.1) (0, []) ?_ ⟨Nat.zero_le _, by simp⟩ ?_
      · refine weak_of [(0, some 0), (1, some 8), (2, some 9), (3, none)] rfl (by simp [upT, up, upL, push_cast, Cell.row]) (by simp [upH, upR, upL, up, push_cast, Cell.row]) (by simp [namesOk, push_cast]) (by simp [olds])
      · rintro ⟨i, X⟩ ⟨hi, hX⟩
        simp only at hi hX
        have hXl2 := hfy i
        rw [← hX] at hXl2
        refine Nav.imp ?_
        refine awp_region cx [] fun K hK => ?_
        simp [push_cast, e4, Cell.row]
        repeat (refine And.intro (by clear hK; intros; first | omega | (simp_all; done) | (simp_all <;> omega)) ?_)
        refine hK _ ?_; clear hK K; refine Nav.imp ?_
        by_cases hil : i < (ly - fy + 3).toNat
        · have q1 : fy - 1 + (i : Int) ≤ ly + 1 := by omega
          have k1 := wrap_i64 (n := fy - 1 + (i : Int) + 1) (by omega) (by omega)
          have hyi := hYn i hil
          have hnx : (ys.take (i + 1)).flatMap (fun y => fl y xs) = X ++ fl (fy - 1 + i) xs := by rw [hX]; exact flat_take _ hyi
          have hlnn := fun x j => hln (fy - 1 + i) x xs j
          have hl33 := hl32 (fy - 1 + i)
          have hl00 := hl0 (fy - 1 + i)
          generalize fl (fy - 1 + i) = f at *
          have hyb : -10000 ≤ fy - 1 + (i : Int) ∧ fy - 1 + (i : Int) ≤ 10000 := by omega
          have hyy : fy - 1 + ((i + 1 : Nat) : Int) = fy - 1 + (i : Int) + 1 := by omega
          refine awp_cond (b := true) (by simp [push_cast, q1]) (fun hb => ?_) (fun hb => ?_) <;> (refine Nav.imp ?_)
          · refine awp_region cx [] fun K hK => ?_
            simp [push_cast, e1, Cell.row]
            repeat (refine And.intro (by clear hK; intros; first | omega | (simp_all; done) | (simp_all <;> omega)) ?_)
            refine hK _ ?_; clear hK K; refine Nav.imp ?_
            refine awp_loop (β := Nat × List Cell) (fun s => ⟨76, [(1, .ptr 0 0 0), (3, .ptr 1 0 0), (4, .ptr 2 0 0), (6, .hs 3 0 s.2.length), (7, .d (.int .i64 (fy - 1 + i))), (8, .d (.int .i64 (lx - 1 + s.1)))], [(0, some ⟨24, 1, [(regRow R).map .d]⟩), (1, some ⟨33, 2, [(Cell.row ⟨lx, fy⟩).map .d]⟩), (2, some ⟨33, 2, [(Cell.row ⟨hx, ly⟩).map .d]⟩), (3, some ⟨33, 2, dr (s.2.map Cell.row)⟩)], 4⟩) (fun s => s.1 ≤ (hx - lx + 3).toNat ∧ s.2 = X ++ f (xs.take s.1)) (fun s => (hx - lx + 3).toNat - s.1) (0, X) ?_ ⟨Nat.zero_le _, by simp [hl00]⟩ ?_
            · refine weak_of [(0, some 0), (1, some 1), (2, some 2), (3, some 3)] rfl (by simp [upT, up, upL, push_cast, Cell.row]) (by simp [upH, upR, upL, up, push_cast, Cell.row]) (by simp [namesOk, push_cast]) (by simp [olds])
            · rintro ⟨j, Z⟩ ⟨hj, hZ⟩
              simp only at hj hZ
              have hZl : Z.length ≤ 1024 + 32 := by
                have h1 := hl33 (xs.take j)
                rw [List.length_take] at h1
                rw [hZ, List.length_append]
                omega
              have h16 : (Z.length + 1) * 16 ≤ 140737488355328 := by omega
              refine Nav.imp ?_
              refine awp_region cx [] fun K hK => ?_
              simp [push_cast, e3, Cell.row]
              repeat (refine And.intro (by clear hK; intros; first | omega | (simp_all; done) | (simp_all <;> omega)) ?_)
              refine hK _ ?_; clear hK K; refine Nav.imp ?_
              by_cases hjl : j < (hx - lx + 3).toNat
              · have q2 : lx - 1 + (j : Int) ≤ hx + 1 := by omega
                have k2 := wrap_i64 (n := lx - 1 + (j : Int) + 1) (by omega) (by omega)
                have hxj := hXn j hjl
                have hlj := hlnn _ j hxj
                have hxx : lx - 1 + ((j + 1 : Nat) : Int) = lx - 1 + (j : Int) + 1 := by omega
                have c2 := hcon ⟨lx - 1 + j, fy - 1 + i⟩
                generalize con ⟨lx - 1 + j, fy - 1 + i⟩ = v at *
                refine awp_cond (b := true) (by simp [push_cast, q2]) (fun hb => ?_) (fun hb => ?_) <;> (refine Nav.imp ?_)
                · refine awp_region cx [] fun K hK => ?_
                  simp [push_cast, Cell.row]
                  repeat (refine And.intro (by clear hK; intros; first | omega | (simp_all; done) | (simp_all <;> omega)) ?_)
                  refine hK _ ?_; clear hK K; refine Nav.imp ?_
                  refine awp_region cx [(2, .p (.bool v))] fun K hK => ?_
                  simp [push_cast, c2, Cell.row]
                  repeat (refine And.intro (by clear hK; intros; first | omega | (simp_all; done) | (simp_all <;> omega)) ?_)
                  refine hK _ ?_; clear hK K; refine Nav.imp ?_
                  cases v with
                  | true =>
                    rw [if_pos rfl, List.append_nil] at hlj
                    refine awp_cond (b := false) (by simp [push_cast]) (fun hb => ?_) (fun hb => ?_) <;> (refine Nav.imp ?_)
                    · simp at hb
                    · refine awp_region cx [] fun K hK => ?_
                      simp [push_cast, k2]
                      repeat (refine And.intro (by clear hK; intros; first | omega | (simp_all; done) | (simp_all <;> omega)) ?_)
                      refine hK _ ?_; clear hK K; refine Nav.imp ?_
                      refine ⟨(j + 1, Z), ⟨hjl, by rw [hlj]; exact hZ⟩, by simp only; omega, ?_⟩
                      simp only [hxx]
                      refine weak_of [(0, some 0), (1, some 1), (2, some 2), (3, some 3)] rfl (by simp [upT, up, upL, push_cast, Cell.row]) (by simp [upH, upR, upL, up, push_cast, Cell.row]) (by simp [namesOk, push_cast]) (by simp [olds])
                  | false =>
                    rw [if_neg (by simp)] at hlj
                    refine awp_cond (b := true) (by simp [push_cast]) (fun hb => ?_) (fun hb => ?_) <;> (refine Nav.imp ?_)
                    · refine awp_region cx [] fun K hK => ?_
                      simp [push_cast, h16, Cell.row]
                      repeat (refine And.intro (by clear hK; intros; first | omega | (simp_all; done) | (simp_all <;> omega)) ?_)
                      refine hK _ ?_; clear hK K; refine Nav.imp ?_
                      refine awp_region cx [] fun K hK => ?_
                      simp [push_cast, k2]
                      repeat (refine And.intro (by clear hK; intros; first | omega | (simp_all; done) | (simp_all <;> omega)) ?_)
                      refine hK _ ?_; clear hK K; refine Nav.imp ?_
                      refine ⟨(j + 1, Z ++ [⟨lx - 1 + j, fy - 1 + i⟩]), ⟨hjl, by rw [hlj, hZ, List.append_assoc]⟩, by simp only; omega, ?_⟩
                      simp only [hxx]
                      refine weak_of [(0, some 0), (1, some 1), (2, some 2), (3, some 21)] rfl (by simp [upT, up, upL, push_cast, Cell.row]) (by simp [upH, upR, upL, up, push_cast, Cell.row]) (by simp [namesOk, push_cast]) (by simp [olds])
                    · simp at hb
                · simp at hb
              · have hje : j = (hx - lx + 3).toNat := by omega
                have q2 : ¬ lx - 1 + (j : Int) ≤ hx + 1 := by omega
                rw [hje, ← hXl, List.take_length, ← hnx] at hZ
                refine awp_cond (b := false) (by simp [push_cast, q2]) (fun hb => ?_) (fun hb => ?_) <;> (refine Nav.imp ?_)
                · simp at hb
                · refine awp_region cx [] fun K hK => ?_
                  simp [push_cast, k1]
                  repeat (refine And.intro (by clear hK; intros; first | omega | (simp_all; done) | (simp_all <;> omega)) ?_)
                  refine hK _ ?_; clear hK K; refine Nav.imp ?_
                  refine ⟨(i + 1, Z), ⟨hil, hZ⟩, by simp only; omega, ?_⟩
                  simp only [hyy]
                  refine weak_of [(0, some 0), (1, some 1), (2, some 2), (3, some 3)] rfl (by simp [upT, up, upL, push_cast, Cell.row]) (by simp [upH, upR, upL, up, push_cast, Cell.row]) (by simp [namesOk, push_cast]) (by simp [olds])
          · simp at hb
        · have hie : i = (ly - fy + 3).toNat := by omega
          have q1 : ¬ fy - 1 + (i : Int) ≤ ly + 1 := by omega
          rw [hie, ← hYl, List.take_length, ← hfd] at hX
          subst hX
          have htf : List.take X.length (X.map Cell.row) = X.map Cell.row := List.take_of_length_le (by simp)
          refine awp_cond (b := false) (by simp [push_cast, q1]) (fun hb => ?_) (fun hb => ?_) <;> (refine Nav.imp ?_)
          · simp at hb
          · refine awp_freeze 3 (X.map Cell.row) rfl (by simp [push_cast]) fun K hK => ?_
            simp [push_cast, St.fz, fzT, fzH, fzO, fz, fzL, fzR, fzR_dr, fzR_app, fzR_set, fzL_map]
            refine hK _ ?_; clear hK K; refine Nav.imp ?_
            refine awp_region cx [] fun K hK => ?_
            simp [push_cast]
            repeat (refine And.intro (by clear hK; intros; first | omega | (simp_all; done) | (simp_all <;> omega)) ?_)
            refine hK _ ?_; clear hK K; refine Nav.imp ?_
            refine awp_region cx [(1, .p (encCells touchL)), (2, .p (encGs G))] fun K hK => ?_
            simp [push_cast, c2, c3, htf]
            repeat (refine And.intro (by clear hK; intros; first | omega | (simp_all; done) | (simp_all <;> omega)) ?_)
            refine hK _ ?_; clear hK K; refine Nav.imp ?_
            refine awp_loop (β := Nat × List (List Row)) (fun s => ⟨76, [(10, .hs 0 0 s.2.length), (56, .d (encGs G)), (57, .d (.int .i64 G.length)), (58, .d (.int .i64 s.1))], [(0, some ⟨24, 1, dr (s.2.map regRow)⟩)], 1⟩) (fun s => s.1 ≤ G.length ∧ s.2 = ((G.take s.1).drop 1).map ofR) (fun s => G.length - s.1) (0, []) ?_ ⟨Nat.zero_le _, rfl⟩ ?_
            · refine weak_of [(0, none)] rfl (by simp [upT, up, upL, push_cast]) (by simp [upH, upR, upL, up, push_cast]) (by simp [namesOk, push_cast]) (by simp [olds])
            · rintro ⟨k, Y⟩ ⟨hk, hY⟩
              simp only at hk hY
              have hYl2 : Y.length ≤ k := by rw [hY]; simp; omega
              refine Nav.imp ?_
              refine awp_region cx [] fun K hK => ?_
              simp [push_cast]
              repeat (refine And.intro (by clear hK; intros; first | omega | (simp_all; done) | (simp_all <;> omega)) ?_)
              refine hK _ ?_; clear hK K; refine Nav.imp ?_
              refine awp_cond (b := decide ((k : Int) < G.length)) (by simp [push_cast]) (fun hb => ?_) (fun hb => ?_) <;> (refine Nav.imp ?_)
              · have hlt : k < G.length := by simpa using hb
                obtain ⟨g, hg⟩ := getq hlt
                have e0 := wrap_i64 (n := (k : Int) + 1) (by omega) (by omega)
                have c4 := hof g (List.mem_of_getElem? hg)
                have h24 : (Y.length + 1) * 24 ≤ 140737488355328 := by omega
                refine awp_region cx [] fun K hK => ?_
                simp [push_cast, hg]
                repeat (refine And.intro (by clear hK; intros; first | omega | (simp_all; done) | (simp_all <;> omega)) ?_)
                refine hK _ ?_; clear hK K; refine Nav.imp ?_
                refine awp_region cx [] fun K hK => ?_
                simp [push_cast]
                repeat (refine And.intro (by clear hK; intros; first | omega | (simp_all; done) | (simp_all <;> omega)) ?_)
                refine hK _ ?_; clear hK K; refine Nav.imp ?_
                by_cases hk0 : k = 0
                · subst hk0
                  have hnx : ((G.take (0 + 1)).drop 1).map ofR = Y := by rw [hY]; simp
                  refine awp_cond (b := false) (by simp [push_cast]) (fun hb => ?_) (fun hb => ?_) <;> (refine Nav.imp ?_)
                  · simp at hb
                  · refine awp_region cx [] fun K hK => ?_
                    simp [push_cast]
                    repeat (refine And.intro (by clear hK; intros; first | omega | (simp_all; done) | (simp_all <;> omega)) ?_)
                    refine hK _ ?_; clear hK K; refine Nav.imp ?_
                    refine ⟨(0 + 1, Y), ⟨hlt, hnx.symm⟩, by simp only; omega, ?_⟩
                    refine weak_of [(0, some 0)] rfl (by simp [upT, up, upL, push_cast]) (by simp [upH, upR, upL, up, push_cast]) (by simp [namesOk, push_cast]) (by simp [olds])
                · have hnx : ((G.take (k + 1)).drop 1).map ofR = Y ++ [ofR g] := by
                    rw [take_get hg, List.drop_append_of_le_length (by simp; omega), hY]; simp
                  have hk1 : 0 < k := by omega
                  refine awp_cond (b := true) (by simp [push_cast, hk1]) (fun hb => ?_) (fun hb => ?_) <;> (refine Nav.imp ?_)
                  · refine awp_region cx [(1, .p (ofD g))] fun K hK => ?_
                    simp [push_cast, c4]
                    repeat (refine And.intro (by clear hK; intros; first | omega | (simp_all; done) | (simp_all <;> omega)) ?_)
                    refine hK _ ?_; clear hK K; refine Nav.imp ?_
                    refine awp_region cx [] fun K hK => ?_
                    simp [push_cast, h24]
                    repeat (refine And.intro (by clear hK; intros; first | omega | (simp_all; done) | (simp_all <;> omega)) ?_)
                    refine hK _ ?_; clear hK K; refine Nav.imp ?_
                    refine awp_region cx [] fun K hK => ?_
                    simp [push_cast, e0]
                    repeat (refine And.intro (by clear hK; intros; first | omega | (simp_all; done) | (simp_all <;> omega)) ?_)
                    refine hK _ ?_; clear hK K; refine Nav.imp ?_
                    refine ⟨(k + 1, Y ++ [ofR g]), ⟨hlt, hnx.symm⟩, by simp only; omega, ?_⟩
                    refine weak_of [(0, some 20)] rfl (by simp [upT, up, upL, push_cast]) (by simp [upH, upR, upL, up, push_cast]) (by simp [namesOk, push_cast]) (by simp [olds])
                  · simp at hb
              · have hke : k = G.length := by simp at hb; omega
                subst hke
                rw [List.take_length] at hY
                rw [← hY]
                have ht : List.take Y.length (Y.map regRow) = Y.map regRow := List.take_of_length_le (by simp)
                refine awp_region cx [] fun K hK => ?_
                simp [push_cast]
                repeat (refine And.intro (by clear hK; intros; first | omega | (simp_all; done) | (simp_all <;> omega)) ?_)
                refine hK _ ?_; clear hK K; refine Nav.imp ?_
                simp [push_cast, ht]
  · have hres : holesR R = [] := by unfold holesR; rw [if_neg hs]
    have hbxx : boxD R = .tup [.agg (Cell.row ⟨0, 0⟩), .agg (Cell.row ⟨0, 0⟩), .bool false] := by
      have : some? R = false := by simpa using hs
      simp [boxD, boxLo, boxHi, this]
    rw [hbxx] at c1
    rw [hres]
    refine pc_of_awp cx (fn := Try.f14) (c := _) Try.func14 rfl rfl (Nat.le_of_ble_eq_true rfl) ?_
    rw [Try.ntmps14]; refine Nav.imp ?_
    refine awp_region cx [] fun K hK => ?_
    simp [push_cast]
    repeat (refine And.intro (by clear hK; intros; first | omega | (simp_all; done) | (simp_all <;> omega)) ?_)
    refine hK _ ?_; clear hK K; refine Nav.imp ?_
    refine awp_region cx [(1, .p (.tup [.agg (Cell.row ⟨0, 0⟩), .agg (Cell.row ⟨0, 0⟩), .bool false]))] fun K hK => ?_
    simp [push_cast, c1, Cell.row]
    repeat (refine And.intro (by clear hK; intros; first | omega | (simp_all; done) | (simp_all <;> omega)) ?_)
    refine hK _ ?_; clear hK K; refine Nav.imp ?_
    refine awp_region cx [] fun K hK => ?_
    simp [push_cast]
    repeat (refine And.intro (by clear hK; intros; first | omega | (simp_all; done) | (simp_all <;> omega)) ?_)
    refine hK _ ?_; clear hK K; refine Nav.imp ?_
    refine awp_cond (b := true) (by simp [push_cast]) (fun hb => ?_) (fun hb => ?_) <;> (refine Nav.imp ?_)
    · refine awp_region cx [] fun K hK => ?_
      simp [push_cast]
      repeat (refine And.intro (by clear hK; intros; first | omega | (simp_all; done) | (simp_all <;> omega)) ?_)
      refine hK _ ?_; clear hK K; refine Nav.imp ?_
      simp [push_cast]
    · simp at hb

end Go.Proofs.Ytagakfaiimaifaa

set_option linter.unusedVariables false
set_option linter.unusedSimpArgs false
set_option maxRecDepth 100000
namespace Go.Proofs.Ytagakfaiimaifaa
open Go.Abs

/-! The groups, computed. -/
def connB (l : List Cell) (t : Bool) (a b : Cell) : Bool := match l.findIdx? (fun c => decide (c = a)), l.findIdx? (fun c => decide (c = b)) with
  | some i, some j => (gath l t i)[j]? == some true
  | _, _ => false
theorem find_cell {l : List Cell} {a : Cell} : (∃ i, l.findIdx? (fun c => decide (c = a)) = some i ∧ l[i]? = some a) ∨ (l.findIdx? (fun c => decide (c = a)) = none ∧ a ∉ l) := by
  cases h : l.findIdx? (fun c => decide (c = a)) with
  | some i =>
    left
    obtain ⟨h1, h2, _⟩ := List.findIdx?_eq_some_iff_getElem.1 h
    exact ⟨i, rfl, by rw [List.getElem?_eq_getElem h1]; simpa using h2⟩
  | none =>
    right
    rw [List.findIdx?_eq_none_iff] at h
    exact ⟨rfl, fun ha => by have := h a ha; simp at this⟩
theorem connB_iff (l : List Cell) (t : Bool) (a b : Cell) : connB l t a b = true ↔ Conn l (adjR t) a b := by
  unfold connB
  rcases find_cell (l := l) (a := a) with ⟨i, h1, h2⟩ | ⟨h1, h2⟩
  · rcases find_cell (l := l) (a := b) with ⟨j, h3, h4⟩ | ⟨h3, h4⟩
    · rw [h1, h3]
      simp only [beq_iff_eq]
      exact (gath_get (t := t) h2).2 j b h4
    · rw [h1, h3]
      simp only [Bool.false_eq_true, false_iff]
      exact fun h => h4 h.right
  · rw [h1]
    simp only [Bool.false_eq_true, false_iff]
    exact fun h => h2 h.left
def hdC (l : List Cell) (t : Bool) : Nat → List Cell
  | 0 => []
  | k + 1 => match l[k]? with
    | some c => if (hdC l t k).any fun h => connB l t h c then hdC l t k else hdC l t k ++ [c]
    | none => hdC l t k
def grpsC (l : List Cell) (t : Bool) : List (List Cell) := (hdC l t l.length).map fun h => l.filter fun x => connB l t h x
theorem hdC_eq (l : List Cell) (t : Bool) : ∀ k, hdS l (adjR t) k = hdC l t k
  | 0 => rfl
  | k + 1 => by
    have ih := hdC_eq l t k
    cases hk : l[k]? with
    | none => simp only [hdS, hdC, hk, ih]
    | some c =>
      have e : ((hdC l t k).any fun h => connB l t h c) = true ↔ ∃ h ∈ hdS l (adjR t) k, Conn l (adjR t) h c := by
        rw [List.any_eq_true, ih]
        exact exists_congr fun h => and_congr_right fun _ => connB_iff l t h c
      simp only [hdC, hk]
      rcases hdS_next (adj := adjR t) hk with ⟨q, e2⟩ | ⟨q, e2⟩
      · rw [e2, if_pos (e.2 q), ih]
      · rw [e2, if_neg (fun h => q (e.1 h)), ih]
open Classical in
theorem grpsC_eq (l : List Cell) (t : Bool) : grps l (adjR t) = grpsC l t := by
  unfold grps grpsC
  rw [hdC_eq]
  refine List.map_congr_left fun h _ => ?_
  unfold cls
  refine List.filter_congr fun x _ => ?_
  rw [Bool.eq_iff_iff, decide_eq_true_iff]
  exact (connB_iff l t h x).symm

/-! What the groups of a region's cells are. -/
theorem free_pw (R : List Row) : (freeL R).Pairwise ltY := by
  unfold freeL
  rw [List.pairwise_flatMap]
  refine ⟨fun y _ => ?_, (ysD_pw _ _).imp fun {a b} hab x hx z hz => ?_⟩
  · unfold frLine
    rw [List.pairwise_map]
    refine ((ysD_pw _ _).sublist List.filter_sublist).imp fun {a b} hab => ?_
    exact .inr ⟨rfl, hab⟩
  · obtain ⟨_, _, rfl⟩ := List.mem_map.1 hx
    obtain ⟨_, _, rfl⟩ := List.mem_map.1 hz
    exact .inl hab
theorem ltY_nodup {l : List Cell} (h : l.Pairwise ltY) : l.Nodup := h.imp fun {a b} hab e => by
  subst e
  rcases hab with h | ⟨_, h⟩ <;> omega
theorem grps_pw {l : List Cell} (h : l.Pairwise ltY) {adj : Cell → Cell → Bool} {g : List Cell} (hg : g ∈ grps l adj) : g.Pairwise ltY := by
  obtain ⟨a, _, rfl⟩ := List.mem_map.1 hg
  exact h.sublist List.filter_sublist
theorem ofR_ok {l : List Cell} (h : l.Pairwise ltY) : validR (ofR l) = true := by
  by_cases hon : ∀ c ∈ l, onG c = true
  · exact (of_set (ltY_nodup h) hon).1
  · have : ofR l = [] := by
      unfold ofR
      rw [if_neg]
      rw [List.all_eq_true]
      exact hon
    rw [this]; rfl
theorem holes_valid {R : List Row} : ∀ h ∈ holesR R, validR h = true := fun h hh => by
  unfold holesR at hh
  split at hh
  · obtain ⟨g, hg, rfl⟩ := List.mem_map.1 hh
    exact ofR_ok (grps_pw (free_pw R) (List.mem_of_mem_drop hg))
  · simp at hh
theorem cellsOf_pw (R : List Row) : (cellsOf R).Pairwise ltY := by
  unfold cellsOf
  split
  · rename_i h; exact cells_pw h
  · simp
theorem comp_valid {R : List Row} : ∀ h ∈ compR R, validR h = true := fun h hh => by
  obtain ⟨g, hg, rfl⟩ := List.mem_map.1 hh
  exact ofR_ok (grps_pw (cellsOf_pw R) hg)
theorem opR_val {f : Bool → Bool → Bool} (hf : f false false = false) (a b : List Row) : validR (opR f a b) = true := by
  cases hv : (validR a && validR b) with
  | false => unfold opR; rw [hv]; rfl
  | true =>
    simp only [Bool.and_eq_true] at hv
    exact (opR_facts hf hv.1 hv.2).1

noncomputable def fillR (R : List Row) : List Row := if validR R then (holesR R).foldl (opR fU) (opR fU R []) else []
theorem holes_len (R : List Row) (hb : boxSm R) : (holesR R).length ≤ 2000 := by
  unfold holesR
  split
  · rename_i hs
    obtain ⟨h1, h2⟩ := free_len hb hs
    have h3 := flatN_len (f := fun y => frLine R y (frXs R)) (n := 32) (fun y => Nat.le_trans frLine_len h1) (frYs R)
    have h4 := (grps_len (freeL R) (adjR true)).1
    have h5 : (freeL R).length ≤ 32 * (frYs R).length := h3
    simp only [List.length_map, List.length_drop]
    omega
  · simp
set_option maxHeartbeats 4000000 in
theorem fill_ok (R : List Row) (hR : smallR R) (hbx : boxSm R) : PC Try.prog 17 [.agg (regRow R)] (.p (.agg (regRow (fillR R)))) := by
  have c0 := valid_ok R hR
  cases hv : validR R with
  | false =>
    rw [hv] at c0
    have hres : fillR R = [] := by unfold fillR; rw [hv]; rfl
    rw [hres]
    refine pc_of_awp cx (fn := Try.f17) (c := _) Try.func17 rfl rfl (Nat.le_of_ble_eq_true rfl) ?_
    rw [Try.ntmps17]; refine Nav.imp ?_
    refine awp_region cx [] fun K hK => ?_
    simp [push_cast]
    repeat (refine And.intro (by clear hK; intros; first | omega | (simp_all; done) | (simp_all <;> omega)) ?_)
    refine hK _ ?_; clear hK K; refine Nav.imp ?_
    refine awp_region cx [(1, .p (.bool false))] fun K hK => ?_
    simp [push_cast, c0]
    repeat (refine And.intro (by clear hK; intros; first | omega | (simp_all; done) | (simp_all <;> omega)) ?_)
    refine hK _ ?_; clear hK K; refine Nav.imp ?_
    refine awp_cond (b := true) (by simp [push_cast]) (fun hb => ?_) (fun hb => ?_) <;> (refine Nav.imp ?_)
    · refine awp_region cx [] fun K hK => ?_
      simp [push_cast]
      repeat (refine And.intro (by clear hK; intros; first | omega | (simp_all; done) | (simp_all <;> omega)) ?_)
      refine hK _ ?_; clear hK K; refine Nav.imp ?_
      simp [push_cast]
    · simp at hb
  | true =>
    rw [hv] at c0
    have hres : fillR R = (holesR R).foldl (opR fU) (opR fU R []) := by unfold fillR; rw [hv]; rfl
    have c1 : PC Try.prog 22 [.agg (regRow R), .agg [.sl []]] (.p (.agg (regRow (opR fU R [])))) := unionR_ok R [] hR (small_valid rfl)
    have c2 := holes_ok R hR hbx
    have hhv := @holes_valid R
    have hHl := holes_len R hbx
    have hF0 : validR (opR fU R []) = true := opR_val (f := fU) rfl _ _
    have hun := fun a b (ha : validR a = true) (hb : validR b = true) => unionR_ok a b (small_valid ha) (small_valid hb)
    have hov := fun a b => opR_val (f := fU) rfl a b
    rw [hres]
    clear hres
    generalize opR fU R [] = F0 at *
    generalize holesR R = H at *
    refine pc_of_awp cx (fn := Try.f17) (c := _) Try.func17 rfl rfl (Nat.le_of_ble_eq_true rfl) ?_
    rw [Try.ntmps17]; refine Nav.imp ?_
    refine awp_region cx [] fun K hK => ?_
    simp [push_cast]
    repeat (refine And.intro (by clear hK; intros; first | omega | (simp_all; done) | (simp_all <;> omega)) ?_)
    refine hK _ ?_; clear hK K; refine Nav.imp ?_
    refine awp_region cx [(1, .p (.bool true))] fun K hK => ?_
    simp [push_cast, c0]
    repeat (refine And.intro (by clear hK; intros; first | omega | (simp_all; done) | (simp_all <;> omega)) ?_)
    refine hK _ ?_; clear hK K; refine Nav.imp ?_
    refine awp_cond (b := false) (by simp [push_cast]) (fun hb => ?_) (fun hb => ?_) <;> (refine Nav.imp ?_)
    · simp at hb
    · refine awp_region cx [(2, .p (.agg (regRow F0)))] fun K hK => ?_
      simp [push_cast, c1]
      repeat (refine And.intro (by clear hK; intros; first | omega | (simp_all; done) | (simp_all <;> omega)) ?_)
      refine hK _ ?_; clear hK K; refine Nav.imp ?_
      refine awp_region cx [(1, .p (encRgs H))] fun K hK => ?_
      simp [push_cast, c2]
      repeat (refine And.intro (by clear hK; intros; first | omega | (simp_all; done) | (simp_all <;> omega)) ?_)
      refine hK _ ?_; clear hK K; refine Nav.imp ?_
      refine awp_loop (β := Nat × List Row) (fun s => ⟨25, [(1, .ptr 0 0 0), (2, .ptr 1 0 0), (3, .ptr 2 0 0), (14, .d (encRgs H)), (15, .d (.int .i64 H.length)), (16, .d (.int .i64 s.1))], [(0, some ⟨24, 1, [(regRow R).map .d]⟩), (1, some ⟨24, 1, [[.nl]]⟩), (2, some ⟨24, 1, [(regRow s.2).map .d]⟩)], 3⟩) (fun s => s.1 ≤ H.length ∧ s.2 = (H.take s.1).foldl (opR fU) F0 ∧ validR s.2 = true) (fun s => H.length - s.1) (0, F0) ?_ ⟨Nat.zero_le _, rfl, hF0⟩ ?_
      · refine weak_of [(0, some 0), (1, some 1), (2, some 8)] rfl (by simp [upT, up, upL, push_cast]) (by simp [upH, upR, upL, up, push_cast]) (by simp [namesOk, push_cast]) (by simp [olds])
      · rintro ⟨k, X⟩ ⟨hk, hX, hXv⟩
        simp only at hk hX hXv
        refine Nav.imp ?_
        refine awp_region cx [] fun K hK => ?_
        simp [push_cast]
        repeat (refine And.intro (by clear hK; intros; first | omega | (simp_all; done) | (simp_all <;> omega)) ?_)
        refine hK _ ?_; clear hK K; refine Nav.imp ?_
        refine awp_cond (b := decide ((k : Int) < H.length)) (by simp [push_cast]) (fun hb => ?_) (fun hb => ?_) <;> (refine Nav.imp ?_)
        · have hlt : k < H.length := by simpa using hb
          obtain ⟨h, hh⟩ := getq hlt
          have e0 := wrap_i64 (n := (k : Int) + 1) (by omega) (by omega)
          have c3 := hun X h hXv (hhv h (List.mem_of_getElem? hh))
          have hnx : (H.take (k + 1)).foldl (opR fU) F0 = opR fU X h := by rw [take_get hh, List.foldl_append, ← hX]; rfl
          have hXv2 := hov X h
          generalize opR fU X h = Y at *
          refine awp_region cx [] fun K hK => ?_
          simp [push_cast, hh]
          repeat (refine And.intro (by clear hK; intros; first | omega | (simp_all; done) | (simp_all <;> omega)) ?_)
          refine hK _ ?_; clear hK K; refine Nav.imp ?_
          refine awp_region cx [(2, .p (.agg (regRow Y)))] fun K hK => ?_
          simp [push_cast, c3]
          repeat (refine And.intro (by clear hK; intros; first | omega | (simp_all; done) | (simp_all <;> omega)) ?_)
          refine hK _ ?_; clear hK K; refine Nav.imp ?_
          refine awp_region cx [] fun K hK => ?_
          simp [push_cast, e0]
          repeat (refine And.intro (by clear hK; intros; first | omega | (simp_all; done) | (simp_all <;> omega)) ?_)
          refine hK _ ?_; clear hK K; refine Nav.imp ?_
          refine ⟨(k + 1, Y), ⟨hlt, hnx.symm, hXv2⟩, by show H.length - (k + 1) < H.length - k; omega, ?_⟩
          refine weak_of [(0, some 0), (1, some 1), (2, some 2)] rfl (by simp [upT, up, upL, push_cast]) (by simp [upH, upR, upL, up, push_cast]) (by simp [namesOk, push_cast]) (by simp [olds])
        · have hke : k = H.length := by simp at hb; omega
          subst hke
          rw [List.take_length] at hX
          subst hX
          refine awp_region cx [] fun K hK => ?_
          simp [push_cast]
          repeat (refine And.intro (by clear hK; intros; first | omega | (simp_all; done) | (simp_all <;> omega)) ?_)
          refine hK _ ?_; clear hK K; refine Nav.imp ?_
          simp [push_cast]
end Go.Proofs.Ytagakfaiimaifaa

set_option linter.unusedVariables false
set_option linter.unusedSimpArgs false
set_option maxRecDepth 100000
namespace Go.Proofs.Ytagakfaiimaifaa
open Go.Abs

/-! Depths. -/
def inAllB (R : List Row) (c : Cell) (k : Nat) : Bool := (ysD (c.y - k) (2 * k + 1)).all fun y => (ysD (c.x - k) (2 * k + 1)).all fun x => conB R ⟨x, y⟩
theorem inAllB_iff {R : List Row} {c : Cell} {k : Nat} : inAllB R c k = true ↔ ∀ x y : Int, c.x - k ≤ x → x ≤ c.x + k → c.y - k ≤ y → y ≤ c.y + k → conB R ⟨x, y⟩ = true := by
  simp only [inAllB, List.all_eq_true, ysD_mem]
  constructor
  · intro h x y h1 h2 h3 h4
    exact h y ⟨h3, by omega⟩ x ⟨h1, by omega⟩
  · intro h y hy x hx
    exact h x y hx.1 (by omega) hy.1 (by omega)
theorem conB_grid {R : List Row} {c : Cell} (h : conB R c = true) : -4096 ≤ c.x ∧ c.x < 4096 ∧ -4096 ≤ c.y ∧ c.y < 4096 := by
  have hv : validR R = true := by
    unfold conB at h
    simp only [Bool.and_eq_true] at h
    exact h.1
  rw [conB_mem hv, decide_eq_true_eq] at h
  exact cell_bd hv h
theorem inAll_zero {R : List Row} {c : Cell} : inAllB R c 0 = conB R c := by
  rw [Bool.eq_iff_iff, inAllB_iff]
  constructor
  · intro h; exact h c.x c.y (by simp) (by simp) (by simp) (by simp)
  · intro h x y h1 h2 h3 h4
    have e1 : x = c.x := by simp at h1 h2; omega
    have e2 : y = c.y := by simp at h3 h4; omega
    rw [e1, e2]; exact h
theorem inAll_con {R : List Row} {c : Cell} {k : Nat} (h : inAllB R c k = true) : conB R c = true := inAllB_iff.1 h c.x c.y (by omega) (by omega) (by omega) (by omega)
theorem inAll_far {R : List Row} {c : Cell} : inAllB R c 8500 = false := by
  rw [Bool.eq_false_iff]
  intro h
  have h1 := conB_grid (inAll_con h)
  have h2 := conB_grid (inAllB_iff.1 h (c.x + 8500) c.y (by omega) (by simp) (by omega) (by omega))
  simp only at h2
  omega
def depN (R : List Row) (c : Cell) : Nat := ((List.range 9000).find? fun k => !inAllB R c k).getD 0
theorem depN_of {R : List Row} {c : Cell} {k : Nat} (h1 : ∀ j < k, inAllB R c j = true) (h2 : inAllB R c k = false) : depN R c = k := by
  have hk : k < 9000 := by
    apply Nat.lt_of_not_le
    intro hle
    have := h1 8500 (by omega)
    rw [inAll_far] at this; cases this
  unfold depN
  have : (List.range 9000).find? (fun k => !inAllB R c k) = some k := by
    rw [List.find?_range_eq_some]
    exact ⟨by rw [h2]; rfl, List.mem_range.2 hk, fun j hj => by rw [h1 j hj]; rfl⟩
  rw [this]; rfl
theorem depN_spec (R : List Row) (c : Cell) : (∀ j < depN R c, inAllB R c j = true) ∧ inAllB R c (depN R c) = false := by
  have hex : ∃ k, (List.range 9000).find? (fun k => !inAllB R c k) = some k := by
    cases h : (List.range 9000).find? (fun k => !inAllB R c k) with
    | some k => exact ⟨k, rfl⟩
    | none =>
      rw [List.find?_eq_none] at h
      have := h 8500 (by simp)
      rw [inAll_far] at this
      simp at this
  obtain ⟨k, hk⟩ := hex
  have e : depN R c = k := by unfold depN; rw [hk]; rfl
  rw [List.find?_range_eq_some] at hk
  rw [e]
  exact ⟨fun j hj => by simpa using hk.2.2 j hj, by simpa using hk.1⟩
theorem dep_step {R : List Row} {c : Cell} {d : Nat} (h0 : inAllB R c d = true) (h1 : ∀ i : Int, -(d + 1 : Nat) ≤ i → i ≤ (d + 1 : Nat) → conB R ⟨c.x + i, c.y - (d + 1 : Nat)⟩ = true ∧ conB R ⟨c.x + i, c.y + (d + 1 : Nat)⟩ = true ∧ conB R ⟨c.x - (d + 1 : Nat), c.y + i⟩ = true ∧ conB R ⟨c.x + (d + 1 : Nat), c.y + i⟩ = true) : inAllB R c (d + 1) = true := by
  rw [inAllB_iff] at h0 ⊢
  intro x y q1 q2 q3 q4
  by_cases e1 : y = c.y - (d + 1 : Nat)
  · have := (h1 (x - c.x) (by omega) (by omega)).1
    rw [show c.x + (x - c.x) = x by omega, ← e1] at this
    exact this
  by_cases e2 : y = c.y + (d + 1 : Nat)
  · have := (h1 (x - c.x) (by omega) (by omega)).2.1
    rw [show c.x + (x - c.x) = x by omega, ← e2] at this
    exact this
  by_cases e3 : x = c.x - (d + 1 : Nat)
  · have := (h1 (y - c.y) (by omega) (by omega)).2.2.1
    rw [show c.y + (y - c.y) = y by omega, ← e3] at this
    exact this
  by_cases e4 : x = c.x + (d + 1 : Nat)
  · have := (h1 (y - c.y) (by omega) (by omega)).2.2.2
    rw [show c.y + (y - c.y) = y by omega, ← e4] at this
    exact this
  exact h0 x y (by omega) (by omega) (by omega) (by omega)

end Go.Proofs.Ytagakfaiimaifaa

set_option linter.unusedVariables false
set_option linter.unusedSimpArgs false
set_option maxRecDepth 100000
namespace Go.Proofs.Ytagakfaiimaifaa
open Go.Abs

set_option maxHeartbeats 16000000 in
theorem depth_ok (R : List Row) (c : Cell) (hR : smallR R) : PC Try.prog 19 [.agg (regRow R), .agg c.row] (.p (.int .i64 (depN R c))) := by
  have c1 := contains_ok R c hR
  have hof := fun k => @depN_of R c k
  have hfar := @inAll_far R c
  have hz := @inAll_zero R c
  have hcon := fun c => contains_ok R c hR
  have hgrid := @conB_grid R c
  have hstep := fun d => @dep_step R c d
  have hbad : ∀ (d : Nat) (x y : Int), -(d : Int) ≤ x → x ≤ d → -(d : Int) ≤ y → y ≤ d → conB R ⟨c.x + x, c.y + y⟩ = false → inAllB R c d = false := fun d x y h1 h2 h3 h4 h5 => by
    rw [Bool.eq_false_iff]
    intro h
    rw [inAllB_iff.1 h (c.x + x) (c.y + y) (by omega) (by omega) (by omega) (by omega)] at h5; cases h5
  generalize depN R c = W at *
  generalize inAllB R c = ia at *
  cases hv0 : conB R c with
  | false =>
    rw [hv0] at c1 hz
    have hWe := hof 0 (fun j hj => by omega) hz
    subst hWe
    refine pc_of_awp cx (fn := Try.f19) (c := _) Try.func19 rfl rfl (Nat.le_of_ble_eq_true rfl) ?_
    rw [Try.ntmps19]; refine Nav.imp ?_
    refine awp_region cx [] fun K hK => ?_
    simp [push_cast]
    repeat (refine And.intro (by clear hK; intros; first | omega | (simp_all; done) | (simp_all <;> omega)) ?_)
    refine hK _ ?_; clear hK K; refine Nav.imp ?_
    refine awp_region cx [(2, .p (.bool false))] fun K hK => ?_
    simp [push_cast, c1, Cell.row]
    repeat (refine And.intro (by clear hK; intros; first | omega | (simp_all; done) | (simp_all <;> omega)) ?_)
    refine hK _ ?_; clear hK K; refine Nav.imp ?_
    refine awp_cond (b := true) (by simp [push_cast]) (fun hb => ?_) (fun hb => ?_) <;> (refine Nav.imp ?_)
    · refine awp_region cx [] fun K hK => ?_
      simp [push_cast]
      repeat (refine And.intro (by clear hK; intros; first | omega | (simp_all; done) | (simp_all <;> omega)) ?_)
      refine hK _ ?_; clear hK K; refine Nav.imp ?_
      simp [push_cast]
    · simp at hb
  | true =>
    rw [hv0] at c1 hz
    have hg := hgrid hv0
    clear hgrid hv0
    generalize conB R = con at *
    obtain ⟨px, py⟩ := c
    simp only at hg hbad hstep
    refine pc_of_awp cx (fn := Try.f19) (c := _) Try.func19 rfl rfl (Nat.le_of_ble_eq_true rfl) ?_
    rw [Try.ntmps19]; refine Nav.imp ?_
    refine awp_region cx [] fun K hK => ?_
    simp [push_cast]
    repeat (refine And.intro (by clear hK; intros; first | omega | (simp_all; done) | (simp_all <;> omega)) ?_)
    refine hK _ ?_; clear hK K; refine Nav.imp ?_
    refine awp_region cx [(2, .p (.bool true))] fun K hK => ?_
    simp [push_cast, c1, Cell.row]
    repeat (refine And.intro (by clear hK; intros; first | omega | (simp_all; done) | (simp_all <;> omega)) ?_)
    refine hK _ ?_; clear hK K; refine Nav.imp ?_
    refine awp_cond (b := false) (by simp [push_cast]) (fun hb => ?_) (fun hb => ?_) <;> (refine Nav.imp ?_)
    · simp at hb
    · refine awp_region cx [] fun K hK => ?_
      simp [push_cast]
      repeat (refine And.intro (by clear hK; intros; first | omega | (simp_all; done) | (simp_all <;> omega)) ?_)
      refine hK _ ?_; clear hK K; refine Nav.imp ?_
      refine awp_loop (β := Nat) (fun d => ⟨56, [(2, .ptr 0 0 0), (3, .ptr 1 0 0), (5, .d (.int .i64 (d + 1 : Nat)))], [(0, some ⟨24, 1, [(regRow R).map .d]⟩), (1, some ⟨33, 2, [(Cell.row ⟨px, py⟩).map .d]⟩)], 2⟩) (fun d => d ≤ 8500 ∧ ∀ j < d + 1, ia j = true) (fun d => 9000 - d) 0 ?_ ⟨Nat.zero_le _, fun j hj => by rw [show j = 0 from Nat.lt_one_iff.1 hj]; exact hz⟩ ?_
      · refine weak_of [(0, some 0), (1, some 1)] rfl (by simp [upT, up, upL, push_cast, Cell.row]) (by simp [upH, upR, upL, up, push_cast, Cell.row]) (by simp [namesOk, push_cast]) (by simp [olds])
      · rintro d ⟨hd, hall⟩
        have hd2 : d < 8500 := by
          apply Nat.lt_of_not_le
          intro hle
          have := hall 8500 (by omega)
          rw [hfar] at this; cases this
        have n1 := wrap_i64 (n := -((d : Int) + 1)) (by omega) (by omega)
        have n2 := wrap_i64 (n := (d : Int) + 1 + 1) (by omega) (by omega)
        have hst := hstep d (hall d (by omega))
        have hbd := hbad (d + 1)
        have hofd := hof (d + 1) hall
        have hdc : ((d + 1 : Nat) : Int) = (d : Int) + 1 := by omega
        simp only [hdc] at hst hbd
        have z3 := wrap_i64 (n := 3) (by omega) (by omega)
        have z4 := wrap_i64 (n := 4) (by omega) (by omega)
        have hD : -10000 ≤ (d : Int) + 1 ∧ (d : Int) + 1 ≤ 10000 := by omega
        generalize hDD : (d : Int) + 1 = D1 at *
        refine Nav.imp ?_
        refine awp_region cx [] fun K hK => ?_
        simp [push_cast, n1, hDD]
        repeat (refine And.intro (by clear hK; intros; first | omega | (simp_all; done) | (simp_all <;> omega)) ?_)
        refine hK _ ?_; clear hK K; refine Nav.imp ?_
        refine awp_loop (β := Int) (fun i => ⟨56, [(2, .ptr 0 0 0), (3, .ptr 1 0 0), (5, .d (.int .i64 D1)), (6, .d (.int .i64 i))], [(0, some ⟨24, 1, [(regRow R).map .d]⟩), (1, some ⟨33, 2, [(Cell.row ⟨px, py⟩).map .d]⟩)], 2⟩) (fun i => -D1 ≤ i ∧ i ≤ D1 + 1 ∧ ∀ x, -D1 ≤ x → x < i → con ⟨px + x, py - D1⟩ = true ∧ con ⟨px + x, py + D1⟩ = true ∧ con ⟨px - D1, py + x⟩ = true ∧ con ⟨px + D1, py + x⟩ = true) (fun i => (D1 + 1 - i).toNat) (-D1) ?_ ⟨Int.le_refl _, by omega, fun x h1 h2 => by omega⟩ ?_
        · refine weak_of [(0, some 0), (1, some 1)] rfl (by simp [upT, up, upL, push_cast, Cell.row, hDD]) (by simp [upH, upR, upL, up, push_cast, Cell.row, hDD]) (by simp [namesOk, push_cast]) (by simp [olds])
        · rintro i ⟨hi1, hi2, hin⟩
          refine Nav.imp ?_
          refine awp_region cx [] fun K hK => ?_
          simp [push_cast]
          repeat (refine And.intro (by clear hK; intros; first | omega | (simp_all; done) | (simp_all <;> omega)) ?_)
          refine hK _ ?_; clear hK K; refine Nav.imp ?_
          by_cases hil : i ≤ D1
          · have k1 := wrap_i64 (n := i + 1) (by omega) (by omega)
            refine awp_cond (b := true) (by simp [push_cast, hil]) (fun hb => ?_) (fun hb => ?_) <;> (refine Nav.imp ?_)
            · refine awp_region cx [] fun K hK => ?_
              simp [push_cast, n1]
              repeat (refine And.intro (by clear hK; intros; first | omega | (simp_all; done) | (simp_all <;> omega)) ?_)
              refine hK _ ?_; clear hK K; refine Nav.imp ?_
              refine awp_loop (β := Nat) (fun j => ⟨56, [(2, .ptr 0 0 0), (3, .ptr 1 0 0), (5, .d (.int .i64 D1)), (6, .d (.int .i64 i)), (36, .d (.agg [.int .i64 i, .int .i64 (-D1), .int .i64 i, .int .i64 D1, .int .i64 (-D1), .int .i64 i, .int .i64 D1, .int .i64 i])), (37, .d (.int .i64 j))], [(0, some ⟨24, 1, [(regRow R).map .d]⟩), (1, some ⟨33, 2, [(Cell.row ⟨px, py⟩).map .d]⟩)], 2⟩) (fun j => j ≤ 4 ∧ (0 < j → con ⟨px + i, py - D1⟩ = true) ∧ (1 < j → con ⟨px + i, py + D1⟩ = true) ∧ (2 < j → con ⟨px - D1, py + i⟩ = true) ∧ (3 < j → con ⟨px + D1, py + i⟩ = true)) (fun j => 4 - j) 0 ?_ ⟨by omega, fun h => by omega, fun h => by omega, fun h => by omega, fun h => by omega⟩ ?_
              · refine weak_of [(0, some 0), (1, some 1)] rfl (by simp [upT, up, upL, push_cast, Cell.row]) (by simp [upH, upR, upL, up, push_cast, Cell.row]) (by simp [namesOk, push_cast]) (by simp [olds])
              · rintro j ⟨hj, g0, g1, g2, g3⟩
                refine Nav.imp ?_
                refine awp_region cx [] fun K hK => ?_
                simp [push_cast]
                repeat (refine And.intro (by clear hK; intros; first | omega | (simp_all; done) | (simp_all <;> omega)) ?_)
                refine hK _ ?_; clear hK K; refine Nav.imp ?_
                by_cases hjl : j < 4
                · have hjc : (j : Int) < 4 := by omega
                  refine awp_cond (b := true) (by simp [push_cast, hjl, hjc]) (fun hb => ?_) (fun hb => ?_) <;> (refine Nav.imp ?_)
                  · rcases (by omega : j = 0 ∨ j = 1 ∨ j = 2 ∨ j = 3) with rfl | rfl | rfl | rfl
                    · have w1 := wrap_i64 (n := px + i) (by omega) (by omega)
                      have w2 := wrap_i64 (n := py + (-D1)) (by omega) (by omega)
                      have c2 := hcon ⟨px + i, py + (-D1)⟩
                      have hb2 := hbd i (-D1) (by omega) (by omega) (by omega) (by omega)
                      have hu : (⟨px + i, py + (-D1)⟩ : Cell) = ⟨px + i, py - D1⟩ := by first | rfl | (rw [Cell.mk.injEq]; exact ⟨by omega, by omega⟩)
                      generalize hv : con ⟨px + i, py + (-D1)⟩ = v at *
                      refine awp_region cx [] fun K hK => ?_
                      simp [push_cast, Cell.row]
                      repeat (refine And.intro (by clear hK; intros; first | omega | (simp_all; done) | (simp_all <;> omega)) ?_)
                      refine hK _ ?_; clear hK K; refine Nav.imp ?_
                      refine awp_region cx [(12, .p (.bool v))] fun K hK => ?_
                      simp [push_cast, c2, w1, w2, Cell.row]
                      repeat (refine And.intro (by clear hK; intros; first | omega | (simp_all; done) | (simp_all <;> omega)) ?_)
                      refine hK _ ?_; clear hK K; refine Nav.imp ?_
                      cases v with
                      | true =>
                        rw [hu] at hv
                        refine awp_cond (b := false) (by simp [push_cast]) (fun hb => ?_) (fun hb => ?_) <;> (refine Nav.imp ?_)
                        · simp at hb
                        · refine awp_region cx [] fun K hK => ?_
                          simp [push_cast, z3, z4]
                          repeat (refine And.intro (by clear hK; intros; first | omega | (simp_all; done) | (simp_all <;> omega)) ?_)
                          refine hK _ ?_; clear hK K; refine Nav.imp ?_
                          refine ⟨0 + 1, ⟨by omega, fun _ => ?_, fun h => ?_, fun h => ?_, fun h => ?_⟩, by omega, ?_⟩
                          · first | exact hv | exact g0 (by omega)
                          · first | omega | exact hv | exact g1 (by omega)
                          · first | omega | exact hv | exact g2 (by omega)
                          · first | omega | exact hv | exact g3 (by omega)
                          · refine weak_of [(0, some 0), (1, some 1)] rfl (by simp [upT, up, upL, push_cast, Cell.row, z3, z4]) (by simp [upH, upR, upL, up, push_cast, Cell.row, z3, z4]) (by simp [namesOk, push_cast]) (by simp [olds])
                      | false =>
                        have hWe := hofd (hb2 rfl)
                        subst hWe
                        refine awp_cond (b := true) (by simp [push_cast]) (fun hb => ?_) (fun hb => ?_) <;> (refine Nav.imp ?_)
                        · refine awp_region cx [] fun K hK => ?_
                          simp [push_cast]
                          repeat (refine And.intro (by clear hK; intros; first | omega | (simp_all; done) | (simp_all <;> omega)) ?_)
                          refine hK _ ?_; clear hK K; refine Nav.imp ?_
                          simp [push_cast, hDD]
                        · simp at hb
                    · have w1 := wrap_i64 (n := px + i) (by omega) (by omega)
                      have w2 := wrap_i64 (n := py + D1) (by omega) (by omega)
                      have c2 := hcon ⟨px + i, py + D1⟩
                      have hb2 := hbd i D1 (by omega) (by omega) (by omega) (by omega)
                      have hu : (⟨px + i, py + D1⟩ : Cell) = ⟨px + i, py + D1⟩ := by first | rfl | (rw [Cell.mk.injEq]; exact ⟨by omega, by omega⟩)
                      generalize hv : con ⟨px + i, py + D1⟩ = v at *
                      refine awp_region cx [] fun K hK => ?_
                      simp [push_cast, Cell.row]
                      repeat (refine And.intro (by clear hK; intros; first | omega | (simp_all; done) | (simp_all <;> omega)) ?_)
                      refine hK _ ?_; clear hK K; refine Nav.imp ?_
                      refine awp_region cx [(12, .p (.bool v))] fun K hK => ?_
                      simp [push_cast, c2, w1, w2, Cell.row]
                      repeat (refine And.intro (by clear hK; intros; first | omega | (simp_all; done) | (simp_all <;> omega)) ?_)
                      refine hK _ ?_; clear hK K; refine Nav.imp ?_
                      cases v with
                      | true =>
                        rw [hu] at hv
                        refine awp_cond (b := false) (by simp [push_cast]) (fun hb => ?_) (fun hb => ?_) <;> (refine Nav.imp ?_)
                        · simp at hb
                        · refine awp_region cx [] fun K hK => ?_
                          simp [push_cast, z3, z4]
                          repeat (refine And.intro (by clear hK; intros; first | omega | (simp_all; done) | (simp_all <;> omega)) ?_)
                          refine hK _ ?_; clear hK K; refine Nav.imp ?_
                          refine ⟨1 + 1, ⟨by omega, fun _ => ?_, fun h => ?_, fun h => ?_, fun h => ?_⟩, by omega, ?_⟩
                          · first | exact hv | exact g0 (by omega)
                          · first | omega | exact hv | exact g1 (by omega)
                          · first | omega | exact hv | exact g2 (by omega)
                          · first | omega | exact hv | exact g3 (by omega)
                          · refine weak_of [(0, some 0), (1, some 1)] rfl (by simp [upT, up, upL, push_cast, Cell.row, z3, z4]) (by simp [upH, upR, upL, up, push_cast, Cell.row, z3, z4]) (by simp [namesOk, push_cast]) (by simp [olds])
                      | false =>
                        have hWe := hofd (hb2 rfl)
                        subst hWe
                        refine awp_cond (b := true) (by simp [push_cast]) (fun hb => ?_) (fun hb => ?_) <;> (refine Nav.imp ?_)
                        · refine awp_region cx [] fun K hK => ?_
                          simp [push_cast]
                          repeat (refine And.intro (by clear hK; intros; first | omega | (simp_all; done) | (simp_all <;> omega)) ?_)
                          refine hK _ ?_; clear hK K; refine Nav.imp ?_
                          simp [push_cast, hDD]
                        · simp at hb
                    · have w1 := wrap_i64 (n := px + (-D1)) (by omega) (by omega)
                      have w2 := wrap_i64 (n := py + i) (by omega) (by omega)
                      have c2 := hcon ⟨px + (-D1), py + i⟩
                      have hb2 := hbd (-D1) i (by omega) (by omega) (by omega) (by omega)
                      have hu : (⟨px + (-D1), py + i⟩ : Cell) = ⟨px - D1, py + i⟩ := by first | rfl | (rw [Cell.mk.injEq]; exact ⟨by omega, by omega⟩)
                      generalize hv : con ⟨px + (-D1), py + i⟩ = v at *
                      refine awp_region cx [] fun K hK => ?_
                      simp [push_cast, Cell.row]
                      repeat (refine And.intro (by clear hK; intros; first | omega | (simp_all; done) | (simp_all <;> omega)) ?_)
                      refine hK _ ?_; clear hK K; refine Nav.imp ?_
                      refine awp_region cx [(12, .p (.bool v))] fun K hK => ?_
                      simp [push_cast, c2, w1, w2, Cell.row]
                      repeat (refine And.intro (by clear hK; intros; first | omega | (simp_all; done) | (simp_all <;> omega)) ?_)
                      refine hK _ ?_; clear hK K; refine Nav.imp ?_
                      cases v with
                      | true =>
                        rw [hu] at hv
                        refine awp_cond (b := false) (by simp [push_cast]) (fun hb => ?_) (fun hb => ?_) <;> (refine Nav.imp ?_)
                        · simp at hb
                        · refine awp_region cx [] fun K hK => ?_
                          simp [push_cast, z3, z4]
                          repeat (refine And.intro (by clear hK; intros; first | omega | (simp_all; done) | (simp_all <;> omega)) ?_)
                          refine hK _ ?_; clear hK K; refine Nav.imp ?_
                          refine ⟨2 + 1, ⟨by omega, fun _ => ?_, fun h => ?_, fun h => ?_, fun h => ?_⟩, by omega, ?_⟩
                          · first | exact hv | exact g0 (by omega)
                          · first | omega | exact hv | exact g1 (by omega)
                          · first | omega | exact hv | exact g2 (by omega)
                          · first | omega | exact hv | exact g3 (by omega)
                          · refine weak_of [(0, some 0), (1, some 1)] rfl (by simp [upT, up, upL, push_cast, Cell.row, z3, z4]) (by simp [upH, upR, upL, up, push_cast, Cell.row, z3, z4]) (by simp [namesOk, push_cast]) (by simp [olds])
                      | false =>
                        have hWe := hofd (hb2 rfl)
                        subst hWe
                        refine awp_cond (b := true) (by simp [push_cast]) (fun hb => ?_) (fun hb => ?_) <;> (refine Nav.imp ?_)
                        · refine awp_region cx [] fun K hK => ?_
                          simp [push_cast]
                          repeat (refine And.intro (by clear hK; intros; first | omega | (simp_all; done) | (simp_all <;> omega)) ?_)
                          refine hK _ ?_; clear hK K; refine Nav.imp ?_
                          simp [push_cast, hDD]
                        · simp at hb
                    · have w1 := wrap_i64 (n := px + D1) (by omega) (by omega)
                      have w2 := wrap_i64 (n := py + i) (by omega) (by omega)
                      have c2 := hcon ⟨px + D1, py + i⟩
                      have hb2 := hbd D1 i (by omega) (by omega) (by omega) (by omega)
                      have hu : (⟨px + D1, py + i⟩ : Cell) = ⟨px + D1, py + i⟩ := by first | rfl | (rw [Cell.mk.injEq]; exact ⟨by omega, by omega⟩)
                      generalize hv : con ⟨px + D1, py + i⟩ = v at *
                      refine awp_region cx [] fun K hK => ?_
                      simp [push_cast, Cell.row]
                      repeat (refine And.intro (by clear hK; intros; first | omega | (simp_all; done) | (simp_all <;> omega)) ?_)
                      refine hK _ ?_; clear hK K; refine Nav.imp ?_
                      refine awp_region cx [(12, .p (.bool v))] fun K hK => ?_
                      simp [push_cast, c2, w1, w2, Cell.row]
                      repeat (refine And.intro (by clear hK; intros; first | omega | (simp_all; done) | (simp_all <;> omega)) ?_)
                      refine hK _ ?_; clear hK K; refine Nav.imp ?_
                      cases v with
                      | true =>
                        rw [hu] at hv
                        refine awp_cond (b := false) (by simp [push_cast]) (fun hb => ?_) (fun hb => ?_) <;> (refine Nav.imp ?_)
                        · simp at hb
                        · refine awp_region cx [] fun K hK => ?_
                          simp [push_cast, z3, z4]
                          repeat (refine And.intro (by clear hK; intros; first | omega | (simp_all; done) | (simp_all <;> omega)) ?_)
                          refine hK _ ?_; clear hK K; refine Nav.imp ?_
                          refine ⟨3 + 1, ⟨by omega, fun _ => ?_, fun h => ?_, fun h => ?_, fun h => ?_⟩, by omega, ?_⟩
                          · first | exact hv | exact g0 (by omega)
                          · first | omega | exact hv | exact g1 (by omega)
                          · first | omega | exact hv | exact g2 (by omega)
                          · first | omega | exact hv | exact g3 (by omega)
                          · refine weak_of [(0, some 0), (1, some 1)] rfl (by simp [upT, up, upL, push_cast, Cell.row, z3, z4]) (by simp [upH, upR, upL, up, push_cast, Cell.row, z3, z4]) (by simp [namesOk, push_cast]) (by simp [olds])
                      | false =>
                        have hWe := hofd (hb2 rfl)
                        subst hWe
                        refine awp_cond (b := true) (by simp [push_cast]) (fun hb => ?_) (fun hb => ?_) <;> (refine Nav.imp ?_)
                        · refine awp_region cx [] fun K hK => ?_
                          simp [push_cast]
                          repeat (refine And.intro (by clear hK; intros; first | omega | (simp_all; done) | (simp_all <;> omega)) ?_)
                          refine hK _ ?_; clear hK K; refine Nav.imp ?_
                          simp [push_cast, hDD]
                        · simp at hb
                  · simp at hb
                · have hje : j = 4 := by omega
                  subst hje
                  refine awp_cond (b := false) (by simp [push_cast]) (fun hb => ?_) (fun hb => ?_) <;> (refine Nav.imp ?_)
                  · simp at hb
                  · refine awp_region cx [] fun K hK => ?_
                    simp [push_cast, k1]
                    repeat (refine And.intro (by clear hK; intros; first | omega | (simp_all; done) | (simp_all <;> omega)) ?_)
                    refine hK _ ?_; clear hK K; refine Nav.imp ?_
                    refine ⟨i + 1, ⟨by omega, by omega, fun x h1 h2 => ?_⟩, by omega, ?_⟩
                    · by_cases e : x = i
                      · rw [e]; exact ⟨g0 (by omega), g1 (by omega), g2 (by omega), g3 (by omega)⟩
                      · exact hin x h1 (by omega)
                    · refine weak_of [(0, some 0), (1, some 1)] rfl (by simp [upT, up, upL, push_cast, Cell.row]) (by simp [upH, upR, upL, up, push_cast, Cell.row]) (by simp [namesOk, push_cast]) (by simp [olds])
            · simp at hb
          · have hnew := hst fun x h1 h2 => hin x h1 (by omega)
            refine awp_cond (b := false) (by simp [push_cast, hil]) (fun hb => ?_) (fun hb => ?_) <;> (refine Nav.imp ?_)
            · simp at hb
            · refine awp_region cx [] fun K hK => ?_
              simp [push_cast, n2]
              repeat (refine And.intro (by clear hK; intros; first | omega | (simp_all; done) | (simp_all <;> omega)) ?_)
              refine hK _ ?_; clear hK K; refine Nav.imp ?_
              refine ⟨d + 1, ⟨by omega, fun j hj => ?_⟩, by omega, ?_⟩
              · by_cases e : j = d + 1
                · rw [e]; exact hnew
                · exact hall j (by omega)
              · refine weak_of [(0, some 0), (1, some 1)] rfl (by simp [upT, up, upL, push_cast, Cell.row, hDD]) (by simp [upH, upR, upL, up, push_cast, Cell.row, hDD]) (by simp [namesOk, push_cast]) (by simp [olds])
end Go.Proofs.Ytagakfaiimaifaa

set_option linter.unusedVariables false
set_option linter.unusedSimpArgs false
set_option maxRecDepth 100000
namespace Go.Proofs.Ytagakfaiimaifaa
open Go.Abs

/-! What the laws are called with. -/
theorem cell_of {f : Nat} {ds : List D} (h : hasT Try.prog (f + 2) 33 ds) : ∃ c : Cell, ds = c.row := by
  obtain ⟨hl, hp⟩ := hasT_struct (n := 2) (ts := [3, 3]) Try.underlying33 (by kernel_rfl) rfl (by kernel_rfl) h
  obtain ⟨d0, r0, e0, h0, hp0⟩ := parts_one (by kernel_rfl) hp (by simp_all <;> omega)
  subst e0
  obtain ⟨d1, r1, e1, h1, hp1⟩ := parts_one (by kernel_rfl) hp0 (by simp_all <;> omega)
  subst e1
  simp only [parts] at hp1
  subst hp1
  obtain ⟨n0, e0, w0⟩ := hasT_int Try.underlying3 h0
  cases e0
  obtain ⟨n1, e1, w1⟩ := hasT_int Try.underlying3 h1
  cases e1
  exact ⟨⟨n0, n1⟩, rfl⟩
theorem run_of {f : Nat} {ds : List D} (h : hasT Try.prog (f + 2) 56 ds) : ∃ c : Run, ds = c.row := by
  obtain ⟨hl, hp⟩ := hasT_struct (n := 2) (ts := [3, 3]) Try.underlying56 (by kernel_rfl) rfl (by kernel_rfl) h
  obtain ⟨d0, r0, e0, h0, hp0⟩ := parts_one (by kernel_rfl) hp (by simp_all <;> omega)
  subst e0
  obtain ⟨d1, r1, e1, h1, hp1⟩ := parts_one (by kernel_rfl) hp0 (by simp_all <;> omega)
  subst e1
  simp only [parts] at hp1
  subst hp1
  obtain ⟨n0, e0, w0⟩ := hasT_int Try.underlying3 h0
  cases e0
  obtain ⟨n1, e1, w1⟩ := hasT_int Try.underlying3 h1
  cases e1
  exact ⟨⟨n0, n1⟩, rfl⟩
theorem runs_of {f : Nat} {d : D} (h : hasT Try.prog (f + 3) 40 [d]) : ∃ l : List Run, d = encRuns l := by
  obtain ⟨rows, he, _, hr⟩ := hasT_slice Try.underlying40 h
  cases he
  obtain ⟨l, rfl⟩ := rows_of (row := Run.row) fun r hr' => run_of (hr r hr')
  exact ⟨l, rfl⟩
theorem regrows_of {f : Nat} {d : D} (h : hasT Try.prog (f + 5) 22 [d]) : ∃ l : List Row, d = encRows l := by
  obtain ⟨rows, he, _, hr⟩ := hasT_slice Try.underlying22 h
  cases he
  obtain ⟨l, rfl⟩ := rows_of (row := Row.row) fun r hr' => by
    obtain ⟨hl, hp⟩ := hasT_struct (n := 2) (ts := [3, 40]) Try.underlying42 (by kernel_rfl) rfl (by kernel_rfl) (hr r hr')
    obtain ⟨d0, r0, e0, h0, hp0⟩ := parts_one (by kernel_rfl) hp (by simp_all <;> omega)
    subst e0
    obtain ⟨d1, r1, e1, h1, hp1⟩ := parts_one (by kernel_rfl) hp0 (by simp_all <;> omega)
    subst e1
    simp only [parts] at hp1
    subst hp1
    obtain ⟨n0, e0, w0⟩ := hasT_int Try.underlying3 h0
    cases e0
    obtain ⟨c, rfl⟩ := runs_of h1
    exact ⟨⟨n0, c⟩, rfl⟩
  exact ⟨l, rfl⟩
theorem region_of {f : Nat} {ds : List D} (h : hasT Try.prog (f + 6) 24 ds) : ∃ l : List Row, ds = regRow l := by
  obtain ⟨hl, hp⟩ := hasT_struct (n := 1) (ts := [22]) Try.underlying24 (by kernel_rfl) rfl (by kernel_rfl) h
  obtain ⟨d0, r0, e0, h0, hp0⟩ := parts_one (by kernel_rfl) hp (by simp_all <;> omega)
  subst e0
  simp only [parts] at hp0
  subst hp0
  obtain ⟨c, rfl⟩ := regrows_of h0
  exact ⟨c, rfl⟩

theorem arg_region {x : D} (h : hasV Try.prog 24 x) : ∃ R : List Row, x = .agg (regRow R) := by
  simp only [hasV, Try.underlying24] at h
  obtain ⟨cs, rfl, h⟩ := h
  obtain ⟨s, rfl⟩ := region_of (f := 24) h
  exact ⟨s, rfl⟩
theorem arg_cell {x : D} (h : hasV Try.prog 33 x) : ∃ c : Cell, x = .agg c.row := by
  simp only [hasV, Try.underlying33] at h
  obtain ⟨cs, rfl, h⟩ := h
  obtain ⟨s, rfl⟩ := cell_of (f := 28) h
  exact ⟨s, rfl⟩
theorem own : ownKnob Try.prog.godebug = none := by kernel_rfl
theorem laidOut : laidOutB Try.prog = true := by kernel_rfl
def zeroCell : Value := .agg #[.int .i64 0, .int .i64 0]
def zeroReg : Value := .agg #[.slice none 0 0]
end Go.Proofs.Ytagakfaiimaifaa

set_option linter.unusedVariables false
set_option linter.unusedSimpArgs false
set_option maxRecDepth 100000
namespace Go.Proofs.Ytagakfaiimaifaa
open Go.Abs Go.ChangeShapes Go.WideShapes Go.ChangeAt Go.RowKit

/-! Compact regions. -/
def boxB (R : List Row) : Bool := !some? R || (decide (highX R - lowX R < 30) && decide (lstY R - fstY R < 30))
def compactB (R : List Row) : Bool := decide (R.length ≤ 30) && R.all (fun w => decide (w.runs.length ≤ 30)) && boxB R
theorem compact_facts {R : List Row} (h : compactB R = true) : smallR R ∧ boxSm R ∧ R.length ≤ 30 ∧ ∀ w ∈ R, w.runs.length ≤ 30 := by
  simp only [compactB, boxB, Bool.and_eq_true, Bool.or_eq_true, decide_eq_true_eq, List.all_eq_true, Bool.not_eq_true'] at h
  obtain ⟨⟨h1, h2⟩, h3⟩ := h
  refine ⟨⟨by omega, fun w hw => by have := h2 w hw; omega⟩, fun hs => ?_, h1, h2⟩
  rcases h3 with h3 | h3
  · rw [h3] at hs; cases hs
  · exact h3
def rectR (x0 x1 y0 : Int) (n : Nat) : List Row := (List.range n).map fun i : Nat => ⟨y0 + i, [⟨x0, x1⟩]⟩
theorem rect_mem {x0 x1 y0 : Int} {n : Nat} {c : Cell} : c ∈ regCells (rectR x0 x1 y0 n) ↔ (x0 ≤ c.x ∧ c.x < x1) ∧ y0 ≤ c.y ∧ c.y < y0 + n := by
  rw [mem_regCells]
  simp only [rectR, List.mem_map, List.mem_range]
  constructor
  · rintro ⟨w, ⟨i, hi, rfl⟩, hy, r, hr, h1, h2⟩
    simp at hr hy
    subst hr
    exact ⟨⟨h1, h2⟩, by omega, by omega⟩
  · rintro ⟨⟨h1, h2⟩, h3, h4⟩
    exact ⟨⟨y0 + ((c.y - y0).toNat : Nat), [⟨x0, x1⟩]⟩, ⟨(c.y - y0).toNat, by omega, rfl⟩, by simp only; omega, ⟨x0, x1⟩, by simp, h1, h2⟩
theorem rect_valid {x0 x1 y0 : Int} {n : Nat} (h1 : -4096 ≤ x0) (h2 : x0 < x1) (h3 : x1 ≤ 4096) (h4 : -4096 ≤ y0) (h5 : y0 + n ≤ 4096) : validR (rectR x0 x1 y0 n) = true := by
  refine validR_pw.2 ⟨fun w hw => ?_, ?_⟩
  · simp only [rectR, List.mem_map, List.mem_range] at hw
    obtain ⟨i, hi, rfl⟩ := hw
    refine ⟨by simp only; omega, fine_apart.2 ⟨by simp, ⟨by simpa using h2, by simp⟩, ?_⟩⟩
    intro r hr
    simp at hr
    subst hr
    exact ⟨h1, h3⟩
  · simp only [rectR, List.pairwise_map]
    exact List.pairwise_lt_range.imp fun {a b} h => by omega
theorem rect_len (x0 x1 y0 : Int) (n : Nat) : (regCells (rectR x0 x1 y0 n)).length ≤ (x1 - x0).toNat * n := by
  have h : ∀ w ∈ rectR x0 x1 y0 n, (regCells [w]).length ≤ (x1 - x0).toNat := fun w hw => by
    simp only [rectR, List.mem_map, List.mem_range] at hw
    obtain ⟨i, hi, rfl⟩ := hw
    simp [regCells, rowCells, runCells_len]
  have key : ∀ l : List Row, (∀ w ∈ l, (regCells [w]).length ≤ (x1 - x0).toNat) → (regCells l).length ≤ (x1 - x0).toNat * l.length := by
    intro l
    induction l with
    | nil => intro _; simp [regCells]
    | cons w l ih =>
      intro hl
      have h1 := ih fun v hv => hl v (by simp [hv])
      have h2 := hl w (by simp)
      have e : regCells (w :: l) = regCells [w] ++ regCells l := by simp [regCells]
      rw [e, List.length_append, List.length_cons, Nat.mul_add, Nat.mul_one]
      omega
  have := key _ h
  rwa [show (rectR x0 x1 y0 n).length = n by simp [rectR]] at this
theorem box_mem {R : List Row} (hv : validR R = true) {c : Cell} (hc : c ∈ regCells R) : lowX R ≤ c.x ∧ c.x ≤ highX R ∧ fstY R ≤ c.y ∧ c.y ≤ lstY R := by
  obtain ⟨w, hw, hy, r, hr, h1, h2⟩ := mem_regCells.1 hc
  have q1 := rows_ends hv hw
  have q2 := (row_ends0 (row_fine hv hw).2).1 r hr
  have q3 : lowX R ≤ fstA w := (foldMin fstA R 4096).2.1 w hw
  have q4 : lstB w - 1 ≤ highX R := (foldMax (fun w => lstB w - 1) R (-4096)).2.1 w hw
  omega
theorem compact_cells {R : List Row} (h : boxSm R) : (cellsOf R).length ≤ 900 := by
  unfold cellsOf
  split
  · rename_i hv
    by_cases h0 : 0 < R.length
    · have hb := box_ends hv h0
      have hbs := h (by simp [some?, hv, h0])
      have hle := cells_le hv (rect_valid (x0 := lowX R) (x1 := highX R + 1) (y0 := fstY R) (n := (lstY R - fstY R + 1).toNat) (by omega) (by omega) (by omega) (by omega) (by omega)) fun c hc => by
        have := box_mem hv hc
        exact rect_mem.2 ⟨⟨by omega, by omega⟩, by omega, by omega⟩
      have hl := rect_len (lowX R) (highX R + 1) (fstY R) (lstY R - fstY R + 1).toNat
      have h1 : (highX R + 1 - lowX R).toNat ≤ 30 := by omega
      have h2 : (lstY R - fstY R + 1).toNat ≤ 30 := by omega
      have := Nat.mul_le_mul h1 h2
      omega
    · have : R = [] := List.eq_nil_of_length_eq_zero (by omega)
      subst this
      simp [regCells]
  · simp

set_option maxHeartbeats 2000000 in
theorem compact_ok (R : List Row) : PC Try.prog 9 [.agg (regRow R)] (.p (.bool (compactB R))) := by
  refine pc_of_awp cx (fn := Try.f9) (c := _) Try.func9 rfl rfl (Nat.le_of_ble_eq_true rfl) ?_
  rw [Try.ntmps9]; refine Nav.imp ?_
  refine awp_region cx [] fun K hK => ?_
  simp [push_cast]
  repeat (refine And.intro (by clear hK; intros; first | omega | (simp_all; done) | (simp_all <;> omega)) ?_)
  refine hK _ ?_; clear hK K; refine Nav.imp ?_
  refine awp_region cx [] fun K hK => ?_
  simp [push_cast]
  repeat (refine And.intro (by clear hK; intros; first | omega | (simp_all; done) | (simp_all <;> omega)) ?_)
  refine hK _ ?_; clear hK K; refine Nav.imp ?_
  refine awp_cond (b := decide (30 < (R.length : Int))) (by simp [push_cast]) (fun hb => ?_) (fun hb => ?_) <;> (refine Nav.imp ?_)
  · have hb : ¬ R.length ≤ 30 := by simp at hb; omega
    refine awp_region cx [] fun K hK => ?_
    simp [push_cast]
    repeat (refine And.intro (by clear hK; intros; first | omega | (simp_all; done) | (simp_all <;> omega)) ?_)
    refine hK _ ?_; clear hK K; refine Nav.imp ?_
    simp [push_cast, compactB, hb]
  · have h40 : R.length ≤ 30 := by simp at hb; omega
    refine awp_region cx [] fun K hK => ?_
    simp [push_cast]
    repeat (refine And.intro (by clear hK; intros; first | omega | (simp_all; done) | (simp_all <;> omega)) ?_)
    refine hK _ ?_; clear hK K; refine Nav.imp ?_
    refine awp_loop (β := Nat) (fun k => ⟨50, [(1, .ptr 0 0 0), (3, .d (.int .i64 k))], [(0, some ⟨24, 1, [(regRow R).map .d]⟩)], 1⟩) (fun k => k ≤ R.length ∧ ∀ w ∈ R.take k, w.runs.length ≤ 30) (fun k => R.length - k) 0 ?_ ⟨Nat.zero_le _, by simp⟩ ?_
    · refine weak_of [(0, some 0)] rfl (by simp [upT, up, upL, push_cast]) (by simp [upH, upR, upL, up, push_cast]) (by simp [namesOk, push_cast]) (by simp [olds])
    · rintro k ⟨hk, hall⟩
      refine Nav.imp ?_
      refine awp_region cx [] fun K hK => ?_
      simp [push_cast]
      repeat (refine And.intro (by clear hK; intros; first | omega | (simp_all; done) | (simp_all <;> omega)) ?_)
      refine hK _ ?_; clear hK K; refine Nav.imp ?_
      refine awp_cond (b := decide ((k : Int) < R.length)) (by simp [push_cast]) (fun hb => ?_) (fun hb => ?_) <;> (refine Nav.imp ?_)
      · have hlt : k < R.length := by simpa using hb
        obtain ⟨w, hw⟩ := getq hlt
        have e0 := wrap_i64 (n := (k : Int) + 1) (by omega) (by omega)
        have hwm := List.mem_of_getElem? hw
        obtain ⟨y, ru⟩ := w
        refine awp_region cx [] fun K hK => ?_
        simp [push_cast, hw, Row.row]
        repeat (refine And.intro (by clear hK; intros; first | omega | (simp_all; done) | (simp_all <;> omega)) ?_)
        refine hK _ ?_; clear hK K; refine Nav.imp ?_
        refine awp_cond (b := decide (30 < (ru.length : Int))) (by simp [push_cast]) (fun hb => ?_) (fun hb => ?_) <;> (refine Nav.imp ?_)
        · have hb : 30 < ru.length := by simp at hb; omega
          have hno : compactB R = false := by
            rw [Bool.eq_false_iff]
            intro h
            have := (compact_facts h).2.2.2 _ hwm
            simp only at this
            omega
          refine awp_region cx [] fun K hK => ?_
          simp [push_cast]
          repeat (refine And.intro (by clear hK; intros; first | omega | (simp_all; done) | (simp_all <;> omega)) ?_)
          refine hK _ ?_; clear hK K; refine Nav.imp ?_
          simp [push_cast, hno]
        · have hb : ru.length ≤ 30 := by simp at hb; omega
          refine awp_region cx [] fun K hK => ?_
          simp [push_cast, e0]
          repeat (refine And.intro (by clear hK; intros; first | omega | (simp_all; done) | (simp_all <;> omega)) ?_)
          refine hK _ ?_; clear hK K; refine Nav.imp ?_
          refine ⟨k + 1, ⟨hlt, fun v hv => ?_⟩, by omega, ?_⟩
          · rw [take_get hw] at hv
            rcases List.mem_append.1 hv with hv | hv
            · exact hall v hv
            · simp at hv; subst hv; exact hb
          · refine weak_of [(0, some 0)] rfl (by simp [upT, up, upL, push_cast]) (by simp [upH, upR, upL, up, push_cast]) (by simp [namesOk, push_cast]) (by simp [olds])
      · have hke : k = R.length := by simp at hb; omega
        subst hke
        rw [List.take_length] at hall
        have hR : smallR R := ⟨by omega, fun w hw => by have := hall w hw; omega⟩
        have c1 := rbox_ok R hR
        have hc : compactB R = boxB R := by
          unfold compactB
          rw [decide_eq_true h40, show R.all (fun w => decide (w.runs.length ≤ 30)) = true from List.all_eq_true.2 fun w hw => by simpa using hall w hw]
          rfl
        by_cases hs : some? R = true
        · have hv : validR R = true := by simp [some?] at hs; exact hs.1
          have h0 : 0 < R.length := by simp [some?] at hs; exact hs.2
          have hbe := box_ends hv h0
          have hbxx : boxD R = .tup [.agg (Cell.row ⟨lowX R, fstY R⟩), .agg (Cell.row ⟨highX R, lstY R⟩), .bool true] := by simp [boxD, boxLo, boxHi, hs]
          rw [hbxx] at c1
          have hbb : boxB R = (decide (highX R - lowX R < 30) && decide (lstY R - fstY R < 30)) := by unfold boxB; rw [hs]; rfl
          rw [hc, hbb]
          clear hbxx hbb hc
          generalize lowX R = lx at *
          generalize highX R = hx at *
          generalize fstY R = fy at *
          generalize lstY R = ly at *
          have e1 := wrap_i64 (n := hx - lx) (by omega) (by omega)
          have e2 := wrap_i64 (n := ly - fy) (by omega) (by omega)
          refine awp_region cx [(1, .p (.tup [.agg (Cell.row ⟨lx, fy⟩), .agg (Cell.row ⟨hx, ly⟩), .bool true]))] fun K hK => ?_
          simp [push_cast, c1, Cell.row]
          repeat (refine And.intro (by clear hK; intros; first | omega | (simp_all; done) | (simp_all <;> omega)) ?_)
          refine hK _ ?_; clear hK K; refine Nav.imp ?_
          by_cases q : hx - lx < 30
          · refine awp_region cx [] fun K hK => ?_
            simp [push_cast, e1, e2, q, Cell.row]
            repeat (refine And.intro (by clear hK; intros; first | omega | (simp_all; done) | (simp_all <;> omega)) ?_)
            refine hK _ ?_; clear hK K; refine Nav.imp ?_
            simp [push_cast, q]
          · refine awp_region cx [] fun K hK => ?_
            simp [push_cast, e1, e2, q, Cell.row]
            repeat (refine And.intro (by clear hK; intros; first | omega | (simp_all; done) | (simp_all <;> omega)) ?_)
            refine hK _ ?_; clear hK K; refine Nav.imp ?_
            simp [push_cast, q]
        · have hs' : some? R = false := by simpa using hs
          have hbxx : boxD R = .tup [.agg (Cell.row ⟨0, 0⟩), .agg (Cell.row ⟨0, 0⟩), .bool false] := by simp [boxD, boxLo, boxHi, hs']
          have hbb : boxB R = true := by unfold boxB; rw [hs']; rfl
          rw [hbxx] at c1
          rw [hc, hbb]
          refine awp_region cx [(1, .p (.tup [.agg (Cell.row ⟨0, 0⟩), .agg (Cell.row ⟨0, 0⟩), .bool false]))] fun K hK => ?_
          simp [push_cast, c1, Cell.row]
          repeat (refine And.intro (by clear hK; intros; first | omega | (simp_all; done) | (simp_all <;> omega)) ?_)
          refine hK _ ?_; clear hK K; refine Nav.imp ?_
          refine awp_region cx [] fun K hK => ?_
          simp [push_cast, Cell.row]
          repeat (refine And.intro (by clear hK; intros; first | omega | (simp_all; done) | (simp_all <;> omega)) ?_)
          refine hK _ ?_; clear hK K; refine Nav.imp ?_
          simp [push_cast]
end Go.Proofs.Ytagakfaiimaifaa
