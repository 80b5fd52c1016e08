/-
  Texts of this seat put together: Z2, T5, AbsS, S1, T6, B2, X3, X6.
-/
import Derived.Test.YtknelhiejjdioaaGreatJ6
import Derived.Test.YtknelhiejjdioaaGreatJ4
import Derived.Test.YtknelhiejjdioaaGreatJ5
import Derived.Test.YtknelhiejjdioaaGreatJ3
import Derived.Shelf.SlSortCmp.NoneTotal
import Derived.Lib.QuietBelow
import Derived.Test.YtknelhiejjdioaaGreatChecked
import Derived.Deep.RegionHeld3
import Derived.Deep.DrawnRows
set_option linter.unusedVariables false
set_option linter.unusedSimpArgs false
set_option maxRecDepth 100000
namespace Go.Proofs.YtknelhiejjdioaaGreat
open Go.Abs

def cellI (R : List Row) (k : Nat) : List (Nat × Option Ob) := [(1, some ⟨45, 1, [[.hs 2 0 ((regCells R).take k).length]]⟩), (2, some ⟨49, 2, dr (((regCells R).take k).map Cell.row)⟩)]

set_option maxHeartbeats 4000000 in
theorem cells_own (R : List Row) (hsm : smallR R) (hn : validR R = true → (regCells R).length ≤ 1000000) : PC Tryz.prog 87 [.agg (regRow R)] (.o 49 2 ((cellsOf R).map Cell.row)) := by
  have c1 := valid_ok R hsm
  have hC : cellsOf R = if validR R then regCells R else [] := rfl
  cases hv : validR R with
  | false =>
    rw [hv] at c1 hC
    rw [if_neg (by simp)] at hC
    rw [hC]
    refine pc_of_awm cx (fn := Tryz.f87) (c := _) Tryz.func87 rfl rfl (Nat.le_of_ble_eq_true rfl) fun gM wM => ?_
    rw [Tryz.ntmps87]; (repeat (first | refine awm_seq ?_ | refine awm_block ?_ | refine awm_skip ?_ | refine awm_exit ?_ | refine awm_ret ?_ | refine sm_n ?_ | refine sm_r ?_ | refine sm_x ?_ | refine bm_n ?_ | refine bm_r ?_ | refine bm_x ?_ | refine bm_y rfl ?_))
    refine awm_region cx [] rfl fun K hK => ?_
    simp [push_cast]
    repeat (refine And.intro (by clear hK; intros; first | omega | (simp_all; done) | (simp_all <;> omega)) ?_)
    refine hK _ ?_; clear hK K; (try dsimp only); (repeat (first | refine awm_seq ?_ | refine awm_block ?_ | refine awm_skip ?_ | refine awm_exit ?_ | refine awm_ret ?_ | refine sm_n ?_ | refine sm_r ?_ | refine sm_x ?_ | refine bm_n ?_ | refine bm_r ?_ | refine bm_x ?_ | refine bm_y rfl ?_))
    refine awm_region cx [(1, .p (.bool false))] rfl fun K hK => ?_
    simp [push_cast, c1]
    repeat (refine And.intro (by clear hK; intros; first | omega | (simp_all; done) | (simp_all <;> omega)) ?_)
    refine hK _ ?_; clear hK K; (try dsimp only); (repeat (first | refine awm_seq ?_ | refine awm_block ?_ | refine awm_skip ?_ | refine awm_exit ?_ | refine awm_ret ?_ | refine sm_n ?_ | refine sm_r ?_ | refine sm_x ?_ | refine bm_n ?_ | refine bm_r ?_ | refine bm_x ?_ | refine bm_y rfl ?_))
    refine awm_cond (b := true) (by simp [push_cast]) (fun hb => ?_) (fun hb => ?_) <;> ((repeat (first | refine awm_seq ?_ | refine awm_block ?_ | refine awm_skip ?_ | refine awm_exit ?_ | refine awm_ret ?_ | refine sm_n ?_ | refine sm_r ?_ | refine sm_x ?_ | refine bm_n ?_ | refine bm_r ?_ | refine bm_x ?_ | refine bm_y rfl ?_)))
    · refine awm_region cx [] rfl fun K hK => ?_
      simp [push_cast]
      repeat (refine And.intro (by clear hK; intros; first | omega | (simp_all; done) | (simp_all <;> omega)) ?_)
      refine hK _ ?_; clear hK K; (try dsimp only); (repeat (first | refine awm_seq ?_ | refine awm_block ?_ | refine awm_skip ?_ | refine awm_exit ?_ | refine awm_ret ?_ | refine sm_n ?_ | refine sm_r ?_ | refine sm_x ?_ | refine bm_n ?_ | refine bm_r ?_ | refine bm_x ?_ | refine bm_y rfl ?_))
      simp [push_cast]
    · simp at hb
  | true =>
    have hit := iter_ok R hsm hv
    have hn := hn hv
    have c2 := all_ok R
    rw [hv] at c1 hC
    rw [if_pos rfl] at hC
    rw [hC]
    clear hC
    refine pc_of_awm cx (fn := Tryz.f87) (c := _) Tryz.func87 rfl rfl (Nat.le_of_ble_eq_true rfl) fun gM wM => ?_
    rw [Tryz.ntmps87]; (repeat (first | refine awm_seq ?_ | refine awm_block ?_ | refine awm_skip ?_ | refine awm_exit ?_ | refine awm_ret ?_ | refine sm_n ?_ | refine sm_r ?_ | refine sm_x ?_ | refine bm_n ?_ | refine bm_r ?_ | refine bm_x ?_ | refine bm_y rfl ?_))
    refine awm_region cx [] rfl fun K hK => ?_
    simp [push_cast]
    repeat (refine And.intro (by clear hK; intros; first | omega | (simp_all; done) | (simp_all <;> omega)) ?_)
    refine hK _ ?_; clear hK K; (try dsimp only); (repeat (first | refine awm_seq ?_ | refine awm_block ?_ | refine awm_skip ?_ | refine awm_exit ?_ | refine awm_ret ?_ | refine sm_n ?_ | refine sm_r ?_ | refine sm_x ?_ | refine bm_n ?_ | refine bm_r ?_ | refine bm_x ?_ | refine bm_y rfl ?_))
    refine awm_region cx [(1, .p (.bool true))] rfl fun K hK => ?_
    simp [push_cast, c1]
    repeat (refine And.intro (by clear hK; intros; first | omega | (simp_all; done) | (simp_all <;> omega)) ?_)
    refine hK _ ?_; clear hK K; (try dsimp only); (repeat (first | refine awm_seq ?_ | refine awm_block ?_ | refine awm_skip ?_ | refine awm_exit ?_ | refine awm_ret ?_ | refine sm_n ?_ | refine sm_r ?_ | refine sm_x ?_ | refine bm_n ?_ | refine bm_r ?_ | refine bm_x ?_ | refine bm_y rfl ?_))
    refine awm_cond (b := false) (by simp [push_cast]) (fun hb => ?_) (fun hb => ?_) <;> ((repeat (first | refine awm_seq ?_ | refine awm_block ?_ | refine awm_skip ?_ | refine awm_exit ?_ | refine awm_ret ?_ | refine sm_n ?_ | refine sm_r ?_ | refine sm_x ?_ | refine bm_n ?_ | refine bm_r ?_ | refine bm_x ?_ | refine bm_y rfl ?_)))
    · simp at hb
    · refine awm_region cx [] rfl fun K hK => ?_
      simp [push_cast]
      repeat (refine And.intro (by clear hK; intros; first | omega | (simp_all; done) | (simp_all <;> omega)) ?_)
      refine hK _ ?_; clear hK K; (try dsimp only); (repeat (first | refine awm_seq ?_ | refine awm_block ?_ | refine awm_skip ?_ | refine awm_exit ?_ | refine awm_ret ?_ | refine sm_n ?_ | refine sm_r ?_ | refine sm_x ?_ | refine bm_n ?_ | refine bm_r ?_ | refine bm_x ?_ | refine bm_y rfl ?_))
      refine awm_region cx [(1, .p (.fn (.func 157) [.rp (regRow R)]))] rfl fun K hK => ?_
      simp [push_cast, c2]
      repeat (refine And.intro (by clear hK; intros; first | omega | (simp_all; done) | (simp_all <;> omega)) ?_)
      refine hK _ ?_; clear hK K; (try dsimp only); (repeat (first | refine awm_seq ?_ | refine awm_block ?_ | refine awm_skip ?_ | refine awm_exit ?_ | refine awm_ret ?_ | refine sm_n ?_ | refine sm_r ?_ | refine sm_x ?_ | refine bm_n ?_ | refine bm_r ?_ | refine bm_x ?_ | refine bm_y rfl ?_))
      refine awm_range (caps := [.rp (regRow R)]) (xs := itemsOf R) rfl rfl hit (t := 3) (pn := 16) (idS := 5) (idn := 1) (nx := 3) (by decide) (Nat.le_of_ble_eq_true rfl) rfl (Nat.le_of_ble_eq_true rfl) rfl (Nat.le_of_ble_eq_true rfl) (cellI R) (fun L => ?_) (fun L k x hx => ?_) fun L => ?_
      · show Weak _ ⟨16, [(3, .ptr 1 0 0), (16, .pin 1 L)], cellI R 0, 3⟩
        unfold cellI
        refine weak_of [(1, some 5), (2, none)] rfl (by simp [upT, up, upL, push_cast]) (by simp [upH, upR, upL, up, push_cast]) (by simp [namesOk, push_cast]) (by simp [olds])
      · unfold itemsOf at hx
        rw [List.getElem?_map] at hx
        cases hc : (regCells R)[k]? with
        | none => rw [hc] at hx; cases hx
        | some c =>
          rw [hc] at hx
          cases hx
          have hk := (List.getElem?_eq_some_iff.1 hc).1
          have htk : (regCells R).take (k + 1) = (regCells R).take k ++ [c] := take_get hc
          have hkl : ((regCells R).take k).length = k := by rw [List.length_take]; omega
          unfold S1 cellI
          rw [htk]
          generalize (regCells R).take k = Z at *
          have hZ16 : (Z.length + 1) * 16 ≤ 140737488355328 := by omega
          obtain ⟨x, y⟩ := c
          refine awr_region cx [] (fun s' h => by cases h.1) rfl fun K hK => ?_
          simp [push_cast]
          refine hK _ ⟨rfl, ?_⟩
          clear hK K
          refine awr_block (Q := fun s2 => Weak s2 _) ?_
          refine awr_region cx [] (fun s' h => by cases h.1) rfl fun K hK => ?_
          simp [push_cast, hZ16]
          refine hK _ ⟨rfl, ?_⟩
          clear hK K
          dsimp only
          refine weak_of [(1, some 1), (2, some 8)] rfl (by simp [upT, up, upL, push_cast, Cell.row]) (by simp [upH, upR, upL, up, push_cast, Cell.row]) (by simp [namesOk, push_cast]) (by simp [olds])
      · unfold S1 cellI
        have hl : (itemsOf R).length = (regCells R).length := by simp [itemsOf]
        rw [hl, List.take_length]
        (repeat (first | refine awm_seq ?_ | refine awm_block ?_ | refine awm_skip ?_ | refine awm_exit ?_ | refine awm_ret ?_ | refine sm_n ?_ | refine sm_r ?_ | refine sm_x ?_ | refine bm_n ?_ | refine bm_r ?_ | refine bm_x ?_ | refine bm_y rfl ?_))
        refine awm_region cx [] rfl fun K hK => ?_
        simp [push_cast]
        repeat (refine And.intro (by clear hK; intros; first | omega | (simp_all; done) | (simp_all <;> omega)) ?_)
        refine hK _ ?_; clear hK K; (try dsimp only); (repeat (first | refine awm_seq ?_ | refine awm_block ?_ | refine awm_skip ?_ | refine awm_exit ?_ | refine awm_ret ?_ | refine sm_n ?_ | refine sm_r ?_ | refine sm_x ?_ | refine bm_n ?_ | refine bm_r ?_ | refine bm_x ?_ | refine bm_y rfl ?_))
        have ht : List.take (regCells R).length ((regCells R).map Cell.row) = (regCells R).map Cell.row := List.take_of_length_le (by simp)
        simp [push_cast, ht]
theorem cells_ok (R : List Row) (hsm : smallR R) (hn : validR R = true → (regCells R).length ≤ 1000000) : PC Tryz.prog 87 [.agg (regRow R)] (.p (encCells (cellsOf R))) := (cells_own R hsm hn).data
end Go.Proofs.YtknelhiejjdioaaGreat

set_option linter.unusedVariables false
set_option linter.unusedSimpArgs false
namespace Go.Proofs.YtknelhiejjdioaaGreat
open Go.Abs

set_option maxHeartbeats 1000000 in
theorem rsame_ok (a b : List Row) (ha : smallR a) : PC Tryz.prog 9 [.agg (regRow a), .agg (regRow b)] (.p (.bool (decide (a = b)))) := by
  have hal := ha.1
  refine pc_of_awp cx (fn := Tryz.f9) (c := _) Tryz.func9 rfl rfl (Nat.le_of_ble_eq_true rfl) ?_
  rw [Tryz.ntmps9]; refine Nav.imp ?_
  refine awp_region cx [] fun K hK => ?_
  simp [push_cast]
  repeat (refine And.intro (by clear hK; intros; first | omega | (simp_all; done) | (simp_all <;> omega)) ?_)
  refine hK _ ?_; clear hK K; refine Nav.imp ?_
  refine awp_region cx [] fun K hK => ?_
  simp [push_cast]
  repeat (refine And.intro (by clear hK; intros; first | omega | (simp_all; done) | (simp_all <;> omega)) ?_)
  refine hK _ ?_; clear hK K; refine Nav.imp ?_
  refine awp_cond (by simp [push_cast] <;> exact rfl) (fun hb => ?_) (fun hb => ?_) <;> (refine Nav.imp ?_)
  · simp at hb
    have hne : a ≠ b := by intro e; subst e; simp at hb
    refine awp_region cx [] fun K hK => ?_
    simp [push_cast]
    repeat (refine And.intro (by clear hK; intros; first | omega | (simp_all; done) | (simp_all <;> omega)) ?_)
    refine hK _ ?_; clear hK K; refine Nav.imp ?_
    simp [push_cast, hne]
  · have hlen : a.length = b.length := by simp at hb; omega
    clear hb
    refine awp_region cx [] fun K hK => ?_
    simp [push_cast]
    repeat (refine And.intro (by clear hK; intros; first | omega | (simp_all; done) | (simp_all <;> omega)) ?_)
    refine hK _ ?_; clear hK K; refine Nav.imp ?_
    refine awp_loop (β := Nat) (fun k => ⟨65, [(2, .ptr 0 0 0), (3, .ptr 1 0 0), (5, .d (.int .i64 k))], [(0, some ⟨24, 1, [(regRow a).map .d]⟩), (1, some ⟨24, 1, [(regRow b).map .d]⟩)], 2⟩) (fun k => k ≤ a.length ∧ a.take k = b.take k) (fun k => a.length - k) 0 ?_ ⟨Nat.zero_le _, by simp⟩ ?_
    · refine weak_of [(0, some 0), (1, some 1)] rfl (by simp [upT, up, upL, push_cast]) (by simp [upH, upR, upL, up, push_cast]) (by simp [namesOk, push_cast]) (by simp [olds])
    · rintro k ⟨hk, hpre⟩
      refine Nav.imp ?_
      refine awp_region cx [] fun K hK => ?_
      simp [push_cast]
      repeat (refine And.intro (by clear hK; intros; first | omega | (simp_all; done) | (simp_all <;> omega)) ?_)
      refine hK _ ?_; clear hK K; refine Nav.imp ?_
      refine awp_cond (b := decide ((k : Int) < a.length)) (by simp [push_cast]) (fun hb => ?_) (fun hb => ?_) <;> (refine Nav.imp ?_)
      · have hlt : k < a.length := by simpa using hb
        obtain ⟨x, hx⟩ := getq hlt
        obtain ⟨y, hy⟩ : ∃ y, b[k]? = some y := getq (by omega)
        have e0 := wrap_i64 (n := (k : Int) + 1) (by omega) (by omega)
        have hxl := ha.2 x (List.mem_of_getElem? hx)
        have hno : x ≠ y → a ≠ b := fun h e => by
          subst e
          rw [hx] at hy
          exact h (Option.some.inj hy)
        obtain ⟨xy, xr⟩ := x
        obtain ⟨yy, yr⟩ := y
        simp only at hxl
        refine awp_region_draw cx mixed [] fun K hK => ?_
        simp [push_cast, hx, hy, Row.row]
        repeat (refine And.intro (by clear hK; intros; first | omega | (simp_all; done) | (simp_all <;> omega)) ?_)
        refine hK _ _ (by kernel_rfl) ?_; clear hK K; refine Nav.imp ?_
        refine awp_region cx [] fun K hK => ?_
        simp [push_cast, Row.row]
        repeat (refine And.intro (by clear hK; intros; first | omega | (simp_all; done) | (simp_all <;> omega)) ?_)
        refine hK _ ?_; clear hK K; refine Nav.imp ?_
        refine awp_cond (by simp [push_cast] <;> exact rfl) (fun hb => ?_) (fun hb => ?_) <;> (refine Nav.imp ?_)
        · have hn : a ≠ b := hno (by rintro ⟨⟩; simp at hb)
          refine awp_region cx [] fun K hK => ?_
          simp [push_cast]
          repeat (refine And.intro (by clear hK; intros; first | omega | (simp_all; done) | (simp_all <;> omega)) ?_)
          refine hK _ ?_; clear hK K; refine Nav.imp ?_
          simp [push_cast, hn]
        · simp at hb
          obtain ⟨hy0, hl0⟩ := hb
          have hl0 : xr.length = yr.length := by omega
          subst hy0
          refine awp_region cx [] fun K hK => ?_
          simp [push_cast]
          repeat (refine And.intro (by clear hK; intros; first | omega | (simp_all; done) | (simp_all <;> omega)) ?_)
          refine hK _ ?_; clear hK K; refine Nav.imp ?_
          refine awp_loop (β := Nat) (fun j => ⟨65, [(2, .ptr 0 0 0), (3, .ptr 1 0 0), (5, .d (.int .i64 k)), (6, .ptr 2 0 0), (7, .ptr 3 0 0), (8, .d (.int .i64 j))], [(0, some ⟨24, 1, [(regRow a).map .d]⟩), (1, some ⟨24, 1, [(regRow b).map .d]⟩), (2, some ⟨40, 2, [(Row.row ⟨xy, xr⟩).map .d]⟩), (3, some ⟨40, 2, [(Row.row ⟨xy, yr⟩).map .d]⟩)], 4⟩) (fun j => j ≤ xr.length ∧ xr.take j = yr.take j) (fun j => xr.length - j) 0 ?_ ⟨Nat.zero_le _, by simp⟩ ?_
          · refine weak_of [(0, some 0), (1, some 1), (2, some 17), (3, some 18)] rfl (by simp [upT, up, upL, push_cast, Row.row]) (by simp [upH, upR, upL, up, push_cast, Row.row]) (by simp [namesOk, push_cast]) (by simp [olds])
          · rintro j ⟨hj, hpr⟩
            refine Nav.imp ?_
            refine awp_region cx [] fun K hK => ?_
            simp [push_cast, Row.row]
            repeat (refine And.intro (by clear hK; intros; first | omega | (simp_all; done) | (simp_all <;> omega)) ?_)
            refine hK _ ?_; clear hK K; refine Nav.imp ?_
            refine awp_cond (b := decide ((j : Int) < xr.length)) (by simp [push_cast]) (fun hb => ?_) (fun hb => ?_) <;> (refine Nav.imp ?_)
            · have hjl : j < xr.length := by simpa using hb
              obtain ⟨p, hp⟩ := getq hjl
              obtain ⟨q, hq⟩ : ∃ y, yr[j]? = some y := getq (by omega)
              have e1 := wrap_i64 (n := (j : Int) + 1) (by omega) (by omega)
              have hn2 : p ≠ q → a ≠ b := fun h => hno fun e => by
                injection e with _ e2
                subst e2
                rw [hp] at hq
                exact h (Option.some.inj hq)
              obtain ⟨pa, pb⟩ := p
              obtain ⟨qa, qb⟩ := q
              refine awp_region_draw cx mixed [] fun K hK => ?_
              simp [push_cast, hp, hq, Row.row, Run.row]
              repeat (refine And.intro (by clear hK; intros; first | omega | (simp_all; done) | (simp_all <;> omega)) ?_)
              refine hK _ _ (by kernel_rfl) ?_; clear hK K; refine Nav.imp ?_
              refine awp_cond (by simp [push_cast] <;> exact rfl) (fun hb => ?_) (fun hb => ?_) <;> (refine Nav.imp ?_)
              · have hn : a ≠ b := hn2 (by rintro ⟨⟩; simp at hb)
                refine awp_region cx [] fun K hK => ?_
                simp [push_cast]
                repeat (refine And.intro (by clear hK; intros; first | omega | (simp_all; done) | (simp_all <;> omega)) ?_)
                refine hK _ ?_; clear hK K; refine Nav.imp ?_
                simp [push_cast, hn]
              · simp at hb
                obtain ⟨h1, h2⟩ := hb
                subst h1 h2
                refine awp_region cx [] fun K hK => ?_
                simp [push_cast, e1]
                repeat (refine And.intro (by clear hK; intros; first | omega | (simp_all; done) | (simp_all <;> omega)) ?_)
                refine hK _ ?_; clear hK K; refine Nav.imp ?_
                refine ⟨j + 1, ⟨hjl, take_eq_step hpr hp hq rfl⟩, by omega, ?_⟩
                refine weak_of [(0, some 0), (1, some 1), (2, some 2), (3, some 3)] rfl (by simp [upT, up, upL, push_cast, Row.row]) (by simp [upH, upR, upL, up, push_cast, Row.row]) (by simp [namesOk, push_cast]) (by simp [olds])
            · have hjn : j = xr.length := by simp at hb; omega
              subst hjn
              rw [List.take_length, hl0, List.take_length] at hpr
              subst hpr
              refine awp_region cx [] fun K hK => ?_
              simp [push_cast, e0]
              repeat (refine And.intro (by clear hK; intros; first | omega | (simp_all; done) | (simp_all <;> omega)) ?_)
              refine hK _ ?_; clear hK K; refine Nav.imp ?_
              refine ⟨k + 1, ⟨hlt, take_eq_step hpre hx hy rfl⟩, by omega, ?_⟩
              refine weak_of [(0, some 0), (1, some 1)] rfl (by simp [upT, up, upL, push_cast]) (by simp [upH, upR, upL, up, push_cast]) (by simp [namesOk, push_cast]) (by simp [olds])
      · have hge : k = a.length := by simp at hb; omega
        subst hge
        rw [List.take_length, hlen, List.take_length] at hpre
        refine awp_region cx [] fun K hK => ?_
        simp [push_cast]
        repeat (refine And.intro (by clear hK; intros; first | omega | (simp_all; done) | (simp_all <;> omega)) ?_)
        refine hK _ ?_; clear hK K; refine Nav.imp ?_
        simp [push_cast, hpre]
end Go.Proofs.YtknelhiejjdioaaGreat

set_option linter.unusedVariables false
set_option linter.unusedSimpArgs false
namespace Go.Abs
open Go.Shelf Go.RowKit Go.Lib Go.Sort Go.Proofs

/-- Two sorted lists of the same elements are one. -/
theorem sorted_uniq {α : Type} (le : α → α → Prop) : ∀ (l l' : List α), l.Perm l' → l.Pairwise le → l'.Pairwise le → (∀ a ∈ l, ∀ b ∈ l, le a b → le b a → a = b) → l = l'
  | [], l', h, _, _, _ => by have := h.length_eq; simp at this; exact (List.length_eq_zero_iff.1 this.symm).symm
  | a :: l, [], h, _, _, _ => by have := h.length_eq; simp at this
  | a :: l, b :: l', h, h1, h2, h3 => by
    have hab : a = b := by
      have ha : a ∈ b :: l' := h.subset (by simp)
      have hb : b ∈ a :: l := h.symm.subset (by simp)
      rcases List.mem_cons.1 ha with e | ha
      · exact e
      · rcases List.mem_cons.1 hb with e | hb
        · exact e.symm
        · exact h3 a (by simp) b (by simp [hb]) ((List.pairwise_cons.1 h1).1 b hb) ((List.pairwise_cons.1 h2).1 a ha)
    subst hab
    rw [sorted_uniq le l l' h.cons_inv (List.pairwise_cons.1 h1).2 (List.pairwise_cons.1 h2).2 (fun x hx y hy => h3 x (by simp [hx]) y (by simp [hy]))]

/-- What a comparison does: it hands back a number, and lays at most new memory. -/
def CmpOk (P : Program) (cg : FuncId) (V : List D → Prop) (cf : List D → List D → Int) : Prop :=
  ∀ (ro : Nat → Prop) (w : World) (a b : List D) (va vb : List Value), (∀ blk, ro blk → blk < w.heap.size) → V a → V b → RepDs ro w a va → RepDs ro w b vb → OneCells va → OneCells vb →
    Calls P cg #[.agg va.toArray, .agg vb.toArray] w fun e w' => e = .returned (.int .i64 (cf a b)) ∧ ∃ q os, w' = grow (w.drewN q) os

structure CmpOrd (V : List D → Prop) (cf : List D → List D → Int) : Prop where
  irrefl : ∀ a, V a → ¬ cf a a < 0
  trans : ∀ a b c, V a → V b → V c → cf a b < 0 → cf b c < 0 → cf a c < 0
  ntrans : ∀ a b c, V a → V b → V c → ¬ cf a b < 0 → ¬ cf b c < 0 → ¬ cf a c < 0

section
variable (ro : Nat → Prop) (w : World) (V : List D → Prop) (k : Nat)
/-- An element: what it reads as, and its cells. -/
def Elt : Type := { x : List D × List Value // V x.1 ∧ x.2.length = k ∧ OneCells x.2 ∧ RepDs ro w x.1 x.2 }
def Elt.enc (x : Elt ro w V k) : List Value := x.1.2
end

theorem heap_sort {α : Type} [Inhabited α] (enc : α → List Value) (k : Nat) (w : World) (blk m : Nat) (d : Array α) (os : Array Obj) {b : Nat} (hb : b < w.heap.size) (hne : b ≠ blk) : (sortWorldK enc k w blk 0 m d os).heap[b]? = w.heap[b]? := by
  unfold sortWorldK
  rw [heap_grow_old _ _ (by simpa [putRowK] using hb)]
  simp only [putRowK, putRow, mapBlock, heap_ahead]
  rw [Array.getElem?_modify, if_neg (fun h => hne h.symm)]

theorem heap_sort_blk {α : Type} [Inhabited α] (enc : α → List Value) (k : Nat) (w : World) (blk m : Nat) (d : Array α) (os : Array Obj) {cur : Array Value} {e : TypeId} {fr : Nat × Nat} (h : w.heap[blk]? = some (.cells cur e fr)) : (sortWorldK enc k w blk 0 m d os).heap[blk]? = some (.cells (Go.Sort.putCells id 0 (flatK enc k d) cur) e fr) := by
  have hb : blk < w.heap.size := (Array.getElem?_eq_some_iff.1 h).1
  unfold sortWorldK
  rw [heap_grow_old _ _ (by simpa [putRowK] using hb)]
  simp only [putRowK, putRow, mapBlock, heap_ahead]
  rw [Array.getElem?_modify, if_pos rfl, h]
  rfl

theorem size_sort {α : Type} [Inhabited α] (enc : α → List Value) (k : Nat) (w : World) (blk m : Nat) (d : Array α) (os : Array Obj) : w.heap.size ≤ (sortWorldK enc k w blk 0 m d os).heap.size := by
  unfold sortWorldK
  rw [size_grow]
  simp [putRowK]

theorem drawn_sort {α : Type} [Inhabited α] (enc : α → List Value) (k : Nat) (w : World) (blk m : Nat) (d : Array α) (os : Array Obj) : w.drawn ≤ (sortWorldK enc k w blk 0 m d os).drawn := by
  simp [sortWorldK, putRowK, grow, putRow, mapBlock, ahead]

/-- A contract over plain data is one of a comparison. -/
theorem cmp_of_pc {P : Program} {cg : FuncId} {V : List D → Prop} {cf : List D → List D → Int} (h : ∀ a b, V a → V b → PC P cg [.agg a, .agg b] (.p (.int .i64 (cf a b)))) : CmpOk P cg V cf := by
  intro ro w a b va vb hro ha hb ra rb oa ob
  refine ((h a b ha hb).2 ro w [.agg va.toArray, .agg vb.toArray] hro ?_).mono ?_
  · simp only [RepDs, RepD]
    exact ⟨_, _, rfl, ⟨va, rfl, oa, ra⟩, _, _, rfl, ⟨vb, rfl, ob, rb⟩, rfl⟩
  · rintro e w' ⟨v, he, hB, hr⟩
    simp only [RepRes, RepD] at hr
    refine ⟨by rw [he, hr], ?_⟩
    obtain ⟨p, hp⟩ := regrown_of_below hB.kit
    have hd : w'.drawn = w.drawn + (w'.drawn - w.drawn) := by have := hB.tape.2; omega
    refine ⟨w'.drawn - w.drawn, p.os, ?_⟩
    have hpd : p.d = w'.drawn := by rw [hp]; rfl
    rw [hp]
    simp only [grow, redrawn, World.drewN]
    rw [hp] at hd
    simp only [grow, redrawn] at hd
    congr 1

theorem cmp_lays {P : Program} {cg : FuncId} {V : List D → Prop} {cf : List D → List D → Int} (hc : CmpOk P cg V cf) {ro : Nat → Prop} {w : World} {k blk size : Nat} (hro : ∀ b, ro b → b < w.heap.size ∧ b ≠ blk) [Inhabited (Elt ro w V k)] :
    CmpLays P cg #[] (Elt.enc ro w V k) k (fun x y => cf x.1.1 y.1.1) blk 0 size w := by
  intro m os dk _ x y
  have hf : Fut ro w ro (sortWorldK (Elt.enc ro w V k) k w blk 0 m dk os) := fun b hb => ⟨hb, heap_sort _ _ _ _ _ _ _ (hro b hb).1 (hro b hb).2⟩
  obtain ⟨hx1, _, ox, hx2⟩ := x.2
  obtain ⟨hy1, _, oy, hy2⟩ := y.2
  have := hc ro (sortWorldK (Elt.enc ro w V k) k w blk 0 m dk os) x.1.1 y.1.1 x.1.2 y.1.2 (fun b hb => Nat.lt_of_lt_of_le (hro b hb).1 (size_sort _ _ _ _ _ _ _)) hx1 hy1 (RepDs.mono hf _ _ hx2) (RepDs.mono hf _ _ hy2) ox oy
  simpa [Elt.enc] using this

/-- THE CONTRACT of slices.SortFunc at structs of k cells: the rows in their order (which is one alone). -/
theorem sortFunc_px {P : Program} {ρ : Ren} (L : SlLaysF0.n6 P ρ) {k : Nat} (hk0 : 0 < k) (aE : ∀ w, (isAgg (ρ.t 24)).run P w = .ok true w) (zE : ∀ w, (Go.sizeOf (ρ.t 24)).run P w = .ok k w) (hent : Enters P (ρ.f 6)) {cg : FuncId}
    (eg : ∀ args w, (callFunc cg args).run P w = .ok (.enter cg args) w) {V : List D → Prop} {cf : List D → List D → Int} (hc : CmpOk P cg V cf) (hO : CmpOrd V cf) (e : TypeId) {rows rows' : List (List D)} (hV : ∀ r ∈ rows, V r)
    (hanti : ∀ a ∈ rows, ∀ b ∈ rows, ¬ cf b a < 0 → ¬ cf a b < 0 → a = b) (hp : rows'.Perm rows) (hs : rows'.Pairwise fun a b => ¬ cf b a < 0) (hn : 0 < rows.length) (hsz : rows.length < 4611686018427387904) (fv : AV)
    (hfv : ∀ g w v, RepA g w fv v → v = .func (.func cg) #[] #[]) :
    PX P (ρ.f 6) [.hs 0 0 rows.length, fv] [(0, ⟨e, k, dr rows⟩)] [(0, 0)] [(0, ⟨e, k, dr rows'⟩)] (.tup []) := by
  refine ⟨hent, fun g w vs h hu hvs => ?_⟩
  simp only [RepAs] at hvs
  obtain ⟨v0, _, rfl, h0, v1, _, rfl, h1, rfl⟩ := hvs
  have e1 := hfv g w v1 h1
  obtain ⟨L0, hL, hok⟩ := h.own 0 ⟨e, k, dr rows⟩ (by simp [objL, find])
  have hkm : L0.m = k := hok.m
  have hlenr : (dr rows).length = rows.length := by simp [dr]
  have hvirt : L0.virt = false := by
    cases hv : L0.virt with
    | false => rfl
    | true =>
      have h2 : (dr rows).length = 0 := by rw [show dr rows = [] from hok.virt hv]; rfl
      omega
  simp only [RepA] at h0
  have hflat : L0.virt = false ∧ L0.map = false := by
    rcases h0.2 L0 hL with ⟨hv, _⟩ | ⟨hv, _⟩
    · rw [hvirt] at hv; cases hv
    · exact hv
  have hvm := hflat.2
  obtain ⟨cur, hblk, hcs, hcap, hrows⟩ := hok.cells hflat
  have e0 : v0 = .slice (some ⟨L0.blk, 0, none⟩) rows.length L0.cap := by
    rcases h0.2 L0 hL with ⟨hv, _⟩ | ⟨_, _, hv⟩
    · rw [hvirt] at hv; cases hv
    · rw [hv]; simp
  have hcapl : rows.length ≤ L0.cap := by have := hok.len hvm; rw [hlenr] at this; exact this
  have hblt : L0.blk < w.heap.size := (Array.getElem?_eq_some_iff.1 hblk).1
  have hnro : ¬ g.ro L0.blk := ((h.live 0 L0 hL).2 hvirt).2
  have hro : ∀ b, g.ro b → b < w.heap.size ∧ b ≠ L0.blk := fun b hb => ⟨h.ro b hb, fun e => hnro (e ▸ hb)⟩
  have hcsz : rows.length * k ≤ cur.size := by rw [hcs, hkm]; exact Nat.mul_le_mul_right k hcapl
  have hin : ∀ i, i < rows.length → i * k + k ≤ cur.size := fun i hi => by
    have := Nat.mul_le_mul_right k (show i + 1 ≤ rows.length from hi)
    rw [Nat.add_mul, Nat.one_mul] at this; omega
  -- the cells of element i
  have hel : ∀ i (hi : i < rows.length), V rows[i] ∧ (cur.toList.drop (i * k) |>.take k).length = k ∧ OneCells (cur.toList.drop (i * k) |>.take k) ∧ RepDs g.ro w rows[i] (cur.toList.drop (i * k) |>.take k) := by
    intro i hi
    have hrow := hrows i (rows[i].map AV.d) (by simp [dr, hi])
    have hl : (cur.toList.drop (i * k) |>.take k).length = k := by
      have := hin i hi
      simp only [List.length_take, List.length_drop, Array.length_toList]; omega
    have hget : ∀ j, j < k → (cur.toList.drop (i * k) |>.take k)[j]? = cur[i * k + j]? := fun j hj => by
      rw [List.getElem?_take, if_pos hj, List.getElem?_drop, Array.getElem?_toList]
    have hrl : rows[i].length = k := by have := hrow.1; rw [hkm] at this; simpa using this
    refine ⟨hV _ (List.getElem_mem hi), hl, ?_, ?_⟩
    · intro v hv
      obtain ⟨j, hj⟩ := List.mem_iff_getElem?.1 hv
      have hjk : j < k := by have := (List.getElem?_eq_some_iff.1 hj).1; omega
      rw [hget j hjk] at hj
      obtain ⟨u, hu1, hu2, _⟩ := hrow.2 j (.d (rows[i][j]'(by omega))) (by simp [show j < rows[i].length by omega])
      rw [hkm, hj] at hu1
      cases hu1
      exact hu2
    · refine RepDs.of_get (by rw [hl, hrl]) fun j x hj => ?_
      have hjk : j < k := by have := (List.getElem?_eq_some_iff.1 hj).1; omega
      obtain ⟨u, hu1, _, hu3⟩ := hrow.2 j (.d x) (by simp [hj])
      rw [hkm] at hu1
      exact ⟨u, by rw [hget j hjk, hu1], by simpa only [RepA] using hu3⟩
  let mk : _root_.Fin rows.length → Elt g.ro w V k := fun i => ⟨(rows[i.1], (cur.toList.drop (i.1 * k)).take k), hel i.1 i.2⟩
  let d : Array (Elt g.ro w V k) := Array.ofFn mk
  haveI : Inhabited (Elt g.ro w V k) := ⟨mk ⟨0, hn⟩⟩
  have hds : d.size = rows.length := by simp [d]
  have hdi : ∀ i (hi : i < rows.length), d[i]! = mk ⟨i, hi⟩ := fun i hi => by
    rw [getElem!_pos d i (by rw [hds]; exact hi)]; simp [d]
  have hdl : d.toList.map (fun x => x.1.1) = rows := by
    apply List.ext_getElem
    · simp [d]
    · intro i h1 h2
      have hi : i < d.size := by simpa using h1
      rw [List.getElem_map, Array.getElem_toList]
      have e := hdi i h2
      rw [getElem!_pos d i hi] at e
      rw [e]
  have hH : HoldsK (Elt.enc g.ro w V k) k w L0.blk 0 d := by
    intro j hj
    have hjs : j < rows.length * k := by simpa [hds] using hj
    have hdk : j / k < rows.length := Nat.div_lt_of_lt_mul (by rwa [Nat.mul_comm] at hjs)
    have hmod : j % k < k := Nat.mod_lt j hk0
    have hdm : j / k * k + j % k = j := by rw [Nat.mul_comm]; exact Nat.div_add_mod j k
    rw [get_flatK _ _ _ _ (by rw [hds]; exact hjs), hdi _ hdk]
    have hlt : j < cur.size := by omega
    refine ⟨?_, ?_⟩
    · simp only [World.cell?, hblk, Nat.zero_add]
      simp only [Option.isSome_none, Bool.false_eq_true, if_false, id_eq]
      have hl2 := (hel _ hdk).2.1
      rw [getElem!_pos _ _ (by rw [show (Elt.enc g.ro w V k (mk ⟨j / k, hdk⟩)) = (cur.toList.drop (j / k * k)).take k from rfl, hl2]; exact hmod)]
      simp only [Elt.enc, mk, List.getElem_take, List.getElem_drop, Array.getElem_toList, hdm]
      exact Array.getElem?_eq_getElem hlt
    · simp only [World.frozen?, hblk]
      simp
  have hswo : SWO (ltOf fun x y : Elt g.ro w V k => cf x.1.1 y.1.1) := by
    refine ⟨fun x => ?_, fun x y z h1 h2 => ?_, fun x y z h1 h2 => ?_⟩
    · simpa [ltOf] using hO.irrefl x.1.1 x.2.1
    · simp only [ltOf, decide_eq_true_eq] at h1 h2 ⊢
      exact hO.trans _ _ _ x.2.1 y.2.1 z.2.1 h1 h2
    · simp only [ltOf, decide_eq_false_iff_not] at h1 h2 ⊢
      exact hO.ntrans _ _ _ x.2.1 y.2.1 z.2.1 h1 h2
  have hmain := AnyQ.slices_SortFunc L k aE zE (Elt.enc g.ro w V k) (fun x => x.2.2.1) (fun x v hv => x.2.2.2.1 v hv) (fun x y => cf x.1.1 y.1.1) hswo cg #[] L0.blk 0 L0.cap d w eg (cmp_lays hc hro) hH hblt (by rw [hds]; exact hsz)
  rw [hds] at hmain
  rw [e0, e1]
  refine hmain.mono ?_
  rintro ex w' ⟨rfl, d', n, os, hperm, hsort, rfl⟩
  obtain ⟨hps, _, hpp⟩ := hperm
  have hex : ∀ a : Array (Elt g.ro w V k), a.size = rows.length → (a.extract 0 rows.length) = a := fun a ha => by rw [← ha]; simp
  rw [hex d' (by rw [hps, hds]), hex d hds] at hpp
  have hrows' : d'.toList.map (fun x => x.1.1) = rows' := by
    refine sorted_uniq (fun a b => ¬ cf b a < 0) _ _ ((hpp.map _).trans (by rw [hdl]; exact hp.symm)) ?_ hs ?_
    · rw [List.pairwise_map, List.pairwise_iff_getElem]
      intro i j hi hj hij
      have hj' : j < d'.size := by simpa using hj
      have := hsort i j (Nat.zero_le _) hij (by rw [hps, hds] at hj'; exact hj')
      rw [getElem!_pos d' i (by omega), getElem!_pos d' j hj'] at this
      simpa [ltOf] using this
    · intro a ha b hb hab hba
      have hsub : ∀ x, x ∈ d'.toList.map (fun x => x.1.1) → x ∈ rows := fun x hx => by
        have := (hpp.map (fun x : Elt g.ro w V k => x.1.1)).subset hx
        rwa [hdl] at this
      exact hanti a (hsub a ha) b (hsub b hb) hab hba
  have hd's : d'.size = rows.length := by rw [hps, hds]
  have hbs : (sortWorldK (Elt.enc g.ro w V k) k w L0.blk 0 n d' os).heap[L0.blk]? = some (.cells (Go.Sort.putCells id 0 (flatK (Elt.enc g.ro w V k) k d') cur) e (0, 0)) := heap_sort_blk _ _ _ _ _ _ _ hblk
  obtain ⟨g', h1, h2, h3, h4, h5, h6⟩ := HRel.write h hL hflat (id' := 0) (.inl rfl) ⟨e, k, dr rows'⟩ (Go.Sort.putCells id 0 (flatK (Elt.enc g.ro w V k) k d') cur) (w' := sortWorldK (Elt.enc g.ro w V k) k w L0.blk 0 n d' os) (cap := L0.cap) (B := L0.blk) rfl ⟨rfl, drawn_sort _ _ _ _ _ _ _⟩ rfl (size_sort _ _ _ _ _ _ _)
    (fun b hb hne => heap_sort _ _ _ _ _ _ _ hb hne) (.inl rfl) hbs hkm.symm hok.pos (by simp only [Go.Sort.putCells, Array.size_mapIdx]; exact hcs) (by have := hp.length_eq; simp [dr]; omega) hcap (fun _ => ⟨rfl, rfl⟩) (by
      intro i row hi
      have hil : i < rows'.length := by have := (List.getElem?_eq_some_iff.1 hi).1; simpa [dr] using this
      have hil2 : i < rows.length := by have := hp.length_eq; omega
      have hid : i < d'.size := by omega
      have hri : rows'[i] = (d'[i]'hid).1.1 := by
        have : (d'.toList.map (fun x => x.1.1))[i]'(by simpa using hid) = rows'[i] := by simp only [hrows']
        rw [← this]; simp
      have hrow : row = rows'[i].map AV.d := by
        have : (dr rows')[i]? = some (rows'[i].map AV.d) := by simp [dr, hil]
        rw [this] at hi; exact (Option.some.inj hi).symm
      obtain ⟨x1, x2, x3, x4⟩ := (d'[i]'hid).2
      subst hrow
      rw [hri, hkm]
      have hxl : (d'[i]'hid).1.1.length = k := by have := x4.length; omega
      refine ⟨by simp [hxl], fun j av hj => ?_⟩
      have hjk : j < k := by have := (List.getElem?_eq_some_iff.1 hj).1; simp at this; omega
      have hav : av = .d ((d'[i]'hid).1.1[j]'(by omega)) := by
        rw [List.getElem?_map, List.getElem?_eq_getElem (by omega)] at hj
        exact (Option.some.inj hj).symm
      obtain ⟨v, hv1, hv2⟩ := x4.get j _ (List.getElem?_eq_getElem (by omega))
      have hdiv : (i * k + j) / k = i := (blk_iff k i _ hk0).1 ⟨by omega, by omega⟩
      have hmod : (i * k + j) % k = j := by rw [Nat.mod_eq_sub_div_mul, hdiv]; omega
      have hlt : i * k + j < rows.length * k := by have := Nat.mul_le_mul_right k (show i + 1 ≤ rows.length from hil2); rw [Nat.add_mul, Nat.one_mul] at this; omega
      refine ⟨v, ?_, x3 v (List.mem_of_getElem? hv1), ?_⟩
      · have hlc : i * k + j < cur.size := by omega
        have hc1 : (Go.Sort.putCells id 0 (flatK (Elt.enc g.ro w V k) k d') cur)[i * k + j]? = some ((flatK (Elt.enc g.ro w V k) k d')[i * k + j]!) := by
          simp only [Go.Sort.putCells, Array.getElem?_mapIdx, Array.getElem?_eq_getElem hlc, Option.map_some]
          rw [if_pos ⟨Nat.zero_le _, by rw [size_flatK, hd's]; omega⟩]
          simp
        rw [hc1, get_flatK _ _ _ _ (by rw [hd's]; exact hlt), hdiv, hmod, getElem!_pos d' i hid]
        simp only [Elt.enc]
        obtain ⟨hjl, hjv⟩ := List.getElem?_eq_some_iff.1 hv1
        rw [getElem!_pos _ j hjl, hjv]
      · rw [hav]
        simpa only [RepA] using hv2)
  refine ⟨_, g', rfl, ?_, ?_, h5, ?_⟩
  · have : (upd1 (upd1 (objL [(0, ⟨e, k, dr rows⟩)]) 0 none) 0 (some ⟨e, k, dr rows'⟩)) = objL [(0, ⟨e, k, dr rows'⟩)] := by
      funext x
      simp only [upd1, objL, find]
      by_cases hx : x = 0
      · subst hx; simp
      · have hx' : ¬ (0 = x) := fun h => hx h.symm
        simp [hx, hx']
    rw [← this]; exact h4
  · simp only [RepA, RepAs]
    exact ⟨[], rfl, rfl⟩
  · intro i j hij
    simp only [List.mem_cons, List.not_mem_nil, or_false, Prod.mk.injEq] at hij
    obtain ⟨rfl, rfl⟩ := hij
    rw [h1, hL]
    cases L0; simp_all

/-- .. at no element. -/
theorem sortFunc_px0 {P : Program} {ρ : Ren} (L : SlLaysF0.n6 P ρ) {k : Nat} (hk0 : 0 < k) (hent : Enters P (ρ.f 6)) (e : TypeId) (fv : AV) :
    PX P (ρ.f 6) [.hs 0 0 0, fv] [(0, ⟨e, k, []⟩)] [(0, 0)] [(0, ⟨e, k, []⟩)] (.tup []) := by
  refine ⟨hent, fun g w vs h hu hvs => ?_⟩
  simp only [RepAs] at hvs
  obtain ⟨v0, _, rfl, h0, v1, _, rfl, h1, rfl⟩ := hvs
  obtain ⟨L0, hL, hok⟩ := h.own 0 ⟨e, k, []⟩ (by simp [objL, find])
  simp only [RepA] at h0
  have e0 : ∃ p c, v0 = .slice p 0 c := by
    rcases h0.2 L0 hL with ⟨_, _, _, hv⟩ | ⟨_, _, hv⟩
    · exact ⟨_, _, hv⟩
    · exact ⟨_, _, hv⟩
  obtain ⟨p, c, rfl⟩ := e0
  refine (AnyF.slices_SortFunc_none { L with } p c v1 w).mono ?_
  rintro ex w' ⟨rfl, rfl⟩
  refine ⟨_, g, rfl, h, ?_, Step.refl g _, ?_⟩
  · simp only [RepA, RepAs]; exact ⟨[], rfl, rfl⟩
  · intro i j hij
    simp only [List.mem_cons, List.not_mem_nil, or_false, Prod.mk.injEq] at hij
    obtain ⟨rfl, rfl⟩ := hij
    rfl

/-- .. at any number of elements. -/
theorem sortFunc_all {P : Program} {ρ : Ren} (L : SlLaysF0.n6 P ρ) {k : Nat} (hk0 : 0 < k) (aE : ∀ w, (isAgg (ρ.t 24)).run P w = .ok true w) (zE : ∀ w, (Go.sizeOf (ρ.t 24)).run P w = .ok k w) (hent : Enters P (ρ.f 6)) {cg : FuncId}
    (eg : ∀ args w, (callFunc cg args).run P w = .ok (.enter cg args) w) {V : List D → Prop} {cf : List D → List D → Int} (hc : CmpOk P cg V cf) (hO : CmpOrd V cf) (e : TypeId) {rows rows' : List (List D)} (hV : ∀ r ∈ rows, V r)
    (hanti : ∀ a ∈ rows, ∀ b ∈ rows, ¬ cf b a < 0 → ¬ cf a b < 0 → a = b) (hp : rows'.Perm rows) (hs : rows'.Pairwise fun a b => ¬ cf b a < 0) (hsz : rows.length < 4611686018427387904) :
    PX P (ρ.f 6) [.hs 0 0 rows.length, .d (.fn (.func cg) [])] [(0, ⟨e, k, dr rows⟩)] [(0, 0)] [(0, ⟨e, k, dr rows'⟩)] (.tup []) := by
  by_cases hn : rows = []
  · subst hn
    have : rows' = [] := hp.eq_nil
    subst this
    exact sortFunc_px0 L hk0 hent e _
  · refine sortFunc_px L hk0 aE zE hent eg hc hO e hV hanti hp hs (List.length_pos_iff.2 hn) hsz _ fun g w v hv => ?_
    simp only [RepA, RepD] at hv
    obtain ⟨vs, rfl, h2⟩ := hv
    simp only [RepDs] at h2
    rw [h2]

end Go.Abs

set_option linter.unusedVariables false
set_option linter.unusedSimpArgs false
namespace Go.Proofs.YtknelhiejjdioaaGreat
open Go.Abs Go.Shelf Go.RowKit Go.Lib Go.Sort

/-! What the sorts of package thin do. -/
def sortCell_ren : Go.Shelf.Ren := ⟨fun | 6 => 46 | 15 => 83 | 14 => 82 | 28 => 122 | 29 => 123 | 20 => 114 | 21 => 115 | 22 => 116 | 23 => 117 | 24 => 118 | 25 => 119 | 26 => 120 | 27 => 121 | 46 => 147 | 47 => 148 | 48 => 149 | 49 => 150 | 50 => 151 | 57 => 162 | n => n, fun | 22 => 45 | 24 => 49 | 25 => 67 | 3 => 3 | 39 => 100 | 0 => 0 | 53 => 130 | 55 => 132 | 4 => 4 | 46 => 124 | 45 => 123 | 50 => 111 | 5 => 5 | 9 => 9 | 66 => 149 | 70 => 153 | 76 => 161 | 77 => 162 | n => n, fun n => n⟩
theorem sortCell_lays : SlLaysF0.n6 Tryz.prog sortCell_ren where
  mixed := by kernel_rfl
  f6 := ⟨Tryz.f46.name, by kernel_rfl, Tryz.func46.trans (congrArg some (by kernel_rfl))⟩
  f14 := ⟨Tryz.f82.name, by kernel_rfl, Tryz.func82.trans (congrArg some (by kernel_rfl))⟩
  f15 := Tryz.func83.trans (congrArg some (by kernel_rfl))
  f20 := ⟨Tryz.f114.name, by kernel_rfl, Tryz.func114.trans (congrArg some (by kernel_rfl))⟩
  f21 := ⟨Tryz.f115.name, by kernel_rfl, Tryz.func115.trans (congrArg some (by kernel_rfl))⟩
  f22 := ⟨Tryz.f116.name, by kernel_rfl, Tryz.func116.trans (congrArg some (by kernel_rfl))⟩
  f23 := ⟨Tryz.f117.name, by kernel_rfl, Tryz.func117.trans (congrArg some (by kernel_rfl))⟩
  f24 := ⟨Tryz.f118.name, by kernel_rfl, Tryz.func118.trans (congrArg some (by kernel_rfl))⟩
  f25 := ⟨Tryz.f119.name, by kernel_rfl, Tryz.func119.trans (congrArg some (by kernel_rfl))⟩
  f26 := ⟨Tryz.f120.name, by kernel_rfl, Tryz.func120.trans (congrArg some (by kernel_rfl))⟩
  f27 := ⟨Tryz.f121.name, by kernel_rfl, Tryz.func121.trans (congrArg some (by kernel_rfl))⟩
  f28 := Tryz.func122.trans (congrArg some (by kernel_rfl))
  f29 := Tryz.func123.trans (congrArg some (by kernel_rfl))
  f46 := ⟨Tryz.f147.name, by kernel_rfl, Tryz.func147.trans (congrArg some (by kernel_rfl))⟩
  f47 := Tryz.func148.trans (congrArg some (by kernel_rfl))
  f48 := Tryz.func149.trans (congrArg some (by kernel_rfl))
  f49 := ⟨Tryz.f150.name, by kernel_rfl, Tryz.func150.trans (congrArg some (by kernel_rfl))⟩
  f50 := ⟨Tryz.f151.name, by kernel_rfl, Tryz.func151.trans (congrArg some (by kernel_rfl))⟩
  f57 := ⟨Tryz.f162.name, by kernel_rfl, Tryz.func162.trans (congrArg some (by kernel_rfl))⟩
  t0 := Tryz.underlying0
  a0 := Tryz.isAgg0
  z0 := Tryz.sizeOf0
  v0 := Tryz.zeroValue0
  t3 := Tryz.underlying3
  a3 := Tryz.isAgg3
  z3 := Tryz.sizeOf3
  v3 := Tryz.zeroValue3
  t4 := Tryz.underlying4
  a4 := Tryz.isAgg4
  z4 := Tryz.sizeOf4
  v4 := Tryz.zeroValue4
  t5 := Tryz.underlying5
  a5 := Tryz.isAgg5
  z5 := Tryz.sizeOf5
  v5 := Tryz.zeroValue5
  t9 := Tryz.underlying9
  a9 := Tryz.isAgg9
  z9 := Tryz.sizeOf9
  v9 := Tryz.zeroValue9
  t22 := Tryz.underlying45
  a22 := Tryz.isAgg45
  z22 := Tryz.sizeOf45
  v22 := Tryz.zeroValue45
  t25 := Tryz.underlying67
  a25 := Tryz.isAgg67
  z25 := Tryz.sizeOf67
  v25 := Tryz.zeroValue67
  t39 := Tryz.underlying100
  a39 := Tryz.isAgg100
  z39 := Tryz.sizeOf100
  v39 := Tryz.zeroValue100
  t45 := Tryz.underlying123
  a45 := Tryz.isAgg123
  z45 := Tryz.sizeOf123
  v45 := Tryz.zeroValue123
  t46 := Tryz.underlying124
  a46 := Tryz.isAgg124
  z46 := Tryz.sizeOf124
  v46 := Tryz.zeroValue124
  t50 := Tryz.underlying111
  a50 := Tryz.isAgg111
  z50 := Tryz.sizeOf111
  v50 := Tryz.zeroValue111
  t53 := Tryz.underlying130
  a53 := Tryz.isAgg130
  z53 := Tryz.sizeOf130
  v53 := Tryz.zeroValue130
  t55 := Tryz.underlying132
  a55 := Tryz.isAgg132
  z55 := Tryz.sizeOf132
  v55 := Tryz.zeroValue132
  t66 := Tryz.underlying149
  a66 := Tryz.isAgg149
  z66 := Tryz.sizeOf149
  v66 := Tryz.zeroValue149
  t70 := Tryz.underlying153
  a70 := Tryz.isAgg153
  z70 := Tryz.sizeOf153
  v70 := Tryz.zeroValue153
  t76 := Tryz.underlying161
  a76 := Tryz.isAgg161
  z76 := Tryz.sizeOf161
  v76 := Tryz.zeroValue161
  t77 := Tryz.underlying162
  a77 := Tryz.isAgg162
  z77 := Tryz.sizeOf162
  v77 := Tryz.zeroValue162
def sortTrack_ren : Go.Shelf.Ren := ⟨fun | 6 => 49 | 15 => 83 | 14 => 84 | 28 => 122 | 29 => 123 | 20 => 124 | 21 => 125 | 22 => 126 | 23 => 127 | 24 => 128 | 25 => 129 | 26 => 130 | 27 => 131 | 46 => 152 | 47 => 148 | 48 => 149 | 49 => 153 | 50 => 154 | 57 => 163 | n => n, fun | 22 => 31 | 24 => 47 | 25 => 70 | 3 => 3 | 39 => 100 | 0 => 0 | 53 => 130 | 55 => 132 | 4 => 4 | 46 => 124 | 45 => 123 | 50 => 111 | 5 => 5 | 9 => 9 | 66 => 149 | 70 => 153 | 76 => 161 | 77 => 162 | n => n, fun n => n⟩
theorem sortTrack_lays : SlLaysF0.n6 Tryz.prog sortTrack_ren where
  mixed := by kernel_rfl
  f6 := ⟨Tryz.f49.name, by kernel_rfl, Tryz.func49.trans (congrArg some (by kernel_rfl))⟩
  f14 := ⟨Tryz.f84.name, by kernel_rfl, Tryz.func84.trans (congrArg some (by kernel_rfl))⟩
  f15 := Tryz.func83.trans (congrArg some (by kernel_rfl))
  f20 := ⟨Tryz.f124.name, by kernel_rfl, Tryz.func124.trans (congrArg some (by kernel_rfl))⟩
  f21 := ⟨Tryz.f125.name, by kernel_rfl, Tryz.func125.trans (congrArg some (by kernel_rfl))⟩
  f22 := ⟨Tryz.f126.name, by kernel_rfl, Tryz.func126.trans (congrArg some (by kernel_rfl))⟩
  f23 := ⟨Tryz.f127.name, by kernel_rfl, Tryz.func127.trans (congrArg some (by kernel_rfl))⟩
  f24 := ⟨Tryz.f128.name, by kernel_rfl, Tryz.func128.trans (congrArg some (by kernel_rfl))⟩
  f25 := ⟨Tryz.f129.name, by kernel_rfl, Tryz.func129.trans (congrArg some (by kernel_rfl))⟩
  f26 := ⟨Tryz.f130.name, by kernel_rfl, Tryz.func130.trans (congrArg some (by kernel_rfl))⟩
  f27 := ⟨Tryz.f131.name, by kernel_rfl, Tryz.func131.trans (congrArg some (by kernel_rfl))⟩
  f28 := Tryz.func122.trans (congrArg some (by kernel_rfl))
  f29 := Tryz.func123.trans (congrArg some (by kernel_rfl))
  f46 := ⟨Tryz.f152.name, by kernel_rfl, Tryz.func152.trans (congrArg some (by kernel_rfl))⟩
  f47 := Tryz.func148.trans (congrArg some (by kernel_rfl))
  f48 := Tryz.func149.trans (congrArg some (by kernel_rfl))
  f49 := ⟨Tryz.f153.name, by kernel_rfl, Tryz.func153.trans (congrArg some (by kernel_rfl))⟩
  f50 := ⟨Tryz.f154.name, by kernel_rfl, Tryz.func154.trans (congrArg some (by kernel_rfl))⟩
  f57 := ⟨Tryz.f163.name, by kernel_rfl, Tryz.func163.trans (congrArg some (by kernel_rfl))⟩
  t0 := Tryz.underlying0
  a0 := Tryz.isAgg0
  z0 := Tryz.sizeOf0
  v0 := Tryz.zeroValue0
  t3 := Tryz.underlying3
  a3 := Tryz.isAgg3
  z3 := Tryz.sizeOf3
  v3 := Tryz.zeroValue3
  t4 := Tryz.underlying4
  a4 := Tryz.isAgg4
  z4 := Tryz.sizeOf4
  v4 := Tryz.zeroValue4
  t5 := Tryz.underlying5
  a5 := Tryz.isAgg5
  z5 := Tryz.sizeOf5
  v5 := Tryz.zeroValue5
  t9 := Tryz.underlying9
  a9 := Tryz.isAgg9
  z9 := Tryz.sizeOf9
  v9 := Tryz.zeroValue9
  t22 := Tryz.underlying31
  a22 := Tryz.isAgg31
  z22 := Tryz.sizeOf31
  v22 := Tryz.zeroValue31
  t25 := Tryz.underlying70
  a25 := Tryz.isAgg70
  z25 := Tryz.sizeOf70
  v25 := Tryz.zeroValue70
  t39 := Tryz.underlying100
  a39 := Tryz.isAgg100
  z39 := Tryz.sizeOf100
  v39 := Tryz.zeroValue100
  t45 := Tryz.underlying123
  a45 := Tryz.isAgg123
  z45 := Tryz.sizeOf123
  v45 := Tryz.zeroValue123
  t46 := Tryz.underlying124
  a46 := Tryz.isAgg124
  z46 := Tryz.sizeOf124
  v46 := Tryz.zeroValue124
  t50 := Tryz.underlying111
  a50 := Tryz.isAgg111
  z50 := Tryz.sizeOf111
  v50 := Tryz.zeroValue111
  t53 := Tryz.underlying130
  a53 := Tryz.isAgg130
  z53 := Tryz.sizeOf130
  v53 := Tryz.zeroValue130
  t55 := Tryz.underlying132
  a55 := Tryz.isAgg132
  z55 := Tryz.sizeOf132
  v55 := Tryz.zeroValue132
  t66 := Tryz.underlying149
  a66 := Tryz.isAgg149
  z66 := Tryz.sizeOf149
  v66 := Tryz.zeroValue149
  t70 := Tryz.underlying153
  a70 := Tryz.isAgg153
  z70 := Tryz.sizeOf153
  v70 := Tryz.zeroValue153
  t76 := Tryz.underlying161
  a76 := Tryz.isAgg161
  z76 := Tryz.sizeOf161
  v76 := Tryz.zeroValue161
  t77 := Tryz.underlying162
  a77 := Tryz.isAgg162
  z77 := Tryz.sizeOf162
  v77 := Tryz.zeroValue162

/-- By X, then by Y. -/
def cfX : List D → List D → Int
  | [.int _ ax, .int _ ay], [.int _ bx, .int _ by'] => if ax ≠ bx then ax - bx else ay - by'
  | _, _ => 0
def VC (r : List D) : Prop := ∃ c : Cell, r = c.row ∧ onG c = true

set_option maxHeartbeats 1000000 in
theorem cmpX_ok : CmpOk Tryz.prog 47 VC cfX := by
  rintro ro w a b va vb hro ⟨⟨ax, ay⟩, rfl, hc⟩ ⟨⟨bx, by'⟩, rfl, hd⟩ ha hb _ _
  have h1 := onG_bd hc
  have h2 := onG_bd hd
  simp only at h1 h2
  simp only [Cell.row, RepDs, RepD] at ha hb
  obtain ⟨_, _, rfl, rfl, _, _, rfl, rfl, rfl⟩ := ha
  obtain ⟨_, _, rfl, rfl, _, _, rfl, rfl, rfl⟩ := hb
  have w1 : IntKind.i64.wrap (ax - bx) = ax - bx := wrap_i64 (by omega) (by omega)
  have w2 : IntKind.i64.wrap (ay - by') = ay - by' := wrap_i64 (by omega) (by omega)
  go_enter Tryz.func47, Tryz.ntmps47
  go_wp2
  · rename_i h
    go_ret
    refine ⟨?_, 0, _, by rw [alloc_eq_grow, alloc_eq_grow, grow_grow]; rfl⟩
    simp at h
    simp [cfX, h]
  · rename_i h
    go_ret
    refine ⟨?_, 0, _, by rw [alloc_eq_grow, alloc_eq_grow, grow_grow]; rfl⟩
    simp at h
    simp [cfX, h]

/-- By the first cell's Y, then by its X. -/
def cfY : List D → List D → Int
  | [_, _, .sl ([.int _ ax, .int _ ay] :: _)], [_, _, .sl ([.int _ bx, .int _ by'] :: _)] => if ay ≠ by' then ay - by' else ax - bx
  | _, _ => 0
theorem cfY_rows (ra rb : Int) (ca cb : Bool) (ax ay bx by' : Int) (la lb : List Cell) : cfY (Track.row ⟨ra, ca, ⟨ax, ay⟩ :: la⟩) (Track.row ⟨rb, cb, ⟨bx, by'⟩ :: lb⟩) = if ay ≠ by' then ay - by' else ax - bx := rfl
def VT (r : List D) : Prop := ∃ (t : Track) (c : Cell) (l : List Cell), r = t.row ∧ t.cells = c :: l ∧ onG c = true

set_option maxHeartbeats 1000000 in
theorem cmpY_ok : CmpOk Tryz.prog 50 VT cfY := by
  rintro ro w a b va vb hro ⟨⟨ra, ca, _⟩, ⟨ax, ay⟩, la, rfl, rfl, hc⟩ ⟨⟨rb, cb, _⟩, ⟨bx, by'⟩, lb, rfl, rfl, hd⟩ ha hb _ _
  have h1 := onG_bd hc
  have h2 := onG_bd hd
  simp only at h1 h2
  simp only [Track.row, encCells, RepDs, RepD, List.map_cons, List.length_cons, List.length_map] at ha hb
  obtain ⟨_, _, rfl, rfl, _, _, rfl, rfl, _, _, rfl, ⟨p, cp, rfl, hp1, hp2, hp3⟩, rfl⟩ := ha
  obtain ⟨_, _, rfl, rfl, _, _, rfl, rfl, _, _, rfl, ⟨q, cq, rfl, hq1, hq2, hq3⟩, rfl⟩ := hb
  obtain ⟨b1, o1, m1, rfl, hb1, hr1⟩ := hp3.resolve_left (by simp)
  obtain ⟨b2, o2, m2, rfl, hb2, hr2⟩ := hq3.resolve_left (by simp)
  simp only [RepRows, RepDs, RepD] at hr1 hr2
  obtain ⟨⟨_, hl1, ⟨_, _, rfl, rfl, _, _, rfl, rfl, rfl⟩, hc1⟩, _⟩ := hr1
  obtain ⟨⟨_, hl2, ⟨_, _, rfl, rfl, _, _, rfl, rfl, rfl⟩, hc2⟩, _⟩ := hr2
  have x1 := (hc1 0 (.int .i64 ax) (by simp)).1
  have y1 := (hc1 1 (.int .i64 ay) (by simp)).1
  have x2 := (hc2 0 (.int .i64 bx) (by simp)).1
  have y2 := (hc2 1 (.int .i64 by') (by simp)).1
  clear hl1 hl2
  have s1 := hro b1 hb1
  have s2 := hro b2 hb2
  simp only [Nat.add_zero] at x1 x2
  clear hc1 hc2 hp1 hp2 hp3 hq1 hq2 hq3 hro hb1 hb2
  have w1 : IntKind.i64.wrap (ax - bx) = ax - bx := wrap_i64 (by omega) (by omega)
  have w2 : IntKind.i64.wrap (ay - by') = ay - by' := wrap_i64 (by omega) (by omega)
  go_enter Tryz.func50, Tryz.ntmps50
  go_wp2
  have hW0 : ∀ (o1 o2 : Obj), (w.alloc o1).alloc o2 = grow w #[o1, o2] := fun o1 o2 => by rw [alloc_eq_grow, alloc_eq_grow, grow_grow]; rfl
  have kp : ∀ (os : Array Obj) (a : Addr), a.block < w.heap.size → (grow w os).cell? a = w.cell? a := fun os a h => cell?_grow w os a h
  have q1 : ∀ (p q : Obj), ((w.alloc p).alloc q).cell? ⟨b1, o1, none⟩ = some (.int .i64 ax) := fun p q => by rw [hW0, kp _ _ s1, x1]
  have q2 : ∀ (p q : Obj), ((w.alloc p).alloc q).cell? ⟨b1, o1 + 1, none⟩ = some (.int .i64 ay) := fun p q => by rw [hW0, kp _ _ s1, y1]
  have q3 : ∀ (p q : Obj), ((w.alloc p).alloc q).cell? ⟨b2, o2, none⟩ = some (.int .i64 bx) := fun p q => by rw [hW0, kp _ _ s2, x2]
  have q4 : ∀ (p q : Obj), ((w.alloc p).alloc q).cell? ⟨b2, o2 + 1, none⟩ = some (.int .i64 by') := fun p q => by rw [hW0, kp _ _ s2, y2]
  obtain ⟨B1, hB1⟩ : ∃ B1, B1 = w.heap.size := ⟨_, rfl⟩
  obtain ⟨W, hW⟩ : ∃ W, W = (w.alloc (Obj.cells #[Value.int IntKind.i64 ra, Value.bool ca, Value.slice (some ⟨b1, o1, none⟩) (la.length + 1) cp] 47)).alloc (Obj.cells #[Value.int IntKind.i64 rb, Value.bool cb, Value.slice (some ⟨b2, o2, none⟩) (lb.length + 1) cq] 47) := ⟨_, rfl⟩
  have z1 := q1 (Obj.cells #[Value.int IntKind.i64 ra, Value.bool ca, Value.slice (some ⟨b1, o1, none⟩) (la.length + 1) cp] 47) (Obj.cells #[Value.int IntKind.i64 rb, Value.bool cb, Value.slice (some ⟨b2, o2, none⟩) (lb.length + 1) cq] 47)
  have z2 := q2 (Obj.cells #[Value.int IntKind.i64 ra, Value.bool ca, Value.slice (some ⟨b1, o1, none⟩) (la.length + 1) cp] 47) (Obj.cells #[Value.int IntKind.i64 rb, Value.bool cb, Value.slice (some ⟨b2, o2, none⟩) (lb.length + 1) cq] 47)
  have z3 := q3 (Obj.cells #[Value.int IntKind.i64 ra, Value.bool ca, Value.slice (some ⟨b1, o1, none⟩) (la.length + 1) cp] 47) (Obj.cells #[Value.int IntKind.i64 rb, Value.bool cb, Value.slice (some ⟨b2, o2, none⟩) (lb.length + 1) cq] 47)
  have z4 := q4 (Obj.cells #[Value.int IntKind.i64 ra, Value.bool ca, Value.slice (some ⟨b1, o1, none⟩) (la.length + 1) cp] 47) (Obj.cells #[Value.int IntKind.i64 rb, Value.bool cb, Value.slice (some ⟨b2, o2, none⟩) (lb.length + 1) cq] 47)
  have z5 : ((w.alloc (Obj.cells #[Value.int IntKind.i64 ra, Value.bool ca, Value.slice (some ⟨b1, o1, none⟩) (la.length + 1) cp] 47)).alloc (Obj.cells #[Value.int IntKind.i64 rb, Value.bool cb, Value.slice (some ⟨b2, o2, none⟩) (lb.length + 1) cq] 47)).cell? ⟨B1, 2, none⟩ = some (.slice (some ⟨b1, o1, none⟩) (la.length + 1) cp) := by rw [hB1, hW0]; simp [World.cell?, grow, Array.getElem?_append]
  have z6 : ((w.alloc (Obj.cells #[Value.int IntKind.i64 ra, Value.bool ca, Value.slice (some ⟨b1, o1, none⟩) (la.length + 1) cp] 47)).alloc (Obj.cells #[Value.int IntKind.i64 rb, Value.bool cb, Value.slice (some ⟨b2, o2, none⟩) (lb.length + 1) cq] 47)).cell? ⟨B1 + 1, 2, none⟩ = some (.slice (some ⟨b2, o2, none⟩) (lb.length + 1) cq) := by rw [hB1, hW0]; simp [World.cell?, grow, Array.getElem?_append]
  rw [hW0] at hW
  rw [hW0] at z1 z2 z3 z4 z5 z6 ⊢
  rw [← hW] at z1 z2 z3 z4 z5 z6 ⊢
  rw [← hB1]
  have hWh : Go.Abs.Hid (∃ p q, W = grow w #[p, q]) := ⟨_, _, hW⟩
  have hBh : Go.Abs.Hid (B1 = w.heap.size) := ⟨hB1⟩
  clear q1 q2 q3 q4 x1 x2 y1 y2 hW hB1 hW0 kp s1 s2
  have n1 := World.new_ne W _ z1
  have n2 := World.new_ne W _ z2
  have n3 := World.new_ne W _ z3
  have n4 := World.new_ne W _ z4
  have n5 := World.new_ne W _ z5
  have n6 := World.new_ne W _ z6
  go_region_held3 (fun w' => w'.cell? ⟨B1, 2, none⟩ = some (.slice (some ⟨b1, o1, none⟩) (la.length + 1) cp) ∧ w'.cell? ⟨B1 + 1, 2, none⟩ = some (.slice (some ⟨b2, o2, none⟩) (lb.length + 1) cq) ∧ w'.cell? ⟨b1, o1, none⟩ = some (.int .i64 ax) ∧ w'.cell? ⟨b1, o1 + 1, none⟩ = some (.int .i64 ay) ∧ w'.cell? ⟨b2, o2, none⟩ = some (.int .i64 bx) ∧ w'.cell? ⟨b2, o2 + 1, none⟩ = some (.int .i64 by')) (go_keep) (fail)
  all_goals go_wp2
  all_goals
    rename_i h
    go_ret
    obtain ⟨⟨p, q, rfl⟩⟩ := hWh
    refine ⟨?_, 1, _, by rw [alloc_eq_grow, alloc_eq_grow, grow_grow, grow_grow]; rfl⟩
    simp at h
    rw [cfY_rows]
    simp [h]
end Go.Proofs.YtknelhiejjdioaaGreat

set_option linter.unusedVariables false
set_option linter.unusedSimpArgs false
namespace Go.Proofs.YtknelhiejjdioaaGreat
open Go.Abs

/-! The sort of package region. -/
def cfD : List D → List D → Int
  | [.int _ ax, .int _ ay], [.int _ bx, .int _ by'] => orI (cmpI ay by') (cmpI ax bx)
  | _, _ => 0
theorem orI_lt (a b c d : Int) : orI (cmpI a b) (cmpI c d) < 0 ↔ a < b ∨ a = b ∧ c < d := by
  unfold orI cmpI
  split <;> (try split) <;> (try split) <;> (try split) <;> omega
theorem cfD_bef (a b : Cell) : cfD a.row b.row < 0 ↔ bef a b = true := by
  obtain ⟨ax, ay⟩ := a
  obtain ⟨bx, b'⟩ := b
  simp only [cfD, Cell.row, orI_lt, bef]
  simp
theorem cfD_ok : CmpOk Tryz.prog 89 VC cfD := by
  refine cmp_of_pc ?_
  rintro _ _ ⟨a, rfl, _⟩ ⟨b, rfl, _⟩
  have := ofCmp_ok a b
  exact this
theorem cfD_ord : CmpOrd VC cfD where
  irrefl := by rintro _ ⟨a, rfl, _⟩; rw [cfD_bef]; simp [bef]
  trans := by
    rintro _ _ _ ⟨a, rfl, _⟩ ⟨b, rfl, _⟩ ⟨c, rfl, _⟩
    rw [cfD_bef, cfD_bef, cfD_bef]
    simp [bef]; omega
  ntrans := by
    rintro _ _ _ ⟨a, rfl, _⟩ ⟨b, rfl, _⟩ ⟨c, rfl, _⟩
    rw [cfD_bef, cfD_bef, cfD_bef]
    simp [bef]; omega
theorem sortO_px (l : List Cell) (hon : ∀ c ∈ l, onG c = true) (hl : l.length ≤ 1000000) : PX Tryz.prog 46 [.hs 0 0 l.length, .d (.fn (.func 89) [])] [(0, ⟨49, 2, dr (l.map Cell.row)⟩)] [(0, 0)] [(0, ⟨49, 2, dr ((sortY l).map Cell.row)⟩)] (.tup []) := by
  have h := sortFunc_all (P := Tryz.prog) sortCell_lays (k := 2) (by decide) (fun w => by kernel_rfl) (fun w => by kernel_rfl) ⟨_, Tryz.func46, by kernel_rfl, by kernel_rfl⟩ (cg := 89) (fun args w => by kernel_rfl) cfD_ok cfD_ord 49 (rows := l.map Cell.row) (rows' := (sortY l).map Cell.row)
    (fun r hr => by obtain ⟨c, hc, rfl⟩ := List.mem_map.1 hr; exact ⟨c, rfl, hon c hc⟩)
    (fun a ha b hb h1 h2 => by
      obtain ⟨c, hc, rfl⟩ := List.mem_map.1 ha
      obtain ⟨d, hd, rfl⟩ := List.mem_map.1 hb
      rw [cfD_bef] at h1 h2
      have e : c = d := leY_anti (bef_leY (by simpa using h1)) (bef_leY (by simpa using h2))
      rw [e])
    ((sortY_perm l).map _) (by
      rw [List.pairwise_map]
      refine (sortY_le l).imp fun {a b} h => ?_
      rw [cfD_bef]
      simp [bef, leY] at *; omega) (by simp; omega)
  simp only [List.length_map] at h
  exact h

/-! The region of cells. -/
def ofTl : Option (Int × List Run) → List (List AV)
  | none => []
  | some (y, L) => [[.d (.int .i64 y), .hs 3 0 L.length]]
def ofRl : Option (Int × List Run) → List Run
  | none => []
  | some (_, L) => L
def ofX (P : List Row) : Option (Int × List Run) → List Row
  | none => P
  | some (y, L) => P ++ [⟨y, L⟩]

set_option maxHeartbeats 4000000 in
theorem of_ok (l : List Cell) (hl : l.length ≤ 1000000) : PC Tryz.prog 53 [encCells l] (.p (ofD l)) := by
  have hD : ofD l = .tup [.agg (regRow (ofR l)), .int .i64 (ofE l)] := rfl
  rw [hD]
  refine pc_of_awp cx (fn := Tryz.f53) (c := _) Tryz.func53 rfl rfl (Nat.le_of_ble_eq_true rfl) ?_
  rw [Tryz.ntmps53]; refine Nav.imp ?_
  refine awp_region cx [] fun K hK => ?_
  simp [push_cast]
  repeat (refine And.intro (by clear hK; intros; first | omega | (simp_all; done) | (simp_all <;> omega)) ?_)
  refine hK _ ?_; clear hK K; refine Nav.imp ?_
  refine awp_region cx [] fun K hK => ?_
  simp [push_cast]
  repeat (refine And.intro (by clear hK; intros; first | omega | (simp_all; done) | (simp_all <;> omega)) ?_)
  refine hK _ ?_; clear hK K; refine Nav.imp ?_
  refine awp_loop (β := Nat) (fun k => ⟨124, [(0, .d (encCells l)), (2, .ptr 0 0 0), (3, .d (.int .i64 0)), (13, .d (encCells l)), (14, .d (.int .i64 l.length)), (15, .d (.int .i64 k))], [(0, some ⟨24, 1, [[.nl]]⟩)], 1⟩) (fun k => k ≤ l.length ∧ ∀ c ∈ l.take k, onG c = true) (fun k => l.length - k) 0 ?_ ⟨Nat.zero_le _, by simp⟩ ?_
  · refine weak_of [(0, some 0)] rfl (by simp [upT, up, upL, push_cast]) (by simp [upH, upR, upL, up, push_cast]) (by simp [namesOk, push_cast]) (by simp [olds])
  · rintro k ⟨hk, hon⟩
    refine Nav.imp ?_
    refine awp_region cx [] fun K hK => ?_
    simp [push_cast]
    repeat (refine And.intro (by clear hK; intros; first | omega | (simp_all; done) | (simp_all <;> omega)) ?_)
    refine hK _ ?_; clear hK K; refine Nav.imp ?_
    refine awp_cond (b := decide ((k : Int) < l.length)) (by simp [push_cast]) (fun hb => ?_) (fun hb => ?_) <;> (refine Nav.imp ?_)
    · have hlt : k < l.length := by simpa using hb
      obtain ⟨c, hc⟩ := getq hlt
      have e0 := wrap_i64 (n := (k : Int) + 1) (by omega) (by omega)
      have c1 := ok_ok c.x
      have c2 := ok_ok c.y
      have hv : onG c = (okB c.x && okB c.y) := by simp [onG, okB, Bool.and_assoc]
      have hbad : onG c = false → ofR l = [] ∧ ofE l = 8 := fun h => by
        have hall : l.all onG = false := by
          rw [Bool.eq_false_iff]
          intro h'
          have := List.all_eq_true.1 h' c (List.mem_of_getElem? hc)
          rw [h] at this; cases this
        exact ⟨by simp [ofR, hall], by simp [ofE, hall]⟩
      obtain ⟨x, y⟩ := c
      simp only at c1 c2 hv
      generalize okB x = p at *
      generalize okB y = q at *
      refine awp_region cx [] fun K hK => ?_
      simp [push_cast, hc]
      repeat (refine And.intro (by clear hK; intros; first | omega | (simp_all; done) | (simp_all <;> omega)) ?_)
      refine hK _ ?_; clear hK K; refine Nav.imp ?_
      cases p with
      | false =>
        obtain ⟨h1, h2⟩ := hbad (by rw [hv]; rfl)
        rw [h1, h2]
        refine awp_region cx [(2, .p (.bool false)), (7, .skip)] fun K hK => ?_
        simp [push_cast, c1]
        repeat (refine And.intro (by clear hK; intros; first | omega | (simp_all; done) | (simp_all <;> omega)) ?_)
        refine hK _ ?_; clear hK K; refine Nav.imp ?_
        refine awp_cond (b := true) (by simp [push_cast]) (fun hb => ?_) (fun hb => ?_) <;> (refine Nav.imp ?_)
        · refine awp_region cx [] fun K hK => ?_
          simp [push_cast]
          repeat (refine And.intro (by clear hK; intros; first | omega | (simp_all; done) | (simp_all <;> omega)) ?_)
          refine hK _ ?_; clear hK K; refine Nav.imp ?_
          simp [push_cast]
        · simp at hb
      | true =>
        refine awp_region cx [(2, .p (.bool true)), (7, .p (.bool q))] fun K hK => ?_
        simp [push_cast, c1, c2]
        repeat (refine And.intro (by clear hK; intros; first | omega | (simp_all; done) | (simp_all <;> omega)) ?_)
        refine hK _ ?_; clear hK K; refine Nav.imp ?_
        refine awp_cond (b := !q) (by simp [push_cast]) (fun hb => ?_) (fun hb => ?_) <;> (refine Nav.imp ?_)
        · simp at hb
          obtain ⟨h1, h2⟩ := hbad (by rw [hv, hb]; rfl)
          rw [h1, h2]
          refine awp_region cx [] fun K hK => ?_
          simp [push_cast]
          repeat (refine And.intro (by clear hK; intros; first | omega | (simp_all; done) | (simp_all <;> omega)) ?_)
          refine hK _ ?_; clear hK K; refine Nav.imp ?_
          simp [push_cast]
        · simp at hb
          refine awp_region cx [] fun K hK => ?_
          simp [push_cast, e0]
          repeat (refine And.intro (by clear hK; intros; first | omega | (simp_all; done) | (simp_all <;> omega)) ?_)
          refine hK _ ?_; clear hK K; refine Nav.imp ?_
          refine ⟨k + 1, ⟨hlt, fun d hd => ?_⟩, by omega, ?_⟩
          · rw [take_get hc] at hd
            rcases List.mem_append.1 hd with hd | hd
            · exact hon d hd
            · simp at hd; subst hd; rw [hv, hb]; rfl
          · refine weak_of [(0, some 0)] rfl (by simp [upT, up, upL, push_cast]) (by simp [upH, upR, upL, up, push_cast]) (by simp [namesOk, push_cast]) (by simp [olds])
    · have hge : k = l.length := by simp at hb; omega
      subst hge
      rw [List.take_length] at hon
      have hall : l.all onG = true := List.all_eq_true.2 hon
      have h1 : ofR l = build (sortY l) := by simp [ofR, hall]
      have h2 : ofE l = 0 := by simp [ofE, hall]
      have c1 := clone_ok l hl
      have c2 := sortO_px l hon hl
      have hslen : (sortY l).length = l.length := (sortY_perm l).length_eq
      have hson : ∀ c ∈ sortY l, onG c = true := fun c hc => hon c ((sortY_perm l).mem_iff.1 hc)
      rw [h1, h2]
      clear h1 h2 hb hall
      generalize sortY l = s at *
      refine awp_region cx [(1, .o 49 2 (l.map Cell.row))] fun K hK => ?_
      simp [push_cast, c1]
      repeat (refine And.intro (by clear hK; intros; first | omega | (simp_all; done) | (simp_all <;> omega)) ?_)
      refine hK _ ?_; clear hK K; refine Nav.imp ?_
      refine awp_region cx [(1, .x ⟨[(0, 3)], [.hs 0 0 l.length, .d (.fn (.func 89) [])], [(0, ⟨49, 2, dr (l.map Cell.row)⟩)], [(0, 0)], none, [(0, ⟨49, 2, dr (s.map Cell.row)⟩)], .tup []⟩)] fun K hK => ?_
      simp [push_cast, c2]
      repeat (refine And.intro (by clear hK; intros; first | omega | (simp_all; done) | (simp_all <;> omega)) ?_)
      refine hK _ ?_; clear hK K; refine Nav.imp ?_
      rw [← hslen]
      have hsl : s.length ≤ 1000000 := by omega
      refine awp_freeze 3 (s.map Cell.row) rfl (by simp [push_cast]) fun K hK => ?_
      simp [push_cast, St.fz, fzT, fzH, fzO, fz, fzL, fzR, fzR_dr, fzR_app, fzR_set, fzL_map]
      refine hK _ ?_; clear hK K; refine Nav.imp ?_
      refine awp_region cx [] fun K hK => ?_
      simp [push_cast]
      repeat (refine And.intro (by clear hK; intros; first | omega | (simp_all; done) | (simp_all <;> omega)) ?_)
      refine hK _ ?_; clear hK K; refine Nav.imp ?_
      refine awp_region cx [] fun K hK => ?_
      simp [push_cast]
      repeat (refine And.intro (by clear hK; intros; first | omega | (simp_all; done) | (simp_all <;> omega)) ?_)
      refine hK _ ?_; clear hK K; refine Nav.imp ?_
      refine awp_loop (β := Nat × List Row × Option (Int × List Run)) (fun b => ⟨124, [(2, .ptr 0 0 0), (3, .d (.int .i64 0)), (7, .ptr 1 0 0), (35, .d (encCells s)), (36, .d (.int .i64 s.length)), (37, .d (.int .i64 b.1))], [(0, some ⟨24, 1, [[.nl]]⟩), (1, some ⟨24, 1, [[.hs 2 0 (b.2.1.length + (ofTl b.2.2).length)]]⟩), (2, some ⟨40, 2, dr (b.2.1.map Row.row) ++ ofTl b.2.2⟩), (3, some ⟨42, 2, dr ((ofRl b.2.2).map Run.row)⟩)], 4⟩)
        (fun b => b.1 ≤ s.length ∧ ofX b.2.1 b.2.2 = build (s.take b.1) ∧ (b.2.2 = none → b.2.1 = []) ∧ (∀ y L, b.2.2 = some (y, L) → L ≠ [])) (fun b => s.length - b.1) (0, [], none) ?_ ⟨Nat.zero_le _, by simp [ofX, build], fun _ => rfl, fun y L h => by cases h⟩ ?_
      · refine weak_of [(0, some 0), (1, some 7), (2, none), (3, none)] rfl (by simp [upT, up, upL, push_cast, ofTl, ofRl]) (by simp [upH, upR, upL, up, push_cast, ofTl, ofRl]) (by simp [namesOk, push_cast]) (by simp [olds])
      · rintro ⟨k, P, o⟩ ⟨hk, hX, hP0, hL0⟩
        simp only at hk hX hP0 hL0
        refine Nav.imp ?_
        refine awp_region cx [] fun K hK => ?_
        simp [push_cast, ofTl, ofRl]
        repeat (refine And.intro (by clear hK; intros; first | omega | (simp_all; done) | (simp_all <;> omega)) ?_)
        refine hK _ ?_; clear hK K; refine Nav.imp ?_
        refine awp_cond (b := decide ((k : Int) < s.length)) (by simp [push_cast]) (fun hb => ?_) (fun hb => ?_) <;> (refine Nav.imp ?_)
        · have hlt : k < s.length := by simpa using hb
          obtain ⟨c, hc⟩ := getq hlt
          have e0 := wrap_i64 (n := (k : Int) + 1) (by omega) (by omega)
          have hcg := onG_bd (hson c (List.mem_of_getElem? hc))
          have hnx : build (s.take (k + 1)) = addC (ofX P o) c := by rw [build_take hc, hX]
          have hsm := build_small (s.take k)
          rw [← hX] at hsm
          have hXl : (ofX P o).length ≤ 1000000 := by have := hsm.1; simp at this; omega
          have hXr : ∀ w ∈ ofX P o, w.runs.length ≤ 1000000 := fun w hw => by have := hsm.2 w hw; simp at this; omega
          clear hX hsm
          obtain ⟨x, y⟩ := c
          simp only at hcg
          have ex := wrap_i64 (n := x + 1) (by omega) (by omega)
          rcases o with _ | ⟨wy, L⟩
          · have hP := hP0 rfl
            subst hP
            simp only [ofX, addC_nil] at hnx
            refine awp_region cx [] fun K hK => ?_
            simp [push_cast, hc, ofTl, ofRl]
            repeat (refine And.intro (by clear hK; intros; first | omega | (simp_all; done) | (simp_all <;> omega)) ?_)
            refine hK _ ?_; clear hK K; refine Nav.imp ?_
            refine awp_region cx [] fun K hK => ?_
            simp [push_cast]
            repeat (refine And.intro (by clear hK; intros; first | omega | (simp_all; done) | (simp_all <;> omega)) ?_)
            refine hK _ ?_; clear hK K; refine Nav.imp ?_
            refine awp_region_draw cx mixed [] fun K hK => ?_
            simp [push_cast]
            repeat (refine And.intro (by clear hK; intros; first | omega | (simp_all; done) | (simp_all <;> omega)) ?_)
            refine hK _ _ (by kernel_rfl) ?_; clear hK K; refine Nav.imp ?_
            refine awp_cond (b := true) (by simp [push_cast]) (fun hb => ?_) (fun hb => ?_) <;> (refine Nav.imp ?_)
            · refine awp_region cx [] fun K hK => ?_
              simp [push_cast, ex]
              repeat (refine And.intro (by clear hK; intros; first | omega | (simp_all; done) | (simp_all <;> omega)) ?_)
              refine hK _ ?_; clear hK K; refine Nav.imp ?_
              refine awp_region cx [] fun K hK => ?_
              simp [push_cast, e0]
              repeat (refine And.intro (by clear hK; intros; first | omega | (simp_all; done) | (simp_all <;> omega)) ?_)
              refine hK _ ?_; clear hK K; refine Nav.imp ?_
              refine ⟨(k + 1, [], some (y, [⟨x, x + 1⟩])), ⟨hlt, hnx.symm, fun h => (by cases h), fun y L h => (by cases h; simp)⟩, by simp only; omega, ?_⟩
              refine weak_of [(0, some 0), (1, some 1), (2, some 40), (3, some 37)] rfl (by simp [upT, up, upL, push_cast, Row.row, Run.row, ofTl, ofRl]) (by simp [upH, upR, upL, up, push_cast, Row.row, Run.row, ofTl, ofRl]) (by simp [namesOk, push_cast]) (by simp [olds])
            · simp at hb
          · have hLne := hL0 wy L rfl
            simp only [ofX] at hnx hXl hXr
            rw [addC_end] at hnx
            have hLl := hXr ⟨wy, L⟩ (by simp)
            simp only at hnx hLl
            simp at hXl
            have hP32 : (P.length + 1 + 1) * 32 ≤ 140737488355328 := by omega
            have hL16 : (L.length + 1) * 16 ≤ 140737488355328 := by omega
            have hget : (dr (P.map Row.row) ++ [[AV.d (.int .i64 wy), AV.hs 3 0 L.length]])[P.length]? = some [AV.d (.int .i64 wy), AV.hs 3 0 L.length] := by
              rw [List.getElem?_append_right (by simp [dr])]; simp [dr]
            have hset : ∀ v, (dr (P.map Row.row) ++ [[AV.d (.int .i64 wy), AV.hs 3 0 L.length]]).set P.length v = dr (P.map Row.row) ++ [v] := fun v => by
              rw [List.set_append_right _ _ (by simp [dr])]; simp [dr]
            obtain ⟨A, hA⟩ : ∃ A, A = P ++ [(⟨wy, L⟩ : Row)] := ⟨_, rfl⟩
            have hfold : dr (P.map Row.row) ++ [[AV.d (.int .i64 wy), AV.d (.sl (L.map Run.row))]] = dr (A.map Row.row) := by rw [hA]; simp [dr, Row.row]
            have hAl : P.length + 1 = A.length := by rw [hA]; simp
            have e4 : ((P.length : Int) + 1 == 0) = false := by simp; omega
            have e6 := wrap_i64 (n := (P.length : Int)) (by omega) (by omega)
            refine awp_region cx [] fun K hK => ?_
            simp [push_cast, hc, ofTl, ofRl]
            repeat (refine And.intro (by clear hK; intros; first | omega | (simp_all; done) | (simp_all <;> omega)) ?_)
            refine hK _ ?_; clear hK K; refine Nav.imp ?_
            refine awp_region cx [] fun K hK => ?_
            simp [push_cast]
            repeat (refine And.intro (by clear hK; intros; first | omega | (simp_all; done) | (simp_all <;> omega)) ?_)
            refine hK _ ?_; clear hK K; refine Nav.imp ?_
            refine awp_region_draw cx mixed [] fun K hK => ?_
            simp [push_cast, hget, e4, e6]
            repeat (refine And.intro (by clear hK; intros; first | omega | (simp_all; done) | (simp_all <;> omega)) ?_)
            refine hK _ _ (by kernel_rfl) ?_; clear hK K; refine Nav.imp ?_
            refine awp_cond (b := wy != y) (by simp [push_cast, e4]) (fun hb => ?_) (fun hb => ?_) <;> (refine Nav.imp ?_)
            · have hb : ¬ wy = y := by simpa using hb
              rw [if_neg hb, ← hA] at hnx
              refine awp_freeze 3 (L.map Run.row) rfl (by simp [push_cast, hfold]) fun K hK => ?_
              simp [push_cast, St.fz, fzT, fzH, fzO, fz, fzL, fzR, fzR_dr, fzR_app, fzR_set, fzL_map, hfold]
              refine hK _ ?_; clear hK K; refine Nav.imp ?_
              rw [hAl] at hP32 ⊢
              clear hA hfold hget hset
              refine awp_region cx [] fun K hK => ?_
              simp [push_cast, ex, hP32]
              repeat (refine And.intro (by clear hK; intros; first | omega | (simp_all; done) | (simp_all <;> omega)) ?_)
              refine hK _ ?_; clear hK K; refine Nav.imp ?_
              refine awp_region cx [] fun K hK => ?_
              simp [push_cast, e0]
              repeat (refine And.intro (by clear hK; intros; first | omega | (simp_all; done) | (simp_all <;> omega)) ?_)
              refine hK _ ?_; clear hK K; refine Nav.imp ?_
              refine ⟨(k + 1, A, some (y, [⟨x, x + 1⟩])), ⟨hlt, hnx.symm, fun h => (by cases h), fun y L h => (by cases h; simp)⟩, by simp only; omega, ?_⟩
              refine weak_of [(0, some 0), (1, some 1), (2, some 40), (3, some 37)] rfl (by simp [upT, up, upL, push_cast, Row.row, Run.row, ofTl, ofRl]) (by simp [upH, upR, upL, up, push_cast, Row.row, Run.row, ofTl, ofRl]) (by simp [namesOk, push_cast]) (by simp [olds])
            · have hb : wy = y := by simpa using hb
              subst hb
              rw [if_pos rfl] at hnx
              obtain ⟨L', r, rfl⟩ : ∃ L' r, L = L' ++ [r] := by
                rcases List.eq_nil_or_concat L with e | ⟨L', r, e⟩
                · exact absurd e hLne
                · exact ⟨L', r, by rw [e, List.concat_eq_append]⟩
              have hadd := addRun_end L' r x
              obtain ⟨ra, rb⟩ := r
              simp only at hadd
              have hz : (L' ++ [(⟨ra, rb⟩ : Run)])[L'.length]? = some ⟨ra, rb⟩ := by simp
              have hlen : (L' ++ [(⟨ra, rb⟩ : Run)]).length = L'.length + 1 := by simp
              have hset2 : ∀ m : Int, (dr ((L' ++ [(⟨ra, rb⟩ : Run)]).map Run.row)).set L'.length [AV.d (.int .i64 ra), AV.d (.int .i64 m)] = dr ((L' ++ [(⟨ra, m⟩ : Run)]).map Run.row) := fun m => by
                simp [dr, Run.row]
              have hlen2 : ∀ m : Int, (L' ++ [(⟨ra, m⟩ : Run)]).length = (L' ++ [(⟨ra, rb⟩ : Run)]).length := fun m => by simp
              generalize hB : L' ++ [(⟨ra, rb⟩ : Run)] = B at *
              have e7 := wrap_i64 (n := (B.length : Int) - 1) (by omega) (by omega)
              have e8 : ((B.length : Int) - 1).toNat = L'.length := by omega
              have e9 : (0 : Int) ≤ (B.length : Int) - 1 := by omega
              refine awp_region cx [] fun K hK => ?_
              simp [push_cast, hget, e6]
              repeat (refine And.intro (by clear hK; intros; first | omega | (simp_all; done) | (simp_all <;> omega)) ?_)
              refine hK _ ?_; clear hK K; refine Nav.imp ?_
              refine awp_region_draw cx mixed [] fun K hK => ?_
              simp [push_cast, hget, hz, e7, e8, e9]
              repeat (refine And.intro (by clear hK; intros; first | omega | (simp_all; done) | (simp_all <;> omega)) ?_)
              refine hK _ _ (by kernel_rfl) ?_; clear hK K; refine Nav.imp ?_
              refine awp_region_draw cx mixed [] fun K hK => ?_
              simp [push_cast, hget, hz, Run.row]
              repeat (refine And.intro (by clear hK; intros; first | omega | (simp_all; done) | (simp_all <;> omega)) ?_)
              refine hK _ _ (by kernel_rfl) ?_; clear hK K; refine Nav.imp ?_
              refine awp_cond (b := decide (rb < x)) (by simp [push_cast]) (fun hb => ?_) (fun hb => ?_) <;> (refine Nav.imp ?_)
              · have hb : rb < x := by simpa using hb
                rw [if_pos hb] at hadd
                rw [hadd] at hnx
                refine awp_region_draw cx mixed [] fun K hK => ?_
                simp [push_cast, hget, ex, hL16, hset]
                repeat (refine And.intro (by clear hK; intros; first | omega | (simp_all; done) | (simp_all <;> omega)) ?_)
                refine hK _ _ (by kernel_rfl) ?_; clear hK K; refine Nav.imp ?_
                refine awp_region cx [] fun K hK => ?_
                simp [push_cast, e0]
                repeat (refine And.intro (by clear hK; intros; first | omega | (simp_all; done) | (simp_all <;> omega)) ?_)
                refine hK _ ?_; clear hK K; refine Nav.imp ?_
                refine ⟨(k + 1, P, some (wy, B ++ [(⟨x, x + 1⟩ : Run)])), ⟨hlt, hnx.symm, fun h => (by cases h), fun y L h => (by cases h; simp)⟩, by simp only; omega, ?_⟩
                refine weak_of [(0, some 0), (1, some 1), (2, some 2), (3, some 64)] rfl (by simp [upT, up, upL, push_cast, Row.row, Run.row, ofTl, ofRl]) (by simp [upH, upR, upL, up, push_cast, Row.row, Run.row, ofTl, ofRl]) (by simp [namesOk, push_cast]) (by simp [olds])
              · have hb : ¬ rb < x := by simpa using hb
                rw [if_neg hb] at hadd
                rw [hadd] at hnx
                have hne2 : L' ++ [(⟨ra, max rb (x + 1)⟩ : Run)] ≠ [] := by simp
                have hset2 := hset2 (max rb (x + 1))
                have hlen2 := hlen2 (max rb (x + 1))
                generalize L' ++ [(⟨ra, max rb (x + 1)⟩ : Run)] = C at *
                refine awp_region_draw cx mixed [] fun K hK => ?_
                simp [push_cast, hget, hz, ex, hset2, Run.row]
                repeat (refine And.intro (by clear hK; intros; first | omega | (simp_all; done) | (simp_all <;> omega)) ?_)
                refine hK _ _ (by kernel_rfl) ?_; clear hK K; refine Nav.imp ?_
                refine awp_region cx [] fun K hK => ?_
                simp [push_cast, e0]
                repeat (refine And.intro (by clear hK; intros; first | omega | (simp_all; done) | (simp_all <;> omega)) ?_)
                refine hK _ ?_; clear hK K; refine Nav.imp ?_
                rw [← hlen2]
                refine ⟨(k + 1, P, some (wy, C)), ⟨hlt, hnx.symm, fun h => (by cases h), fun y L h => (by cases h; exact hne2)⟩, by simp only; omega, ?_⟩
                refine weak_of [(0, some 0), (1, some 1), (2, some 2), (3, some 3)] rfl (by simp [upT, up, upL, push_cast, Row.row, Run.row, ofTl, ofRl]) (by simp [upH, upR, upL, up, push_cast, Row.row, Run.row, ofTl, ofRl]) (by simp [namesOk, push_cast]) (by simp [olds])
        · have hge : k = s.length := by simp at hb; omega
          subst hge
          rw [List.take_length] at hX
          rw [← hX]
          rcases o with _ | ⟨wy, L⟩
          · have hP := hP0 rfl
            subst hP
            simp only [ofX, ofTl, ofRl]
            refine awp_freeze 2 ([] : List (List D)) rfl (by simp [push_cast]) fun K hK => ?_
            simp [push_cast, St.fz, fzT, fzH, fzO, fz, fzL, fzR, fzR_dr, fzR_app, fzR_set, fzL_map]
            refine hK _ ?_; clear hK K; refine Nav.imp ?_
            refine awp_region cx [] fun K hK => ?_
            simp [push_cast]
            repeat (refine And.intro (by clear hK; intros; first | omega | (simp_all; done) | (simp_all <;> omega)) ?_)
            refine hK _ ?_; clear hK K; refine Nav.imp ?_
            simp [push_cast]
          · simp only [ofX, ofTl, ofRl]
            obtain ⟨A, hA⟩ : ∃ A, A = P ++ [(⟨wy, L⟩ : Row)] := ⟨_, rfl⟩
            have hfold : dr (P.map Row.row) ++ [[AV.d (.int .i64 wy), AV.d (.sl (L.map Run.row))]] = dr (A.map Row.row) := by rw [hA]; simp [dr, Row.row]
            have hAl : P.length + 1 = A.length := by rw [hA]; simp
            rw [← hA]
            refine awp_freeze 3 (L.map Run.row) rfl (by simp [push_cast, hfold]) fun K hK => ?_
            simp [push_cast, St.fz, fzT, fzH, fzO, fz, fzL, fzR, fzR_dr, fzR_app, fzR_set, fzL_map, hfold]
            refine hK _ ?_; clear hK K; refine Nav.imp ?_
            rw [hAl]
            clear hA hfold
            refine awp_freeze 2 (A.map Row.row) rfl (by simp [push_cast, Row.row]) fun K hK => ?_
            simp [push_cast, St.fz, fzT, fzH, fzO, fz, fzL, fzR, fzR_dr, fzR_app, fzR_set, fzL_map, Row.row]
            refine hK _ ?_; clear hK K; refine Nav.imp ?_
            refine awp_region cx [] fun K hK => ?_
            simp [push_cast]
            repeat (refine And.intro (by clear hK; intros; first | omega | (simp_all; done) | (simp_all <;> omega)) ?_)
            refine hK _ ?_; clear hK K; refine Nav.imp ?_
            simp [push_cast]
end Go.Proofs.YtknelhiejjdioaaGreat

set_option linter.unusedVariables false
set_option linter.unusedSimpArgs false
set_option maxRecDepth 100000
namespace Go.Proofs.YtknelhiejjdioaaGreat
open Go.Abs

theorem set_step {l Z : List Cell} {k : Nat} {c d : Cell} (hZ : Z = (l.take k).map xc ++ l.drop k) (hc : l[k]? = some c) (hd : d = xc c) : Z[k]? = some c ∧ Z.set k d = (l.take (k + 1)).map xc ++ l.drop (k + 1) := by
  have hk : k < l.length := (List.getElem?_eq_some_iff.1 hc).1
  have hlen : ((l.take k).map xc).length = k := by rw [List.length_map, List.length_take]; omega
  have hdr := drop_get hc
  subst hZ hd
  constructor
  · rw [List.getElem?_append_right (by omega), hlen, Nat.sub_self, hdr]; rfl
  · rw [List.set_append_right _ _ (by omega), hlen, Nat.sub_self, hdr, take_get hc, List.map_append, List.append_assoc]; rfl

set_option maxHeartbeats 4000000 in
theorem turned_ok (R : List Row) (hv : validR R = true) (hn : (regCells R).length ≤ 1000000) : PC Tryz.prog 52 [.agg (regRow R)] (.p (.agg (regRow (turnR R)))) := by
  have c1 := cells_own R (small_valid hv) fun _ => hn
  rw [show cellsOf R = regCells R from by unfold cellsOf; rw [if_pos hv]] at c1
  have c2 := of_ok ((regCells R).map xc) (by rw [List.length_map]; exact hn)
  rw [show ofD ((regCells R).map xc) = .tup [.agg (regRow (turnR R)), .int .i64 (ofE ((regCells R).map xc))] from rfl, turn_err hv] at c2
  generalize turnR R = W at *
  generalize regCells R = l at *
  refine pc_of_awp cx (fn := Tryz.f52) (c := _) Tryz.func52 rfl rfl (Nat.le_of_ble_eq_true rfl) ?_
  rw [Tryz.ntmps52]; refine Nav.imp ?_
  refine awp_region cx [] fun K hK => ?_
  simp [push_cast]
  repeat (refine And.intro (by clear hK; intros; first | omega | (simp_all; done) | (simp_all <;> omega)) ?_)
  refine hK _ ?_; clear hK K; refine Nav.imp ?_
  refine awp_region cx [(1, .o 49 2 (l.map Cell.row))] fun K hK => ?_
  simp [push_cast, c1]
  repeat (refine And.intro (by clear hK; intros; first | omega | (simp_all; done) | (simp_all <;> omega)) ?_)
  refine hK _ ?_; clear hK K; refine Nav.imp ?_
  refine awp_region cx [] fun K hK => ?_
  simp [push_cast]
  repeat (refine And.intro (by clear hK; intros; first | omega | (simp_all; done) | (simp_all <;> omega)) ?_)
  refine hK _ ?_; clear hK K; refine Nav.imp ?_
  refine awp_loop (β := Nat × List Cell) (fun s => ⟨32, [(2, .ptr 1 0 0), (3, .hs 0 0 s.2.length), (10, .hs 0 0 s.2.length), (11, .d (.int .i64 s.2.length)), (12, .d (.int .i64 s.1))], [(0, some ⟨49, 2, dr (s.2.map Cell.row)⟩), (1, some ⟨24, 1, [[.nl]]⟩)], 2⟩) (fun s => s.1 ≤ l.length ∧ s.2 = (l.take s.1).map xc ++ l.drop s.1) (fun s => l.length - s.1) (0, l) ?_ ⟨Nat.zero_le _, by simp⟩ ?_
  · refine weak_of [(0, some 3), (1, some 1)] rfl (by simp [upT, up, upL, push_cast]) (by simp [upH, upR, upL, up, push_cast]) (by simp [namesOk, push_cast]) (by simp [olds])
  · rintro ⟨k, Z⟩ ⟨hk, hZ⟩
    simp only at hk hZ
    have hZl : Z.length = l.length := by rw [hZ]; simp; omega
    refine Nav.imp ?_
    refine awp_region cx [] fun K hK => ?_
    simp [push_cast]
    repeat (refine And.intro (by clear hK; intros; first | omega | (simp_all; done) | (simp_all <;> omega)) ?_)
    refine hK _ ?_; clear hK K; refine Nav.imp ?_
    refine awp_cond (b := decide ((k : Int) < Z.length)) (by simp [push_cast]) (fun hb => ?_) (fun hb => ?_) <;> (refine Nav.imp ?_)
    · have hlt : k < l.length := by have : k < Z.length := by simpa using hb
                                    omega
      obtain ⟨c, hc⟩ := getq hlt
      have e0 := wrap_i64 (n := (k : Int) + 1) (by omega) (by omega)
      obtain ⟨x, y⟩ := c
      obtain ⟨hz, hs⟩ := set_step hZ hc rfl
      have hkZ : k < Z.length := by omega
      have hset : (dr (Z.map Cell.row)).set k [AV.d (.int .i64 y), AV.d (.int .i64 x)] = dr ((Z.set k (xc ⟨x, y⟩)).map Cell.row) := by
        rw [List.map_set, dr_set]; rfl
      have hsl : (Z.set k (xc ⟨x, y⟩)).length = Z.length := List.length_set ..
      generalize Z.set k (xc ⟨x, y⟩) = Z2 at *
      refine awp_region cx [] fun K hK => ?_
      simp [push_cast, hz, Cell.row]
      repeat (refine And.intro (by clear hK; intros; first | omega | (simp_all; done) | (simp_all <;> omega)) ?_)
      refine hK _ ?_; clear hK K; refine Nav.imp ?_
      refine awp_region cx [] fun K hK => ?_
      simp [push_cast, hz, Cell.row, hset]
      repeat (refine And.intro (by clear hK; intros; first | omega | (simp_all; done) | (simp_all <;> omega)) ?_)
      refine hK _ ?_; clear hK K; refine Nav.imp ?_
      refine awp_region cx [] fun K hK => ?_
      simp [push_cast, e0]
      repeat (refine And.intro (by clear hK; intros; first | omega | (simp_all; done) | (simp_all <;> omega)) ?_)
      refine hK _ ?_; clear hK K; refine Nav.imp ?_
      rw [← hsl]
      refine ⟨(k + 1, Z2), ⟨hlt, hs⟩, by simp only; omega, ?_⟩
      refine weak_of [(0, some 0), (1, some 1)] rfl (by simp [upT, up, upL, push_cast]) (by simp [upH, upR, upL, up, push_cast]) (by simp [namesOk, push_cast]) (by simp [olds])
    · have hke : k = l.length := by simp at hb; omega
      subst hke
      rw [List.take_length, List.drop_length, List.append_nil] at hZ
      subst hZ
      generalize l.map xc = m at *
      have ht : List.take m.length (m.map Cell.row) = m.map Cell.row := List.take_of_length_le (by simp)
      refine awp_freeze 0 (m.map Cell.row) rfl (by simp [push_cast]) fun K hK => ?_
      simp [push_cast, St.fz, fzT, fzH, fzO, fz, fzL, fzR, fzR_dr, fzR_app, fzR_set, fzL_map]
      refine hK _ ?_; clear hK K; refine Nav.imp ?_
      refine awp_region cx [(1, .p (.tup [.agg (regRow W), .int .i64 0]))] fun K hK => ?_
      simp [push_cast, c2]
      repeat (refine And.intro (by clear hK; intros; first | omega | (simp_all; done) | (simp_all <;> omega)) ?_)
      refine hK _ ?_; clear hK K; refine Nav.imp ?_
      refine awp_region cx [] fun K hK => ?_
      simp [push_cast]
      repeat (refine And.intro (by clear hK; intros; first | omega | (simp_all; done) | (simp_all <;> omega)) ?_)
      refine hK _ ?_; clear hK K; refine Nav.imp ?_
      simp [push_cast]
end Go.Proofs.YtknelhiejjdioaaGreat

set_option linter.unusedVariables false
set_option linter.unusedSimpArgs false
namespace Go.Proofs.YtknelhiejjdioaaGreat
open Go.Abs

/-! The search for a row. -/
def LbAt (R : List Row) (y : Int) (i : Nat) : Prop := i ≤ R.length ∧ (∀ j w, R[j]? = some w → (j < i ↔ w.y < y))
theorem lb_exists : ∀ {R : List Row}, (R.Pairwise fun a b => a.y < b.y) → ∀ y, ∃ i, LbAt R y i
  | [], _, y => ⟨0, by simp, fun j w h => by simp at h⟩
  | w :: R, h, y => by
    have h1 := List.pairwise_cons.1 h
    by_cases e : w.y < y
    · obtain ⟨i, hi, hp⟩ := lb_exists h1.2 y
      refine ⟨i + 1, by simp; exact hi, fun j v hv => ?_⟩
      cases j with
      | zero => simp at hv; subst hv; simp [e]
      | succ j => simp at hv; have := hp j v hv; omega
    · refine ⟨0, by simp, fun j v hv => ?_⟩
      cases j with
      | zero => simp at hv; subst hv; simp; omega
      | succ j => simp at hv; have := h1.1 v (List.mem_of_getElem? hv); omega

theorem rowcmp_ok (w : Row) (y : Int) : PC Tryz.prog 103 [.agg w.row, .int .i64 y] (.p (.int .i64 (cmpI w.y y))) := by
  have c1 := compare_ok w.y y
  obtain ⟨wy, wr⟩ := w
  simp only at c1
  generalize cmpI wy y = z at *
  refine pc_of_awp cx (fn := Tryz.f103) (c := _) Tryz.func103 rfl rfl (Nat.le_of_ble_eq_true rfl) ?_
  rw [Tryz.ntmps103]; refine Nav.imp ?_
  refine awp_region cx [] fun K hK => ?_
  simp [push_cast, Row.row]
  repeat (refine And.intro (by clear hK; intros; first | omega | (simp_all; done) | (simp_all <;> omega)) ?_)
  refine hK _ ?_; clear hK K; refine Nav.imp ?_
  refine awp_region cx [(3, .p (.int .i64 z))] fun K hK => ?_
  simp [push_cast, c1, Row.row]
  repeat (refine And.intro (by clear hK; intros; first | omega | (simp_all; done) | (simp_all <;> omega)) ?_)
  refine hK _ ?_; clear hK K; refine Nav.imp ?_
  simp [push_cast]

theorem cmpI_lt {a b : Int} : (cmpI a b < 0) ↔ a < b := by unfold cmpI; split <;> (try split) <;> omega
theorem cmpI_eq {a b : Int} : (cmpI a b = 0) ↔ a = b := by unfold cmpI; split <;> (try split) <;> omega

set_option maxHeartbeats 1000000 in
theorem bsearch_ok (R : List Row) (y : Int) (i : Nat) (hl : R.length ≤ 1000000) (hi : LbAt R y i) : PC Tryz.prog 102 [encRows R, .int .i64 y, .fn (.func 103) []] (.p (.tup [.int .i64 i, .bool (match R[i]? with | some w => decide (w.y = y) | none => false)])) := by
  obtain ⟨hil, hip⟩ := hi
  refine pc_of_awp cx (fn := Tryz.f102) (c := _) Tryz.func102 rfl rfl (Nat.le_of_ble_eq_true rfl) ?_
  rw [Tryz.ntmps102]; refine Nav.imp ?_
  refine awp_region cx [] fun K hK => ?_
  simp [push_cast]
  repeat (refine And.intro (by clear hK; intros; first | omega | (simp_all; done) | (simp_all <;> omega)) ?_)
  refine hK _ ?_; clear hK K; refine Nav.imp ?_
  refine awp_region cx [] fun K hK => ?_
  simp [push_cast]
  repeat (refine And.intro (by clear hK; intros; first | omega | (simp_all; done) | (simp_all <;> omega)) ?_)
  refine hK _ ?_; clear hK K; refine Nav.imp ?_
  refine awp_region cx [] fun K hK => ?_
  simp [push_cast]
  repeat (refine And.intro (by clear hK; intros; first | omega | (simp_all; done) | (simp_all <;> omega)) ?_)
  refine hK _ ?_; clear hK K; refine Nav.imp ?_
  refine awp_loop (β := Nat × Nat) (fun b => ⟨49, [(0, .d (encRows R)), (1, .d (.int .i64 y)), (2, .d (.fn (.func 103) [])), (8, .d (.int .i64 R.length)), (9, .d (.int .i64 b.1)), (10, .d (.int .i64 b.2))], [], 0⟩) (fun b => b.1 ≤ i ∧ i ≤ b.2 ∧ b.2 ≤ R.length) (fun b => b.2 - b.1) (0, R.length) ?_ ⟨Nat.zero_le _, hil, Nat.le_refl _⟩ ?_
  · refine weak_of [] rfl (by simp [upT, up, upL, push_cast]) (by simp [upH, upR, upL, up, push_cast]) (by simp [namesOk, push_cast]) (by simp [olds])
  · rintro ⟨lo, hi⟩ ⟨h1, h2, h3⟩
    simp only at h1 h2 h3
    refine Nav.imp ?_
    refine awp_region cx [] fun K hK => ?_
    simp [push_cast]
    repeat (refine And.intro (by clear hK; intros; first | omega | (simp_all; done) | (simp_all <;> omega)) ?_)
    refine hK _ ?_; clear hK K; refine Nav.imp ?_
    refine awp_cond (b := decide (lo < hi)) (by simp [push_cast]) (fun hb => ?_) (fun hb => ?_) <;> (refine Nav.imp ?_)
    · have hlh : lo < hi := by simpa using hb
      have e1 := wrap_i64 (n := (lo : Int) + hi) (by omega) (by omega)
      have e2 : IntKind.u64.wrap ((lo : Int) + hi) = (lo : Int) + hi := by rw [IntKind.wrap_u64]; omega
      obtain ⟨h, hh⟩ : ∃ h : Nat, h = (lo + hi) / 2 := ⟨_, rfl⟩
      have e3 : ((lo : Int) + hi).fdiv (2 ^ min 1 IntKind.u64.bits) = h := by
        have : (2 : Int) ^ min 1 IntKind.u64.bits = 2 := by decide
        rw [this, Int.fdiv_eq_ediv_of_nonneg _ (by omega)]; omega
      have e4 := wrap_i64 (n := (h : Int)) (by omega) (by omega)
      have hhl : h < R.length := by omega
      obtain ⟨w, hw⟩ := getq hhl
      have hip' := hip h w hw
      have c1 := rowcmp_ok w y
      have hz : (decide (cmpI w.y y < 0)) = decide (w.y < y) := by rw [Bool.eq_iff_iff]; simp [cmpI_lt]
      have e5 := wrap_i64 (n := (h : Int) + 1) (by omega) (by omega)
      generalize cmpI w.y y = z at *
      refine awp_region cx [] fun K hK => ?_
      simp [push_cast, e1, e2, e3, e4]
      repeat (refine And.intro (by clear hK; intros; first | omega | (simp_all; done) | (simp_all <;> omega)) ?_)
      refine hK _ ?_; clear hK K; refine Nav.imp ?_
      refine awp_region cx [(6, .p (.int .i64 z))] fun K hK => ?_
      simp [push_cast, hw, c1, hz]
      repeat (refine And.intro (by clear hK; intros; first | omega | (simp_all; done) | (simp_all <;> omega)) ?_)
      refine hK _ ?_; clear hK K; refine Nav.imp ?_
      refine awp_cond (b := decide (w.y < y)) (by simp [push_cast]) (fun hb => ?_) (fun hb => ?_) <;> (refine Nav.imp ?_)
      · have hb : w.y < y := by simpa using hb
        refine awp_region cx [] fun K hK => ?_
        simp [push_cast, e5]
        repeat (refine And.intro (by clear hK; intros; first | omega | (simp_all; done) | (simp_all <;> omega)) ?_)
        refine hK _ ?_; clear hK K; refine Nav.imp ?_
        refine ⟨(h + 1, hi), ⟨by simp only; omega, h2, h3⟩, by simp only; omega, ?_⟩
        refine weak_of [] rfl (by simp [upT, up, upL, push_cast]) (by simp [upH, upR, upL, up, push_cast]) (by simp [namesOk, push_cast]) (by simp [olds])
      · have hb : ¬ w.y < y := by simpa using hb
        refine awp_region cx [] fun K hK => ?_
        simp [push_cast]
        repeat (refine And.intro (by clear hK; intros; first | omega | (simp_all; done) | (simp_all <;> omega)) ?_)
        refine hK _ ?_; clear hK K; refine Nav.imp ?_
        refine ⟨(lo, h), ⟨h1, by simp only; omega, by simp only; omega⟩, by simp only; omega, ?_⟩
        refine weak_of [] rfl (by simp [upT, up, upL, push_cast]) (by simp [upH, upR, upL, up, push_cast]) (by simp [namesOk, push_cast]) (by simp [olds])
    · have hlh : ¬ lo < hi := by simpa using hb
      have : lo = i := by omega
      subst this
      cases hw : R[lo]? with
      | none =>
        have hge : ¬ lo < R.length := fun h => by rw [List.getElem?_eq_getElem h] at hw; cases hw
        have hge' : ¬ (lo : Int) < R.length := by omega
        refine awp_region cx [(11, .skip)] fun K hK => ?_
        simp [push_cast, hw, hge, hge']
        repeat (refine And.intro (by clear hK; intros; first | omega | (simp_all; done) | (simp_all <;> omega)) ?_)
        refine hK _ ?_; clear hK K; refine Nav.imp ?_
        simp [push_cast, hw]
      | some w =>
        have hlt := (List.getElem?_eq_some_iff.1 hw).1
        have hlt' : (lo : Int) < R.length := by omega
        have c1 := rowcmp_ok w y
        have hz : (cmpI w.y y == 0) = decide (w.y = y) := by rw [Bool.eq_iff_iff]; simp [cmpI_eq]
        generalize cmpI w.y y = z at *
        refine awp_region cx [(11, .p (.int .i64 z))] fun K hK => ?_
        simp [push_cast, hw, c1, hlt', Row.row, hz]
        repeat (refine And.intro (by clear hK; intros; first | omega | (simp_all; done) | (simp_all <;> omega)) ?_)
        refine hK _ ?_; clear hK K; refine Nav.imp ?_
        simp [push_cast, hlt, hz]

theorem row_ok (R : List Row) (y : Int) (hR : smallR R) (hv : validR R = true) : PC Tryz.prog 72 [.agg (regRow R), .int .i64 y] (.p (encRuns (rowOf R y))) := by
  obtain ⟨i, hi⟩ := lb_exists (rows_pw hv) y
  have c1 := bsearch_ok R y i hR.1 hi
  have hl := hR.1
  cases hw : R[i]? with
  | none =>
    rw [hw] at c1
    simp only at c1
    have hn : rowOf R y = [] := by
      refine rowOf_none fun w hwm hy => ?_
      obtain ⟨j, hj⟩ := List.mem_iff_getElem?.1 hwm
      have h1 := (List.getElem?_eq_some_iff.1 hj).1
      have h2 : ¬ i < R.length := fun h => by rw [List.getElem?_eq_getElem h] at hw; cases hw
      have := (hi.2 j w hj).1 (by omega)
      omega
    rw [hn]
    refine pc_of_awp cx (fn := Tryz.f72) (c := _) Tryz.func72 rfl rfl (Nat.le_of_ble_eq_true rfl) ?_
    rw [Tryz.ntmps72]; refine Nav.imp ?_
    refine awp_region cx [] fun K hK => ?_
    simp [push_cast]
    repeat (refine And.intro (by clear hK; intros; first | omega | (simp_all; done) | (simp_all <;> omega)) ?_)
    refine hK _ ?_; clear hK K; refine Nav.imp ?_
    refine awp_region cx [(3, .p (.tup [.int .i64 i, .bool false]))] fun K hK => ?_
    simp [push_cast, c1]
    repeat (refine And.intro (by clear hK; intros; first | omega | (simp_all; done) | (simp_all <;> omega)) ?_)
    refine hK _ ?_; clear hK K; refine Nav.imp ?_
    refine awp_region cx [] fun K hK => ?_
    simp [push_cast]
    repeat (refine And.intro (by clear hK; intros; first | omega | (simp_all; done) | (simp_all <;> omega)) ?_)
    refine hK _ ?_; clear hK K; refine Nav.imp ?_
    refine awp_cond (b := true) (by simp [push_cast]) (fun hb => ?_) (fun hb => ?_) <;> (refine Nav.imp ?_)
    · refine awp_region cx [] fun K hK => ?_
      simp [push_cast]
      repeat (refine And.intro (by clear hK; intros; first | omega | (simp_all; done) | (simp_all <;> omega)) ?_)
      refine hK _ ?_; clear hK K; refine Nav.imp ?_
      simp [push_cast]
    · simp at hb
  | some w =>
    rw [hw] at c1
    simp only at c1
    have hwm := List.mem_of_getElem? hw
    by_cases e : w.y = y
    · rw [decide_eq_true e] at c1
      have hn : rowOf R y = w.runs := by rw [← e]; exact rowOf_mem hv hwm
      rw [hn]
      obtain ⟨wy, wr⟩ := w
      refine pc_of_awp cx (fn := Tryz.f72) (c := _) Tryz.func72 rfl rfl (Nat.le_of_ble_eq_true rfl) ?_
      rw [Tryz.ntmps72]; refine Nav.imp ?_
      refine awp_region cx [] fun K hK => ?_
      simp [push_cast]
      repeat (refine And.intro (by clear hK; intros; first | omega | (simp_all; done) | (simp_all <;> omega)) ?_)
      refine hK _ ?_; clear hK K; refine Nav.imp ?_
      refine awp_region cx [(3, .p (.tup [.int .i64 i, .bool true]))] fun K hK => ?_
      simp [push_cast, c1]
      repeat (refine And.intro (by clear hK; intros; first | omega | (simp_all; done) | (simp_all <;> omega)) ?_)
      refine hK _ ?_; clear hK K; refine Nav.imp ?_
      refine awp_region cx [] fun K hK => ?_
      simp [push_cast]
      repeat (refine And.intro (by clear hK; intros; first | omega | (simp_all; done) | (simp_all <;> omega)) ?_)
      refine hK _ ?_; clear hK K; refine Nav.imp ?_
      refine awp_cond (b := false) (by simp [push_cast]) (fun hb => ?_) (fun hb => ?_) <;> (refine Nav.imp ?_)
      · simp at hb
      · refine awp_region cx [] fun K hK => ?_
        simp [push_cast, hw, Row.row]
        repeat (refine And.intro (by clear hK; intros; first | omega | (simp_all; done) | (simp_all <;> omega)) ?_)
        refine hK _ ?_; clear hK K; refine Nav.imp ?_
        simp [push_cast]
    · rw [decide_eq_false e] at c1
      have hn : rowOf R y = [] := by
        refine rowOf_none fun v hvm hy => ?_
        obtain ⟨j, hj⟩ := List.mem_iff_getElem?.1 hvm
        have h1 := hi.2 j v hj
        have h2 := hi.2 i w hw
        rcases Nat.lt_trichotomy j i with h | h | h
        · have := h1.1 h; omega
        · subst h; rw [hw] at hj; cases hj; exact e hy
        · have := rows_lt hv j i v w h hj hw; omega
      rw [hn]
      refine pc_of_awp cx (fn := Tryz.f72) (c := _) Tryz.func72 rfl rfl (Nat.le_of_ble_eq_true rfl) ?_
      rw [Tryz.ntmps72]; refine Nav.imp ?_
      refine awp_region cx [] fun K hK => ?_
      simp [push_cast]
      repeat (refine And.intro (by clear hK; intros; first | omega | (simp_all; done) | (simp_all <;> omega)) ?_)
      refine hK _ ?_; clear hK K; refine Nav.imp ?_
      refine awp_region cx [(3, .p (.tup [.int .i64 i, .bool false]))] fun K hK => ?_
      simp [push_cast, c1]
      repeat (refine And.intro (by clear hK; intros; first | omega | (simp_all; done) | (simp_all <;> omega)) ?_)
      refine hK _ ?_; clear hK K; refine Nav.imp ?_
      refine awp_region cx [] fun K hK => ?_
      simp [push_cast]
      repeat (refine And.intro (by clear hK; intros; first | omega | (simp_all; done) | (simp_all <;> omega)) ?_)
      refine hK _ ?_; clear hK K; refine Nav.imp ?_
      refine awp_cond (b := true) (by simp [push_cast]) (fun hb => ?_) (fun hb => ?_) <;> (refine Nav.imp ?_)
      · refine awp_region cx [] fun K hK => ?_
        simp [push_cast]
        repeat (refine And.intro (by clear hK; intros; first | omega | (simp_all; done) | (simp_all <;> omega)) ?_)
        refine hK _ ?_; clear hK K; refine Nav.imp ?_
        simp [push_cast]
      · simp at hb
end Go.Proofs.YtknelhiejjdioaaGreat

set_option linter.unusedVariables false
set_option linter.unusedSimpArgs false
namespace Go.Proofs.YtknelhiejjdioaaGreat
open Go.Abs

/-! Cells of a region, looked for. -/
def hitB (x : Int) (r : Run) : Bool := decide (r.a ≤ x) && decide (x < r.b)
def conB (R : List Row) (c : Cell) : Bool := validR R && inR (rowOf R c.y) c.x
theorem conB_mem {R : List Row} (h : validR R = true) (c : Cell) : conB R c = decide (c ∈ regCells R) := by
  unfold conB
  rw [h, Bool.true_and, Bool.eq_iff_iff, decide_eq_true_eq]
  exact (rowOf_in h c).symm
theorem tw_len : ∀ {l : List Run} {k : Nat} {x : Int} {r : Run}, (∀ q ∈ l.take k, hitB x q = false) → l[k]? = some r → hitB x r = true → (l.takeWhile fun q => !hitB x q).length = k
  | [], k, x, r, _, h, _ => by simp at h
  | q :: l, 0, x, r, _, h, hr => by simp at h; subst h; simp [hr]
  | q :: l, k + 1, x, r, hp, h, hr => by
    have hq := hp q (by simp)
    have := tw_len (l := l) (k := k) (x := x) (r := r) (fun s hs => hp s (by simp [hs])) (by simpa using h) hr
    simp [hq, this]
theorem find_at : ∀ {R : List Row} {k : Nat} {y : Int} {w : Row}, (∀ v ∈ R.take k, v.y ≠ y) → R[k]? = some w → w.y = y → rowOf R y = w.runs
  | [], k, y, w, _, h, _ => by simp at h
  | v :: R, 0, y, w, _, h, hw => by simp at h; subst h; simp [rowOf, hw]
  | v :: R, k + 1, y, w, hp, h, hw => by
    have hv := hp v (by simp)
    have := find_at (R := R) (k := k) (y := y) (w := w) (fun s hs => hp s (by simp [hs])) (by simpa using h) hw
    simpa [rowOf, hv] using this
def idxR (l : List Run) (x : Int) : Int := if inR l x then ((l.takeWhile fun q => !hitB x q).length : Nat) else -1

theorem hit_ok (r : Run) (x : Int) : PC Tryz.prog 156 [.agg r.row, .rp [.int .i64 x]] (.p (.bool (hitB x r))) := by
  obtain ⟨ra, rb⟩ := r
  refine pc_of_awp cx (fn := Tryz.f156) (c := _) Tryz.func156 rfl rfl (Nat.le_of_ble_eq_true rfl) ?_
  rw [Tryz.ntmps156]; refine Nav.imp ?_
  refine awp_region cx [] fun K hK => ?_
  simp [push_cast, Run.row]
  repeat (refine And.intro (by clear hK; intros; first | omega | (simp_all; done) | (simp_all <;> omega)) ?_)
  refine hK _ ?_; clear hK K; refine Nav.imp ?_
  refine awp_region cx [] fun K hK => ?_
  simp [push_cast, Run.row]
  repeat (refine And.intro (by clear hK; intros; first | omega | (simp_all; done) | (simp_all <;> omega)) ?_)
  refine hK _ ?_; clear hK K; refine Nav.imp ?_
  simp [push_cast, hitB]

theorem index_ok (l : List Run) (x : Int) (hl : l.length ≤ 1000000) : PC Tryz.prog 164 [encRuns l, .fn (.func 156) [.rp [.int .i64 x]]] (.p (.int .i64 (idxR l x))) := by
  refine pc_of_awp cx (fn := Tryz.f164) (c := _) Tryz.func164 rfl rfl (Nat.le_of_ble_eq_true rfl) ?_
  rw [Tryz.ntmps164]; refine Nav.imp ?_
  refine awp_region cx [] fun K hK => ?_
  simp [push_cast]
  repeat (refine And.intro (by clear hK; intros; first | omega | (simp_all; done) | (simp_all <;> omega)) ?_)
  refine hK _ ?_; clear hK K; refine Nav.imp ?_
  refine awp_region cx [] fun K hK => ?_
  simp [push_cast]
  repeat (refine And.intro (by clear hK; intros; first | omega | (simp_all; done) | (simp_all <;> omega)) ?_)
  refine hK _ ?_; clear hK K; refine Nav.imp ?_
  refine awp_loop (β := Nat) (fun k => ⟨19, [(0, .d (encRuns l)), (1, .d (.fn (.func 156) [.rp [.int .i64 x]])), (7, .d (.int .i64 l.length)), (8, .d (.int .i64 k))], [], 0⟩) (fun k => k ≤ l.length ∧ ∀ q ∈ l.take k, hitB x q = false) (fun k => l.length - k) 0 ?_ ⟨Nat.zero_le _, by simp⟩ ?_
  · refine weak_of [] rfl (by simp [upT, up, upL, push_cast]) (by simp [upH, upR, upL, up, push_cast]) (by simp [namesOk, push_cast]) (by simp [olds])
  · rintro k ⟨hk, hno⟩
    refine Nav.imp ?_
    refine awp_region cx [] fun K hK => ?_
    simp [push_cast]
    repeat (refine And.intro (by clear hK; intros; first | omega | (simp_all; done) | (simp_all <;> omega)) ?_)
    refine hK _ ?_; clear hK K; refine Nav.imp ?_
    refine awp_cond (b := decide ((k : Int) < l.length)) (by simp [push_cast]) (fun hb => ?_) (fun hb => ?_) <;> (refine Nav.imp ?_)
    · have hlt : k < l.length := by simpa using hb
      obtain ⟨r, hr⟩ := getq hlt
      have e0 := wrap_i64 (n := (k : Int) + 1) (by omega) (by omega)
      have c1 := hit_ok r x
      generalize hv : hitB x r = v at c1
      refine awp_region cx [] fun K hK => ?_
      simp [push_cast]
      repeat (refine And.intro (by clear hK; intros; first | omega | (simp_all; done) | (simp_all <;> omega)) ?_)
      refine hK _ ?_; clear hK K; refine Nav.imp ?_
      refine awp_region cx [(5, .p (.bool v))] fun K hK => ?_
      simp [push_cast, hr, c1]
      repeat (refine And.intro (by clear hK; intros; first | omega | (simp_all; done) | (simp_all <;> omega)) ?_)
      refine hK _ ?_; clear hK K; refine Nav.imp ?_
      refine awp_cond (b := v) (by simp [push_cast]) (fun hb => ?_) (fun hb => ?_) <;> (refine Nav.imp ?_)
      · rw [hb] at hv
        have hi : idxR l x = (k : Int) := by
          have h1 : inR l x = true := inR_iff.2 ⟨r, List.mem_of_getElem? hr, by simpa [hitB] using hv⟩
          unfold idxR
          rw [if_pos h1, tw_len hno hr hv]
        rw [hi]
        refine awp_region cx [] fun K hK => ?_
        simp [push_cast]
        repeat (refine And.intro (by clear hK; intros; first | omega | (simp_all; done) | (simp_all <;> omega)) ?_)
        refine hK _ ?_; clear hK K; refine Nav.imp ?_
        simp [push_cast]
      · rw [hb] at hv
        refine awp_region cx [] fun K hK => ?_
        simp [push_cast, e0]
        repeat (refine And.intro (by clear hK; intros; first | omega | (simp_all; done) | (simp_all <;> omega)) ?_)
        refine hK _ ?_; clear hK K; refine Nav.imp ?_
        refine ⟨k + 1, ⟨hlt, fun q hq => ?_⟩, by omega, ?_⟩
        · rw [take_get hr] at hq
          rcases List.mem_append.1 hq with hq | hq
          · exact hno q hq
          · simp at hq; subst hq; exact hv
        · refine weak_of [] rfl (by simp [upT, up, upL, push_cast]) (by simp [upH, upR, upL, up, push_cast]) (by simp [namesOk, push_cast]) (by simp [olds])
    · have hge : k = l.length := by simp at hb; omega
      subst hge
      rw [List.take_length] at hno
      have hi : idxR l x = -1 := by
        have h1 : inR l x = false := by
          rw [Bool.eq_false_iff]
          intro h
          obtain ⟨r, hr, h2, h3⟩ := inR_iff.1 h
          have := hno r hr
          simp [hitB, h2, h3] at this
        unfold idxR
        rw [h1]; rfl
      rw [hi]
      refine awp_region cx [] fun K hK => ?_
      simp [push_cast]
      repeat (refine And.intro (by clear hK; intros; first | omega | (simp_all; done) | (simp_all <;> omega)) ?_)
      refine hK _ ?_; clear hK K; refine Nav.imp ?_
      simp [push_cast]

theorem contf_ok (l : List Run) (x : Int) (hl : l.length ≤ 1000000) : PC Tryz.prog 155 [encRuns l, .fn (.func 156) [.rp [.int .i64 x]]] (.p (.bool (inR l x))) := by
  have c1 := index_ok l x hl
  have hi : decide (0 ≤ idxR l x) = inR l x := by
    unfold idxR
    split
    · rename_i h; rw [h]; simp
    · rename_i h; simp at h; rw [h]; simp
  generalize idxR l x = n at *
  refine pc_of_awp cx (fn := Tryz.f155) (c := _) Tryz.func155 rfl rfl (Nat.le_of_ble_eq_true rfl) ?_
  rw [Tryz.ntmps155]; refine Nav.imp ?_
  refine awp_region cx [] fun K hK => ?_
  simp [push_cast]
  repeat (refine And.intro (by clear hK; intros; first | omega | (simp_all; done) | (simp_all <;> omega)) ?_)
  refine hK _ ?_; clear hK K; refine Nav.imp ?_
  refine awp_region cx [(2, .p (.int .i64 n))] fun K hK => ?_
  simp [push_cast, c1]
  repeat (refine And.intro (by clear hK; intros; first | omega | (simp_all; done) | (simp_all <;> omega)) ?_)
  refine hK _ ?_; clear hK K; refine Nav.imp ?_
  simp [push_cast, hi]

theorem rcontains_ok (l : List Run) (x : Int) (hl : l.length ≤ 1000000) (hv : rvalid l = true) : PC Tryz.prog 132 [encRuns l, .int .i64 x] (.p (.bool (inR l x))) := by
  have c1 := rvalid_ok l hl
  have c2 := contf_ok l x hl
  rw [hv] at c1
  generalize inR l x = v at *
  refine pc_of_awp cx (fn := Tryz.f132) (c := _) Tryz.func132 rfl rfl (Nat.le_of_ble_eq_true rfl) ?_
  rw [Tryz.ntmps132]; refine Nav.imp ?_
  refine awp_region cx [] fun K hK => ?_
  simp [push_cast]
  repeat (refine And.intro (by clear hK; intros; first | omega | (simp_all; done) | (simp_all <;> omega)) ?_)
  refine hK _ ?_; clear hK K; refine Nav.imp ?_
  refine awp_freeze 0 ([[.int .i64 x]]) rfl (by simp [push_cast]) fun K hK => ?_
  simp [push_cast, St.fz, fzT, fzH, fzO, fz, fzL, fzR, fzR_dr, fzR_app, fzR_set, fzL_map]
  refine hK _ ?_; clear hK K; refine Nav.imp ?_
  refine awp_region cx [(1, .p (.bool true))] fun K hK => ?_
  simp [push_cast, c1]
  repeat (refine And.intro (by clear hK; intros; first | omega | (simp_all; done) | (simp_all <;> omega)) ?_)
  refine hK _ ?_; clear hK K; refine Nav.imp ?_
  refine awp_cond (b := false) (by simp [push_cast]) (fun hb => ?_) (fun hb => ?_) <;> (refine Nav.imp ?_)
  · simp at hb
  · refine awp_region cx [(2, .p (.bool v))] fun K hK => ?_
    simp [push_cast, c2]
    repeat (refine And.intro (by clear hK; intros; first | omega | (simp_all; done) | (simp_all <;> omega)) ?_)
    refine hK _ ?_; clear hK K; refine Nav.imp ?_
    simp [push_cast]

theorem inside18_ok (l : List Run) (x : Int) (hl : l.length ≤ 1000000) : PC Tryz.prog 94 [encRuns l, .int .i64 x] (.p (.bool (inR l x))) := by
  refine pc_of_awp cx (fn := Tryz.f94) (c := _) Tryz.func94 rfl rfl (Nat.le_of_ble_eq_true rfl) ?_
  rw [Tryz.ntmps94]; refine Nav.imp ?_
  refine awp_region cx [] fun K hK => ?_
  simp [push_cast]
  repeat (refine And.intro (by clear hK; intros; first | omega | (simp_all; done) | (simp_all <;> omega)) ?_)
  refine hK _ ?_; clear hK K; refine Nav.imp ?_
  refine awp_region cx [] fun K hK => ?_
  simp [push_cast]
  repeat (refine And.intro (by clear hK; intros; first | omega | (simp_all; done) | (simp_all <;> omega)) ?_)
  refine hK _ ?_; clear hK K; refine Nav.imp ?_
  refine awp_loop (β := Nat) (fun k => ⟨28, [(0, .d (encRuns l)), (1, .d (.int .i64 x)), (5, .d (.int .i64 k))], [], 0⟩) (fun k => k ≤ l.length ∧ ∀ q ∈ l.take k, hitB x q = false) (fun k => l.length - k) 0 ?_ ⟨Nat.zero_le _, by simp⟩ ?_
  · refine weak_of [] rfl (by simp [upT, up, upL, push_cast]) (by simp [upH, upR, upL, up, push_cast]) (by simp [namesOk, push_cast]) (by simp [olds])
  · rintro k ⟨hk, hno⟩
    refine Nav.imp ?_
    refine awp_region cx [] fun K hK => ?_
    simp [push_cast]
    repeat (refine And.intro (by clear hK; intros; first | omega | (simp_all; done) | (simp_all <;> omega)) ?_)
    refine hK _ ?_; clear hK K; refine Nav.imp ?_
    refine awp_cond (b := decide ((k : Int) < l.length)) (by simp [push_cast]) (fun hb => ?_) (fun hb => ?_) <;> (refine Nav.imp ?_)
    · have hlt : k < l.length := by simpa using hb
      obtain ⟨r, hr⟩ := getq hlt
      have hrm := List.mem_of_getElem? hr
      have e0 := wrap_i64 (n := (k : Int) + 1) (by omega) (by omega)
      obtain ⟨ra, rb⟩ := r
      refine awp_region cx [] fun K hK => ?_
      simp [push_cast, hr, Run.row]
      repeat (refine And.intro (by clear hK; intros; first | omega | (simp_all; done) | (simp_all <;> omega)) ?_)
      refine hK _ ?_; clear hK K; refine Nav.imp ?_
      refine awp_cond (by simp [push_cast] <;> exact rfl) (fun hb => ?_) (fun hb => ?_) <;> (refine Nav.imp ?_)
      · have hi : inR l x = true := inR_iff.2 ⟨_, hrm, by simpa using hb⟩
        refine awp_region cx [] fun K hK => ?_
        simp [push_cast]
        repeat (refine And.intro (by clear hK; intros; first | omega | (simp_all; done) | (simp_all <;> omega)) ?_)
        refine hK _ ?_; clear hK K; refine Nav.imp ?_
        simp [push_cast, hi]
      · have hv : hitB x ⟨ra, rb⟩ = false := by
          rw [Bool.eq_false_iff]; intro h; simp [hitB] at h; simp [h] at hb
        refine awp_region cx [] fun K hK => ?_
        simp [push_cast, e0]
        repeat (refine And.intro (by clear hK; intros; first | omega | (simp_all; done) | (simp_all <;> omega)) ?_)
        refine hK _ ?_; clear hK K; refine Nav.imp ?_
        refine ⟨k + 1, ⟨hlt, fun q hq => ?_⟩, by omega, ?_⟩
        · rw [take_get hr] at hq
          rcases List.mem_append.1 hq with hq | hq
          · exact hno q hq
          · simp at hq; subst hq; exact hv
        · refine weak_of [] rfl (by simp [upT, up, upL, push_cast]) (by simp [upH, upR, upL, up, push_cast]) (by simp [namesOk, push_cast]) (by simp [olds])
    · have hge : k = l.length := by simp at hb; omega
      subst hge
      rw [List.take_length] at hno
      have h1 : inR l x = false := by
        rw [Bool.eq_false_iff]
        intro h
        obtain ⟨r, hr, h2, h3⟩ := inR_iff.1 h
        have := hno r hr
        simp [hitB, h2, h3] at this
      rw [h1]
      refine awp_region cx [] fun K hK => ?_
      simp [push_cast]
      repeat (refine And.intro (by clear hK; intros; first | omega | (simp_all; done) | (simp_all <;> omega)) ?_)
      refine hK _ ?_; clear hK K; refine Nav.imp ?_
      simp [push_cast]

theorem row18_ok (R : List Row) (y : Int) (hR : smallR R) : PC Tryz.prog 95 [.agg (regRow R), .int .i64 y] (.p (encRuns (rowOf R y))) := by
  have hl := hR.1
  refine pc_of_awp cx (fn := Tryz.f95) (c := _) Tryz.func95 rfl rfl (Nat.le_of_ble_eq_true rfl) ?_
  rw [Tryz.ntmps95]; refine Nav.imp ?_
  refine awp_region cx [] fun K hK => ?_
  simp [push_cast]
  repeat (refine And.intro (by clear hK; intros; first | omega | (simp_all; done) | (simp_all <;> omega)) ?_)
  refine hK _ ?_; clear hK K; refine Nav.imp ?_
  refine awp_region cx [] fun K hK => ?_
  simp [push_cast]
  repeat (refine And.intro (by clear hK; intros; first | omega | (simp_all; done) | (simp_all <;> omega)) ?_)
  refine hK _ ?_; clear hK K; refine Nav.imp ?_
  refine awp_loop (β := Nat) (fun k => ⟨27, [(1, .d (.int .i64 y)), (2, .ptr 0 0 0), (5, .d (.int .i64 k))], [(0, some ⟨24, 1, [(regRow R).map .d]⟩)], 1⟩) (fun k => k ≤ R.length ∧ ∀ v ∈ R.take k, v.y ≠ y) (fun k => R.length - k) 0 ?_ ⟨Nat.zero_le _, by simp⟩ ?_
  · refine weak_of [(0, some 0)] rfl (by simp [upT, up, upL, push_cast]) (by simp [upH, upR, upL, up, push_cast]) (by simp [namesOk, push_cast]) (by simp [olds])
  · rintro k ⟨hk, hno⟩
    refine Nav.imp ?_
    refine awp_region cx [] fun K hK => ?_
    simp [push_cast]
    repeat (refine And.intro (by clear hK; intros; first | omega | (simp_all; done) | (simp_all <;> omega)) ?_)
    refine hK _ ?_; clear hK K; refine Nav.imp ?_
    refine awp_cond (b := decide ((k : Int) < R.length)) (by simp [push_cast]) (fun hb => ?_) (fun hb => ?_) <;> (refine Nav.imp ?_)
    · have hlt : k < R.length := by simpa using hb
      obtain ⟨w, hw⟩ := getq hlt
      have e0 := wrap_i64 (n := (k : Int) + 1) (by omega) (by omega)
      have hfa := @find_at R k y w hno hw
      obtain ⟨wy, wr⟩ := w
      simp only at hfa
      refine awp_region cx [] fun K hK => ?_
      simp [push_cast, hw, Row.row]
      repeat (refine And.intro (by clear hK; intros; first | omega | (simp_all; done) | (simp_all <;> omega)) ?_)
      refine hK _ ?_; clear hK K; refine Nav.imp ?_
      refine awp_cond (b := wy == y) (by simp [push_cast]) (fun hb => ?_) (fun hb => ?_) <;> (refine Nav.imp ?_)
      · have hb : wy = y := by simpa using hb
        rw [hfa hb]
        refine awp_region cx [] fun K hK => ?_
        simp [push_cast, hw, Row.row]
        repeat (refine And.intro (by clear hK; intros; first | omega | (simp_all; done) | (simp_all <;> omega)) ?_)
        refine hK _ ?_; clear hK K; refine Nav.imp ?_
        simp [push_cast]
      · have hb : ¬ wy = y := by simpa using hb
        refine awp_region cx [] fun K hK => ?_
        simp [push_cast, e0]
        repeat (refine And.intro (by clear hK; intros; first | omega | (simp_all; done) | (simp_all <;> omega)) ?_)
        refine hK _ ?_; clear hK K; refine Nav.imp ?_
        refine ⟨k + 1, ⟨hlt, fun q hq => ?_⟩, by omega, ?_⟩
        · rw [take_get hw] at hq
          rcases List.mem_append.1 hq with hq | hq
          · exact hno q hq
          · simp at hq; subst hq; exact hb
        · refine weak_of [(0, some 0)] rfl (by simp [upT, up, upL, push_cast]) (by simp [upH, upR, upL, up, push_cast]) (by simp [namesOk, push_cast]) (by simp [olds])
    · have hge : k = R.length := by simp at hb; omega
      subst hge
      rw [List.take_length] at hno
      rw [rowOf_none hno]
      refine awp_region cx [] fun K hK => ?_
      simp [push_cast]
      repeat (refine And.intro (by clear hK; intros; first | omega | (simp_all; done) | (simp_all <;> omega)) ?_)
      refine hK _ ?_; clear hK K; refine Nav.imp ?_
      simp [push_cast]

theorem contains_ok (R : List Row) (c : Cell) (hR : smallR R) : PC Tryz.prog 86 [.agg (regRow R), .agg c.row] (.p (.bool (conB R c))) := by
  have c1 := valid_ok R hR
  obtain ⟨x, y⟩ := c
  have hC : conB R ⟨x, y⟩ = (validR R && inR (rowOf R y) x) := rfl
  rw [hC]
  clear hC
  cases hv : validR R with
  | false =>
    rw [hv] at c1
    refine pc_of_awp cx (fn := Tryz.f86) (c := _) Tryz.func86 rfl rfl (Nat.le_of_ble_eq_true rfl) ?_
    rw [Tryz.ntmps86]; refine Nav.imp ?_
    refine awp_region cx [] fun K hK => ?_
    simp [push_cast]
    repeat (refine And.intro (by clear hK; intros; first | omega | (simp_all; done) | (simp_all <;> omega)) ?_)
    refine hK _ ?_; clear hK K; refine Nav.imp ?_
    refine awp_region_draw cx mixed [(1, .p (.bool false)), (6, .skip), (9, .skip)] fun K hK => ?_
    simp [push_cast, c1]
    repeat (refine And.intro (by clear hK; intros; first | omega | (simp_all; done) | (simp_all <;> omega)) ?_)
    refine hK _ _ (by kernel_rfl) ?_; clear hK K; refine Nav.imp ?_
    simp [push_cast]
  | true =>
    rw [hv] at c1
    have hlr : (rowOf R y).length ≤ 1000000 := by
      unfold rowOf
      split
      · rename_i w h; exact hR.2 w (List.mem_of_find?_eq_some h)
      · simp
    have c2 := row_ok R y hR hv
    have c3 := rcontains_ok (rowOf R y) x hlr (rowOf_rv hv y)
    generalize inR (rowOf R y) x = v at *
    generalize rowOf R y = r at *
    refine pc_of_awp cx (fn := Tryz.f86) (c := _) Tryz.func86 rfl rfl (Nat.le_of_ble_eq_true rfl) ?_
    rw [Tryz.ntmps86]; refine Nav.imp ?_
    refine awp_region cx [] fun K hK => ?_
    simp [push_cast]
    repeat (refine And.intro (by clear hK; intros; first | omega | (simp_all; done) | (simp_all <;> omega)) ?_)
    refine hK _ ?_; clear hK K; refine Nav.imp ?_
    refine awp_region_draw cx mixed [(1, .p (.bool true)), (6, .p (encRuns r)), (9, .p (.bool v))] fun K hK => ?_
    simp [push_cast, c1, c2, c3]
    repeat (refine And.intro (by clear hK; intros; first | omega | (simp_all; done) | (simp_all <;> omega)) ?_)
    refine hK _ _ (by kernel_rfl) ?_; clear hK K; refine Nav.imp ?_
    simp [push_cast]
theorem contains18_ok (R : List Row) (c : Cell) (hR : smallR R) : PC Tryz.prog 57 [.agg (regRow R), .agg c.row] (.p (.bool (conB R c))) := by
  have c1 := validR_ok R hR
  obtain ⟨x, y⟩ := c
  have hC : conB R ⟨x, y⟩ = (validR R && inR (rowOf R y) x) := rfl
  rw [hC]
  clear hC
  cases hv : validR R with
  | false =>
    rw [hv] at c1
    refine pc_of_awp cx (fn := Tryz.f57) (c := _) Tryz.func57 rfl rfl (Nat.le_of_ble_eq_true rfl) ?_
    rw [Tryz.ntmps57]; refine Nav.imp ?_
    refine awp_region cx [] fun K hK => ?_
    simp [push_cast]
    repeat (refine And.intro (by clear hK; intros; first | omega | (simp_all; done) | (simp_all <;> omega)) ?_)
    refine hK _ ?_; clear hK K; refine Nav.imp ?_
    refine awp_region_draw cx mixed [(1, .p (.bool false)), (6, .skip), (9, .skip)] fun K hK => ?_
    simp [push_cast, c1]
    repeat (refine And.intro (by clear hK; intros; first | omega | (simp_all; done) | (simp_all <;> omega)) ?_)
    refine hK _ _ (by kernel_rfl) ?_; clear hK K; refine Nav.imp ?_
    simp [push_cast]
  | true =>
    rw [hv] at c1
    have hlr : (rowOf R y).length ≤ 1000000 := by
      unfold rowOf
      split
      · rename_i w h; exact hR.2 w (List.mem_of_find?_eq_some h)
      · simp
    have c2 := row18_ok R y hR
    have c3 := inside18_ok (rowOf R y) x hlr
    generalize inR (rowOf R y) x = v at *
    generalize rowOf R y = r at *
    refine pc_of_awp cx (fn := Tryz.f57) (c := _) Tryz.func57 rfl rfl (Nat.le_of_ble_eq_true rfl) ?_
    rw [Tryz.ntmps57]; refine Nav.imp ?_
    refine awp_region cx [] fun K hK => ?_
    simp [push_cast]
    repeat (refine And.intro (by clear hK; intros; first | omega | (simp_all; done) | (simp_all <;> omega)) ?_)
    refine hK _ ?_; clear hK K; refine Nav.imp ?_
    refine awp_region_draw cx mixed [(1, .p (.bool true)), (6, .p (encRuns r)), (9, .p (.bool v))] fun K hK => ?_
    simp [push_cast, c1, c2, c3]
    repeat (refine And.intro (by clear hK; intros; first | omega | (simp_all; done) | (simp_all <;> omega)) ?_)
    refine hK _ _ (by kernel_rfl) ?_; clear hK K; refine Nav.imp ?_
    simp [push_cast]
end Go.Proofs.YtknelhiejjdioaaGreat
