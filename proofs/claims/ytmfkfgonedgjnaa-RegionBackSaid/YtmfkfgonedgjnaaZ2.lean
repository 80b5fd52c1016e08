/-
  The walks of this seat's functions and the plain laws behind them: part Z2.
-/
import Derived.Test.YtmfkfgonedgjnaaZ1
import Derived.Test.YtmfkfgonedgjnaaAbsU
import Derived.Test.YtmfkfgonedgjnaaR2
set_option linter.unusedVariables false
set_option linter.unusedSimpArgs false
set_option maxRecDepth 100000
namespace Go.Proofs.Ytmfkfgonedgjnaa
open Go.Abs

def cellI (R : List Row) (k : Nat) : List (Nat × Option Ob) := [(1, some ⟨31, 1, [[.hs 2 0 ((regCells R).take k).length]]⟩), (2, some ⟨35, 2, dr (((regCells R).take k).map Cell.row)⟩)]

set_option maxHeartbeats 4000000 in
theorem cells_ok (R : List Row) (hsm : smallR R) (hn : validR R = true → (regCells R).length ≤ 1000000) : PC Try.prog 31 [.agg (regRow R)] (.p (encCells (cellsOf R))) := by
  have c1 := valid_ok R hsm
  have hC : cellsOf R = if validR R then regCells R else [] := rfl
  cases hv : validR R with
  | false =>
    rw [hv] at c1 hC
    rw [if_neg (by simp)] at hC
    rw [hC]
    refine pc_of_awm cx (fn := Try.f31) (c := _) Try.func31 rfl rfl (Nat.le_of_ble_eq_true rfl) fun gM wM => ?_
    rw [Try.ntmps31]; (repeat (first | refine awm_seq ?_ | refine awm_block ?_ | refine awm_skip ?_ | refine awm_exit ?_ | refine awm_ret ?_ | refine sm_n ?_ | refine sm_r ?_ | refine sm_x ?_ | refine bm_n ?_ | refine bm_r ?_ | refine bm_x ?_ | refine bm_y rfl ?_))
    refine awm_region cx [] rfl fun K hK => ?_
    simp [push_cast]
    repeat (refine And.intro (by clear hK; intros; first | omega | (simp_all; done) | (simp_all <;> omega)) ?_)
    refine hK _ ?_; clear hK K; (try dsimp only); (repeat (first | refine awm_seq ?_ | refine awm_block ?_ | refine awm_skip ?_ | refine awm_exit ?_ | refine awm_ret ?_ | refine sm_n ?_ | refine sm_r ?_ | refine sm_x ?_ | refine bm_n ?_ | refine bm_r ?_ | refine bm_x ?_ | refine bm_y rfl ?_))
    refine awm_region cx [(1, .p (.bool false))] rfl fun K hK => ?_
    simp [push_cast, c1]
    repeat (refine And.intro (by clear hK; intros; first | omega | (simp_all; done) | (simp_all <;> omega)) ?_)
    refine hK _ ?_; clear hK K; (try dsimp only); (repeat (first | refine awm_seq ?_ | refine awm_block ?_ | refine awm_skip ?_ | refine awm_exit ?_ | refine awm_ret ?_ | refine sm_n ?_ | refine sm_r ?_ | refine sm_x ?_ | refine bm_n ?_ | refine bm_r ?_ | refine bm_x ?_ | refine bm_y rfl ?_))
    refine awm_cond (b := true) (by simp [push_cast]) (fun hb => ?_) (fun hb => ?_) <;> ((repeat (first | refine awm_seq ?_ | refine awm_block ?_ | refine awm_skip ?_ | refine awm_exit ?_ | refine awm_ret ?_ | refine sm_n ?_ | refine sm_r ?_ | refine sm_x ?_ | refine bm_n ?_ | refine bm_r ?_ | refine bm_x ?_ | refine bm_y rfl ?_)))
    · refine awm_region cx [] rfl fun K hK => ?_
      simp [push_cast]
      repeat (refine And.intro (by clear hK; intros; first | omega | (simp_all; done) | (simp_all <;> omega)) ?_)
      refine hK _ ?_; clear hK K; (try dsimp only); (repeat (first | refine awm_seq ?_ | refine awm_block ?_ | refine awm_skip ?_ | refine awm_exit ?_ | refine awm_ret ?_ | refine sm_n ?_ | refine sm_r ?_ | refine sm_x ?_ | refine bm_n ?_ | refine bm_r ?_ | refine bm_x ?_ | refine bm_y rfl ?_))
      simp [push_cast]
    · simp at hb
  | true =>
    have hit := iter_ok R hsm hv
    have hn := hn hv
    have c2 := all_ok R
    rw [hv] at c1 hC
    rw [if_pos rfl] at hC
    rw [hC]
    clear hC
    refine pc_of_awm cx (fn := Try.f31) (c := _) Try.func31 rfl rfl (Nat.le_of_ble_eq_true rfl) fun gM wM => ?_
    rw [Try.ntmps31]; (repeat (first | refine awm_seq ?_ | refine awm_block ?_ | refine awm_skip ?_ | refine awm_exit ?_ | refine awm_ret ?_ | refine sm_n ?_ | refine sm_r ?_ | refine sm_x ?_ | refine bm_n ?_ | refine bm_r ?_ | refine bm_x ?_ | refine bm_y rfl ?_))
    refine awm_region cx [] rfl fun K hK => ?_
    simp [push_cast]
    repeat (refine And.intro (by clear hK; intros; first | omega | (simp_all; done) | (simp_all <;> omega)) ?_)
    refine hK _ ?_; clear hK K; (try dsimp only); (repeat (first | refine awm_seq ?_ | refine awm_block ?_ | refine awm_skip ?_ | refine awm_exit ?_ | refine awm_ret ?_ | refine sm_n ?_ | refine sm_r ?_ | refine sm_x ?_ | refine bm_n ?_ | refine bm_r ?_ | refine bm_x ?_ | refine bm_y rfl ?_))
    refine awm_region cx [(1, .p (.bool true))] rfl fun K hK => ?_
    simp [push_cast, c1]
    repeat (refine And.intro (by clear hK; intros; first | omega | (simp_all; done) | (simp_all <;> omega)) ?_)
    refine hK _ ?_; clear hK K; (try dsimp only); (repeat (first | refine awm_seq ?_ | refine awm_block ?_ | refine awm_skip ?_ | refine awm_exit ?_ | refine awm_ret ?_ | refine sm_n ?_ | refine sm_r ?_ | refine sm_x ?_ | refine bm_n ?_ | refine bm_r ?_ | refine bm_x ?_ | refine bm_y rfl ?_))
    refine awm_cond (b := false) (by simp [push_cast]) (fun hb => ?_) (fun hb => ?_) <;> ((repeat (first | refine awm_seq ?_ | refine awm_block ?_ | refine awm_skip ?_ | refine awm_exit ?_ | refine awm_ret ?_ | refine sm_n ?_ | refine sm_r ?_ | refine sm_x ?_ | refine bm_n ?_ | refine bm_r ?_ | refine bm_x ?_ | refine bm_y rfl ?_)))
    · simp at hb
    · refine awm_region cx [] rfl fun K hK => ?_
      simp [push_cast]
      repeat (refine And.intro (by clear hK; intros; first | omega | (simp_all; done) | (simp_all <;> omega)) ?_)
      refine hK _ ?_; clear hK K; (try dsimp only); (repeat (first | refine awm_seq ?_ | refine awm_block ?_ | refine awm_skip ?_ | refine awm_exit ?_ | refine awm_ret ?_ | refine sm_n ?_ | refine sm_r ?_ | refine sm_x ?_ | refine bm_n ?_ | refine bm_r ?_ | refine bm_x ?_ | refine bm_y rfl ?_))
      refine awm_region cx [(1, .p (.fn (.func 93) [.rp (regRow R)]))] rfl fun K hK => ?_
      simp [push_cast, c2]
      repeat (refine And.intro (by clear hK; intros; first | omega | (simp_all; done) | (simp_all <;> omega)) ?_)
      refine hK _ ?_; clear hK K; (try dsimp only); (repeat (first | refine awm_seq ?_ | refine awm_block ?_ | refine awm_skip ?_ | refine awm_exit ?_ | refine awm_ret ?_ | refine sm_n ?_ | refine sm_r ?_ | refine sm_x ?_ | refine bm_n ?_ | refine bm_r ?_ | refine bm_x ?_ | refine bm_y rfl ?_))
      refine awm_range (caps := [.rp (regRow R)]) (xs := itemsOf R) rfl rfl hit (t := 3) (pn := 16) (idS := 5) (idn := 1) (nx := 3) (by decide) (Nat.le_of_ble_eq_true rfl) rfl (Nat.le_of_ble_eq_true rfl) rfl (Nat.le_of_ble_eq_true rfl) (cellI R) (fun L => ?_) (fun L k x hx => ?_) fun L => ?_
      · show Weak _ ⟨16, [(3, .ptr 1 0 0), (16, .pin 1 L)], cellI R 0, 3⟩
        unfold cellI
        refine weak_of [(1, some 5), (2, none)] rfl (by simp [upT, up, upL, push_cast]) (by simp [upH, upR, upL, up, push_cast]) (by simp [namesOk, push_cast]) (by simp [olds])
      · unfold itemsOf at hx
        rw [List.getElem?_map] at hx
        cases hc : (regCells R)[k]? with
        | none => rw [hc] at hx; cases hx
        | some c =>
          rw [hc] at hx
          cases hx
          have hk := (List.getElem?_eq_some_iff.1 hc).1
          have htk : (regCells R).take (k + 1) = (regCells R).take k ++ [c] := take_get hc
          have hkl : ((regCells R).take k).length = k := by rw [List.length_take]; omega
          unfold S1 cellI
          rw [htk]
          generalize (regCells R).take k = Z at *
          have hZ16 : (Z.length + 1) * 16 ≤ 140737488355328 := by omega
          obtain ⟨x, y⟩ := c
          refine awr_region cx [] (fun s' h => by cases h.1) rfl fun K hK => ?_
          simp [push_cast]
          refine hK _ ⟨rfl, ?_⟩
          clear hK K
          refine awr_block (Q := fun s2 => Weak s2 _) ?_
          refine awr_region cx [] (fun s' h => by cases h.1) rfl fun K hK => ?_
          simp [push_cast, hZ16]
          refine hK _ ⟨rfl, ?_⟩
          clear hK K
          dsimp only
          trace_state
          refine weak_of [(1, some 1), (2, some 8)] rfl (by simp [upT, up, upL, push_cast, Cell.row]) (by simp [upH, upR, upL, up, push_cast, Cell.row]) (by simp [namesOk, push_cast]) (by simp [olds])
      · unfold S1 cellI
        have hl : (itemsOf R).length = (regCells R).length := by simp [itemsOf]
        rw [hl, List.take_length]
        (repeat (first | refine awm_seq ?_ | refine awm_block ?_ | refine awm_skip ?_ | refine awm_exit ?_ | refine awm_ret ?_ | refine sm_n ?_ | refine sm_r ?_ | refine sm_x ?_ | refine bm_n ?_ | refine bm_r ?_ | refine bm_x ?_ | refine bm_y rfl ?_))
        refine awm_region cx [] rfl fun K hK => ?_
        simp [push_cast]
        repeat (refine And.intro (by clear hK; intros; first | omega | (simp_all; done) | (simp_all <;> omega)) ?_)
        refine hK _ ?_; clear hK K; (try dsimp only); (repeat (first | refine awm_seq ?_ | refine awm_block ?_ | refine awm_skip ?_ | refine awm_exit ?_ | refine awm_ret ?_ | refine sm_n ?_ | refine sm_r ?_ | refine sm_x ?_ | refine bm_n ?_ | refine bm_r ?_ | refine bm_x ?_ | refine bm_y rfl ?_))
        have ht : List.take (regCells R).length ((regCells R).map Cell.row) = (regCells R).map Cell.row := List.take_of_length_le (by simp)
        simp [push_cast, ht]
end Go.Proofs.Ytmfkfgonedgjnaa
