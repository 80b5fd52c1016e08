/-
  Texts of this seat put together: BL4.
-/
import Derived.Test.YtdddknniooimmaaGreatI13
import Derived.Test.YtdddknniooimmaaGreatI14
import Derived.Test.YtdddknniooimmaaGreatI12
set_option linter.unusedVariables false
set_option linter.unusedSimpArgs false
set_option maxRecDepth 100000
namespace Go.Proofs.YtdddknniooimmaaGreat
open Go.Abs Go.ChangeShapes Go.WideShapes Go.ChangeAt Go.RowKit

theorem pt_of {f : Nat} {ds : List D} (h : hasT Tryz.prog (f + 2) 58 ds) : ∃ c : Cell, ds = c.row := by
  obtain ⟨hl, hp⟩ := hasT_struct (n := 2) (ts := [3, 3]) Tryz.underlying58 (by kernel_rfl) rfl (by kernel_rfl) h
  obtain ⟨d0, r0, e0, h0, hp0⟩ := parts_one (by kernel_rfl) hp (by simp_all <;> omega)
  subst e0
  obtain ⟨d1, r1, e1, h1, hp1⟩ := parts_one (by kernel_rfl) hp0 (by simp_all <;> omega)
  subst e1
  simp only [parts] at hp1
  subst hp1
  obtain ⟨n0, e0, w0⟩ := hasT_int Tryz.underlying3 h0
  cases e0
  obtain ⟨n1, e1, w1⟩ := hasT_int Tryz.underlying3 h1
  cases e1
  exact ⟨⟨n0, n1⟩, rfl⟩
theorem pts_of {f : Nat} {d : D} (h : hasT Tryz.prog (f + 3) 53 [d]) : ∃ l : List Cell, d = encCells l := by
  obtain ⟨rows, he, _, hr⟩ := hasT_slice Tryz.underlying53 h
  cases he
  obtain ⟨l, rfl⟩ := rows_of (row := Cell.row) fun r hr' => pt_of (hr r hr')
  exact ⟨l, rfl⟩
theorem polys_of {f : Nat} {d : D} (h : hasT Tryz.prog (f + 5) 48 [d]) : ∃ l : List (List Cell), d = encPs l := by
  obtain ⟨rows, he, _, hr⟩ := hasT_slice Tryz.underlying48 h
  cases he
  obtain ⟨l, rfl⟩ := rows_of (row := polyRow) fun r hr' => by
    obtain ⟨hl, hp⟩ := hasT_struct (n := 1) (ts := [53]) Tryz.underlying55 (by kernel_rfl) rfl (by kernel_rfl) (hr r hr')
    obtain ⟨d0, r0, e0, h0, hp0⟩ := parts_one (by kernel_rfl) hp (by simp_all <;> omega)
    subst e0
    simp only [parts] at hp0
    subst hp0
    obtain ⟨c, rfl⟩ := pts_of h0
    exact ⟨c, rfl⟩
  exact ⟨l, rfl⟩
theorem arg_polys {x : D} (h : hasV Tryz.prog 48 x) : ∃ l : List (List Cell), x = encPs l := by
  simp only [hasV, Tryz.underlying48] at h
  exact polys_of (f := 25) h
def zeroPolys : Value := .slice none 0 0
set_option maxHeartbeats 4000000 in
theorem backs_ok (l : List (List Cell)) : PC Tryz.prog 6 [encPs l] (.p (.bool true)) := by
  have c0 := near22_ok l
  have h1 := nearL_len l
  have h2 : ∀ P ∈ nearL l, P.length ≤ 12 := fun P hP => nearL_mem hP
  have h3 := sum_cap (nearL l) h2
  obtain ⟨B, c1, hB⟩ := back_spec (nearL l) (by omega) (fun P hP => by have := h2 P hP; omega) (by omega)
  have c2 := rback_ok (nearL l) (by omega) (fun P hP => by have := h2 P hP; omega) (by omega) (fun P hP hb => bad_small hP hb) B hB
  have hsm : smallR (if badL (nearL l) then [] else B) := by
    cases hb : badL (nearL l) with
    | true => exact ⟨by simp, by simp⟩
    | false => exact valid_small (hB hb).1
  have c3 := rsame_ok (if badL (nearL l) then [] else B) (if badL (nearL l) then [] else B) hsm
  simp only [decide_true] at c3
  have c4 := awake_ok
  clear hB hsm h1 h2 h3
  generalize (if badL (nearL l) then [] else B) = S at *
  generalize (if badL (nearL l) then (1 : Int) else 0) = e at *
  generalize nearL l = Q at *
  refine pc_of_awp cx (fn := Tryz.f6) (c := _) Tryz.func6 rfl rfl (Nat.le_of_ble_eq_true rfl) ?_
  rw [Tryz.ntmps6]; refine Nav.imp ?_
  refine awp_region cx [] fun K hK => ?_
  simp [push_cast]
  repeat (refine And.intro (by clear hK; intros; first | omega | (simp_all; done) | (simp_all <;> omega)) ?_)
  refine hK _ ?_; clear hK K; refine Nav.imp ?_
  refine awp_region cx [(1, .p (encPs Q))] fun K hK => ?_
  simp [push_cast, c0]
  repeat (refine And.intro (by clear hK; intros; first | omega | (simp_all; done) | (simp_all <;> omega)) ?_)
  refine hK _ ?_; clear hK K; refine Nav.imp ?_
  refine awp_region cx [(1, .p (.tup [.agg (regRow S), .int .i64 e]))] fun K hK => ?_
  simp [push_cast, c1]
  repeat (refine And.intro (by clear hK; intros; first | omega | (simp_all; done) | (simp_all <;> omega)) ?_)
  refine hK _ ?_; clear hK K; refine Nav.imp ?_
  refine awp_region cx [(1, .p (.tup [.agg (regRow S), .int .i64 e]))] fun K hK => ?_
  simp [push_cast, c2]
  repeat (refine And.intro (by clear hK; intros; first | omega | (simp_all; done) | (simp_all <;> omega)) ?_)
  refine hK _ ?_; clear hK K; refine Nav.imp ?_
  refine awp_region cx [(2, .p (.bool true)), (9, .p (.bool true))] fun K hK => ?_
  simp [push_cast, c3, c4]
  repeat (refine And.intro (by clear hK; intros; first | omega | (simp_all; done) | (simp_all <;> omega)) ?_)
  refine hK _ ?_; clear hK K; refine Nav.imp ?_
  simp [push_cast]
set_option maxRecDepth 100000 in
theorem boundaryBacks_lifted (os : Os) (started : os.Started) (H : Type) (enc : TypeId × Value → H) :
    ReturnsInHanded {} Tryz.checked os 6 .any (Rows.boundaryBacksSpec.pre6 enc Tryz.prog Tryz.f6 Rows.boundaryBacksRow.domain false) (Rows.boundaryBacksSpec.post enc Tryz.prog Tryz.f6 false true false false) := by
  refine returnsInHanded_of_change (C := Tryz.checked) own started (by kernel_rfl) Tryz.func6
    (ChangeSpec.witness6 (enc := enc) (C := Tryz.checked) false ⟨#[], #[zeroPolys], []⟩ 8 (by kernel_rfl) (by kernel_rfl) (by kernel_rfl) (by kernel_rfl)) ?_
  intro W base args ds gs before hval hW _ _
  exact law_contract rfl (fun ds h => by match ds, h with | [a0], _ => rfl) laidOut (by simp only [Tryz.params6]; intro t ht; simp at ht; rcases ht with rfl <;> exact ⟨by kernel_rfl, of_decide_eq_true (by kernel_rfl)⟩) (by kernel_rfl) rfl Tryz.underlying4
    (fun xs hx => by
      simp only [Tryz.params6, hasVs] at hx
      obtain ⟨x0, r0, rfl, h0, rfl⟩ := hx
      obtain ⟨l, rfl⟩ := arg_polys h0
      exact backs_ok l) W base args ds gs before hval hW

theorem boundaryBacks_holds : Rows.BoundaryBacksSaid :=
  OpenClaim.holds_of_wide 6 Tryz.f6 rfl rfl rfl rfl rfl rfl rfl ⟨rfl, rfl, rfl, rfl, rfl⟩ rfl rfl rfl rfl rfl (by kernel_rfl) Tryz.func6 (by kernel_rfl)
    (of_decide_eq_true (by kernel_rfl)) (by unfold Func.isWrapper; first | (rw [if_pos (by decide +kernel)]; kernel_rfl) | (rw [if_neg (by decide +kernel)]; exact ⟨rfl, rfl⟩))
    (fun os started H enc _ => boundaryBacks_lifted os started H enc)

end Go.Proofs.YtdddknniooimmaaGreat
