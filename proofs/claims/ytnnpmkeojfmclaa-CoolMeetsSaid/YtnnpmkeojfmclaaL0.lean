/-
  The walks of this seat's functions and the plain laws behind them: part L0.
-/
import Derived.Test.YtnnpmkeojfmclaaT7
import Derived.Test.YtnnpmkeojfmclaaAbs16
set_option linter.unusedVariables false
set_option linter.unusedSimpArgs false
namespace Go.Proofs.Ytnnpmkeojfmclaa
open Go.Abs

theorem cells_of {f : Nat} {d : D} (h : hasT Try.prog (f + 3) 34 [d]) : ∃ l : List Cell, d = encCells l := by
  obtain ⟨rows, he, _, hr⟩ := hasT_slice Try.underlying34 h
  cases he
  obtain ⟨l, rfl⟩ := rows_of (row := Cell.row) fun r hr' => by
    obtain ⟨hl, hp⟩ := hasT_struct (n := 2) (ts := [3, 3]) Try.underlying47 (by kernel_rfl) rfl (by kernel_rfl) (hr r hr')
    obtain ⟨d0, r0, e0, h0, hp0⟩ := parts_one (by kernel_rfl) hp (by simp_all <;> omega)
    subst e0
    obtain ⟨d1, r1, e1, h1, hp1⟩ := parts_one (by kernel_rfl) hp0 (by simp_all <;> omega)
    subst e1
    simp only [parts] at hp1
    subst hp1
    obtain ⟨n0, e0, w0⟩ := hasT_int Try.underlying3 h0
    cases e0
    obtain ⟨n1, e1, w1⟩ := hasT_int Try.underlying3 h1
    cases e1
    exact ⟨⟨n0, n1⟩, rfl⟩
  exact ⟨l, rfl⟩

theorem ops_of {f : Nat} {d : D} (h : hasT Try.prog (f + 5) 22 [d]) : ∃ l : List Op, d = encOps l := by
  obtain ⟨rows, he, _, hr⟩ := hasT_slice Try.underlying22 h
  cases he
  obtain ⟨l, rfl⟩ := rows_of (row := Op.row) fun r hr' => by
    obtain ⟨hl, hp⟩ := hasT_struct (n := 6) (ts := [3, 3, 3, 3, 3, 34]) Try.underlying36 (by kernel_rfl) rfl (by kernel_rfl) (hr r hr')
    obtain ⟨d0, r0, e0, h0, hp0⟩ := parts_one (by kernel_rfl) hp (by simp_all <;> omega)
    subst e0
    obtain ⟨d1, r1, e1, h1, hp1⟩ := parts_one (by kernel_rfl) hp0 (by simp_all <;> omega)
    subst e1
    obtain ⟨d2, r2, e2, h2, hp2⟩ := parts_one (by kernel_rfl) hp1 (by simp_all <;> omega)
    subst e2
    obtain ⟨d3, r3, e3, h3, hp3⟩ := parts_one (by kernel_rfl) hp2 (by simp_all <;> omega)
    subst e3
    obtain ⟨d4, r4, e4, h4, hp4⟩ := parts_one (by kernel_rfl) hp3 (by simp_all <;> omega)
    subst e4
    obtain ⟨d5, r5, e5, h5, hp5⟩ := parts_one (by kernel_rfl) hp4 (by simp_all <;> omega)
    subst e5
    simp only [parts] at hp5
    subst hp5
    obtain ⟨n0, e0, w0⟩ := hasT_int Try.underlying3 h0
    cases e0
    obtain ⟨n1, e1, w1⟩ := hasT_int Try.underlying3 h1
    cases e1
    obtain ⟨n2, e2, w2⟩ := hasT_int Try.underlying3 h2
    cases e2
    obtain ⟨n3, e3, w3⟩ := hasT_int Try.underlying3 h3
    cases e3
    obtain ⟨n4, e4, w4⟩ := hasT_int Try.underlying3 h4
    cases e4
    obtain ⟨c, rfl⟩ := cells_of h5
    exact ⟨⟨n0, n1, n2, n3, n4, c⟩, rfl⟩
  exact ⟨l, rfl⟩

theorem settings_of {f : Nat} {ds : List D} (h : hasT Try.prog (f + 2) 28 ds) : ∃ s : Settings, ds = s.row := by
  obtain ⟨hl, hp⟩ := hasT_struct (n := 20) (ts := [3, 3, 3, 3, 3, 3, 3, 4, 3, 3, 3, 3, 3, 3, 3, 3, 3, 3, 3, 3]) Try.underlying28 (by kernel_rfl) rfl (by kernel_rfl) h
  obtain ⟨d0, r0, e0, h0, hp0⟩ := parts_one (by kernel_rfl) hp (by simp_all <;> omega)
  subst e0
  obtain ⟨d1, r1, e1, h1, hp1⟩ := parts_one (by kernel_rfl) hp0 (by simp_all <;> omega)
  subst e1
  obtain ⟨d2, r2, e2, h2, hp2⟩ := parts_one (by kernel_rfl) hp1 (by simp_all <;> omega)
  subst e2
  obtain ⟨d3, r3, e3, h3, hp3⟩ := parts_one (by kernel_rfl) hp2 (by simp_all <;> omega)
  subst e3
  obtain ⟨d4, r4, e4, h4, hp4⟩ := parts_one (by kernel_rfl) hp3 (by simp_all <;> omega)
  subst e4
  obtain ⟨d5, r5, e5, h5, hp5⟩ := parts_one (by kernel_rfl) hp4 (by simp_all <;> omega)
  subst e5
  obtain ⟨d6, r6, e6, h6, hp6⟩ := parts_one (by kernel_rfl) hp5 (by simp_all <;> omega)
  subst e6
  obtain ⟨d7, r7, e7, h7, hp7⟩ := parts_one (by kernel_rfl) hp6 (by simp_all <;> omega)
  subst e7
  obtain ⟨d8, r8, e8, h8, hp8⟩ := parts_one (by kernel_rfl) hp7 (by simp_all <;> omega)
  subst e8
  obtain ⟨d9, r9, e9, h9, hp9⟩ := parts_one (by kernel_rfl) hp8 (by simp_all <;> omega)
  subst e9
  obtain ⟨d10, r10, e10, h10, hp10⟩ := parts_one (by kernel_rfl) hp9 (by simp_all <;> omega)
  subst e10
  obtain ⟨d11, r11, e11, h11, hp11⟩ := parts_one (by kernel_rfl) hp10 (by simp_all <;> omega)
  subst e11
  obtain ⟨d12, r12, e12, h12, hp12⟩ := parts_one (by kernel_rfl) hp11 (by simp_all <;> omega)
  subst e12
  obtain ⟨d13, r13, e13, h13, hp13⟩ := parts_one (by kernel_rfl) hp12 (by simp_all <;> omega)
  subst e13
  obtain ⟨d14, r14, e14, h14, hp14⟩ := parts_one (by kernel_rfl) hp13 (by simp_all <;> omega)
  subst e14
  obtain ⟨d15, r15, e15, h15, hp15⟩ := parts_one (by kernel_rfl) hp14 (by simp_all <;> omega)
  subst e15
  obtain ⟨d16, r16, e16, h16, hp16⟩ := parts_one (by kernel_rfl) hp15 (by simp_all <;> omega)
  subst e16
  obtain ⟨d17, r17, e17, h17, hp17⟩ := parts_one (by kernel_rfl) hp16 (by simp_all <;> omega)
  subst e17
  obtain ⟨d18, r18, e18, h18, hp18⟩ := parts_one (by kernel_rfl) hp17 (by simp_all <;> omega)
  subst e18
  obtain ⟨d19, r19, e19, h19, hp19⟩ := parts_one (by kernel_rfl) hp18 (by simp_all <;> omega)
  subst e19
  simp only [parts] at hp19
  subst hp19
  obtain ⟨n0, e0, w0⟩ := hasT_int Try.underlying3 h0
  cases e0
  obtain ⟨n1, e1, w1⟩ := hasT_int Try.underlying3 h1
  cases e1
  obtain ⟨n2, e2, w2⟩ := hasT_int Try.underlying3 h2
  cases e2
  obtain ⟨n3, e3, w3⟩ := hasT_int Try.underlying3 h3
  cases e3
  obtain ⟨n4, e4, w4⟩ := hasT_int Try.underlying3 h4
  cases e4
  obtain ⟨n5, e5, w5⟩ := hasT_int Try.underlying3 h5
  cases e5
  obtain ⟨n6, e6, w6⟩ := hasT_int Try.underlying3 h6
  cases e6
  obtain ⟨n7, e7⟩ := hasT_bool Try.underlying4 h7
  cases e7
  obtain ⟨n8, e8, w8⟩ := hasT_int Try.underlying3 h8
  cases e8
  obtain ⟨n9, e9, w9⟩ := hasT_int Try.underlying3 h9
  cases e9
  obtain ⟨n10, e10, w10⟩ := hasT_int Try.underlying3 h10
  cases e10
  obtain ⟨n11, e11, w11⟩ := hasT_int Try.underlying3 h11
  cases e11
  obtain ⟨n12, e12, w12⟩ := hasT_int Try.underlying3 h12
  cases e12
  obtain ⟨n13, e13, w13⟩ := hasT_int Try.underlying3 h13
  cases e13
  obtain ⟨n14, e14, w14⟩ := hasT_int Try.underlying3 h14
  cases e14
  obtain ⟨n15, e15, w15⟩ := hasT_int Try.underlying3 h15
  cases e15
  obtain ⟨n16, e16, w16⟩ := hasT_int Try.underlying3 h16
  cases e16
  obtain ⟨n17, e17, w17⟩ := hasT_int Try.underlying3 h17
  cases e17
  obtain ⟨n18, e18, w18⟩ := hasT_int Try.underlying3 h18
  cases e18
  obtain ⟨n19, e19, w19⟩ := hasT_int Try.underlying3 h19
  cases e19
  exact ⟨⟨n0, n1, n2, n3, n4, n5, n6, n7, n8, n9, n10, n11, n12, n13, n14, n15, n16, n17, n18, n19⟩, rfl⟩

theorem arg_ops {x : D} (h : hasV Try.prog 22 x) : ∃ l : List Op, x = encOps l := by
  simp only [hasV, Try.underlying22] at h
  exact ops_of (f := 25) h
theorem arg_settings {x : D} (h : hasV Try.prog 28 x) : ∃ s : Settings, x = .agg s.row := by
  simp only [hasV, Try.underlying28] at h
  obtain ⟨cs, rfl, h⟩ := h
  obtain ⟨s, rfl⟩ := settings_of (f := 28) h
  exact ⟨s, rfl⟩

theorem few_len (l : List Op) : (few l).length ≤ 40 := Nat.le_trans (List.length_filter_le _ _) (by simp; omega)
theorem few_cells (l : List Op) : ∀ o ∈ few l, o.cells.length ≤ 300 := by
  intro o ho
  have := (List.mem_filter.1 ho).2
  simpa [okOp] using this
theorem slow_len (l : List Op) (s : Settings) : (slow l s).length = l.length := by unfold slow; split <;> simp
theorem slow_cells {l : List Op} (s : Settings) (h : ∀ o ∈ l, o.cells.length ≤ 300) : ∀ o ∈ slow l s, o.cells.length ≤ 300 := by
  unfold slow
  split
  · exact lim_few _ h
  · exact h

end Go.Proofs.Ytnnpmkeojfmclaa
