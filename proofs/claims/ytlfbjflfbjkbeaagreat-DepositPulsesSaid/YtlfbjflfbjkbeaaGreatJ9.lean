/-
  Texts of this seat put together: P12, P13, P14, XC, P22, P23, P20, P15.
-/
import Derived.Test.YtlfbjflfbjkbeaaGreatJ5
import Derived.Test.YtlfbjflfbjkbeaaGreatJ8
import Derived.Test.YtlfbjflfbjkbeaaGreatJ6
set_option linter.unusedVariables false
set_option linter.unusedSimpArgs false
set_option maxRecDepth 100000
namespace Go.Proofs.YtlfbjflfbjkbeaaGreat
open Go.Abs

theorem axis_of {f : Nat} {ds : List D} (h : hasT Tryz.prog (f + 2) 32 ds) : ∃ c : Ax, ds = c.row := by
  obtain ⟨hl, hp⟩ := hasT_struct (n := 7) (ts := [3, 3, 3, 3, 3, 3, 3]) Tryz.underlying32 (by kernel_rfl) rfl (by kernel_rfl) h
  obtain ⟨d0, r0, e0, h0, hp0⟩ := parts_one (by kernel_rfl) hp (by simp_all <;> omega)
  subst e0
  obtain ⟨d1, r1, e1, h1, hp1⟩ := parts_one (by kernel_rfl) hp0 (by simp_all <;> omega)
  subst e1
  obtain ⟨d2, r2, e2, h2, hp2⟩ := parts_one (by kernel_rfl) hp1 (by simp_all <;> omega)
  subst e2
  obtain ⟨d3, r3, e3, h3, hp3⟩ := parts_one (by kernel_rfl) hp2 (by simp_all <;> omega)
  subst e3
  obtain ⟨d4, r4, e4, h4, hp4⟩ := parts_one (by kernel_rfl) hp3 (by simp_all <;> omega)
  subst e4
  obtain ⟨d5, r5, e5, h5, hp5⟩ := parts_one (by kernel_rfl) hp4 (by simp_all <;> omega)
  subst e5
  obtain ⟨d6, r6, e6, h6, hp6⟩ := parts_one (by kernel_rfl) hp5 (by simp_all <;> omega)
  subst e6
  simp only [parts] at hp6
  subst hp6
  obtain ⟨n0, e0, w0⟩ := hasT_int Tryz.underlying3 h0
  cases e0
  obtain ⟨n1, e1, w1⟩ := hasT_int Tryz.underlying3 h1
  cases e1
  obtain ⟨n2, e2, w2⟩ := hasT_int Tryz.underlying3 h2
  cases e2
  obtain ⟨n3, e3, w3⟩ := hasT_int Tryz.underlying3 h3
  cases e3
  obtain ⟨n4, e4, w4⟩ := hasT_int Tryz.underlying3 h4
  cases e4
  obtain ⟨n5, e5, w5⟩ := hasT_int Tryz.underlying3 h5
  cases e5
  obtain ⟨n6, e6, w6⟩ := hasT_int Tryz.underlying3 h6
  cases e6
  exact ⟨⟨n0, n1, n2, n3, n4, n5, n6⟩, rfl⟩
theorem hasT_arr {P : Program} {f : Nat} {t : TypeId} {ds : List D} {n m : Nat} {e : TypeId} (hu : P.underlying t = some (.array n e)) (hm : P.cellsOf e = m) (h : hasT P (f + 1) t ds) : ds.length = n * m ∧ ∀ i < n, hasT P f e ((ds.drop (i * m)).take m) := by
  simp only [hasT, hu, hm] at h; exact h
theorem arg_mach {x : D} (h : hasV Tryz.prog 35 x) : ∃ m : Mach, x = .agg m.row := by
  simp only [hasV, Tryz.underlying35] at h
  obtain ⟨cs, rfl, h⟩ := h
  obtain ⟨hl, hp⟩ := hasT_struct (n := 30) (ts := [33, 4, 3]) Tryz.underlying35 (by kernel_rfl) rfl (by kernel_rfl) h
  simp only [parts, show Tryz.prog.cellsOf 33 = 28 by kernel_rfl, show Tryz.prog.cellsOf 4 = 1 by kernel_rfl, show Tryz.prog.cellsOf 3 = 1 by kernel_rfl] at hp
  obtain ⟨h1, h2, h3, h4⟩ := hp
  obtain ⟨_, ha⟩ := hasT_arr (m := 7) Tryz.underlying33 (by kernel_rfl) h1
  match cs, hl with
  | [d0, d1, d2, d3, d4, d5, d6, d7, d8, d9, d10, d11, d12, d13, d14, d15, d16, d17, d18, d19, d20, d21, d22, d23, d24, d25, d26, d27, d28, d29], _ =>
    simp only [List.take, List.drop] at h2 h3
    obtain ⟨v, hv⟩ := hasT_bool Tryz.underlying4 h2
    obtain ⟨w, hw, _⟩ := hasT_int Tryz.underlying3 h3
    have q0 := ha 0 (by omega)
    have q1 := ha 1 (by omega)
    have q2 := ha 2 (by omega)
    have q3 := ha 3 (by omega)
    simp only [Nat.zero_mul, Nat.one_mul, Nat.reduceMul, List.take, List.drop] at q0 q1 q2 q3
    obtain ⟨x0, e0⟩ := axis_of q0
    obtain ⟨x1, e1⟩ := axis_of q1
    obtain ⟨x2, e2⟩ := axis_of q2
    obtain ⟨x3, e3⟩ := axis_of q3
    simp only [Ax.row, List.cons.injEq, and_true] at e0 e1 e2 e3 hv hw
    refine ⟨⟨x0, x1, x2, x3, v, w⟩, ?_⟩
    simp [Mach.row, e0, e1, e2, e3, hv, hw]
theorem arg_sett {x : D} (h : hasV Tryz.prog 37 x) : ∃ s : Sett, x = .agg s.row := by
  simp only [hasV, Tryz.underlying37] at h
  obtain ⟨cs, rfl, h⟩ := h
  obtain ⟨hl, hp⟩ := hasT_struct (n := 20) (ts := [3, 3, 3, 3, 3, 3, 3, 4, 3, 3, 3, 3, 3, 3, 3, 3, 3, 3, 3, 3]) Tryz.underlying37 (by kernel_rfl) rfl (by kernel_rfl) h
  obtain ⟨d0, r0, e0, h0, hp0⟩ := parts_one (by kernel_rfl) hp (by simp_all <;> omega)
  subst e0
  obtain ⟨d1, r1, e1, h1, hp1⟩ := parts_one (by kernel_rfl) hp0 (by simp_all <;> omega)
  subst e1
  obtain ⟨d2, r2, e2, h2, hp2⟩ := parts_one (by kernel_rfl) hp1 (by simp_all <;> omega)
  subst e2
  obtain ⟨d3, r3, e3, h3, hp3⟩ := parts_one (by kernel_rfl) hp2 (by simp_all <;> omega)
  subst e3
  obtain ⟨d4, r4, e4, h4, hp4⟩ := parts_one (by kernel_rfl) hp3 (by simp_all <;> omega)
  subst e4
  obtain ⟨d5, r5, e5, h5, hp5⟩ := parts_one (by kernel_rfl) hp4 (by simp_all <;> omega)
  subst e5
  obtain ⟨d6, r6, e6, h6, hp6⟩ := parts_one (by kernel_rfl) hp5 (by simp_all <;> omega)
  subst e6
  obtain ⟨d7, r7, e7, h7, hp7⟩ := parts_one (by kernel_rfl) hp6 (by simp_all <;> omega)
  subst e7
  obtain ⟨d8, r8, e8, h8, hp8⟩ := parts_one (by kernel_rfl) hp7 (by simp_all <;> omega)
  subst e8
  obtain ⟨d9, r9, e9, h9, hp9⟩ := parts_one (by kernel_rfl) hp8 (by simp_all <;> omega)
  subst e9
  obtain ⟨d10, r10, e10, h10, hp10⟩ := parts_one (by kernel_rfl) hp9 (by simp_all <;> omega)
  subst e10
  obtain ⟨d11, r11, e11, h11, hp11⟩ := parts_one (by kernel_rfl) hp10 (by simp_all <;> omega)
  subst e11
  obtain ⟨d12, r12, e12, h12, hp12⟩ := parts_one (by kernel_rfl) hp11 (by simp_all <;> omega)
  subst e12
  obtain ⟨d13, r13, e13, h13, hp13⟩ := parts_one (by kernel_rfl) hp12 (by simp_all <;> omega)
  subst e13
  obtain ⟨d14, r14, e14, h14, hp14⟩ := parts_one (by kernel_rfl) hp13 (by simp_all <;> omega)
  subst e14
  obtain ⟨d15, r15, e15, h15, hp15⟩ := parts_one (by kernel_rfl) hp14 (by simp_all <;> omega)
  subst e15
  obtain ⟨d16, r16, e16, h16, hp16⟩ := parts_one (by kernel_rfl) hp15 (by simp_all <;> omega)
  subst e16
  obtain ⟨d17, r17, e17, h17, hp17⟩ := parts_one (by kernel_rfl) hp16 (by simp_all <;> omega)
  subst e17
  obtain ⟨d18, r18, e18, h18, hp18⟩ := parts_one (by kernel_rfl) hp17 (by simp_all <;> omega)
  subst e18
  obtain ⟨d19, r19, e19, h19, hp19⟩ := parts_one (by kernel_rfl) hp18 (by simp_all <;> omega)
  subst e19
  simp only [parts] at hp19
  subst hp19
  obtain ⟨n0, e0, w0⟩ := hasT_int Tryz.underlying3 h0
  cases e0
  obtain ⟨n1, e1, w1⟩ := hasT_int Tryz.underlying3 h1
  cases e1
  obtain ⟨n2, e2, w2⟩ := hasT_int Tryz.underlying3 h2
  cases e2
  obtain ⟨n3, e3, w3⟩ := hasT_int Tryz.underlying3 h3
  cases e3
  obtain ⟨n4, e4, w4⟩ := hasT_int Tryz.underlying3 h4
  cases e4
  obtain ⟨n5, e5, w5⟩ := hasT_int Tryz.underlying3 h5
  cases e5
  obtain ⟨n6, e6, w6⟩ := hasT_int Tryz.underlying3 h6
  cases e6
  obtain ⟨n7, e7⟩ := hasT_bool Tryz.underlying4 h7
  cases e7
  obtain ⟨n8, e8, w8⟩ := hasT_int Tryz.underlying3 h8
  cases e8
  obtain ⟨n9, e9, w9⟩ := hasT_int Tryz.underlying3 h9
  cases e9
  obtain ⟨n10, e10, w10⟩ := hasT_int Tryz.underlying3 h10
  cases e10
  obtain ⟨n11, e11, w11⟩ := hasT_int Tryz.underlying3 h11
  cases e11
  obtain ⟨n12, e12, w12⟩ := hasT_int Tryz.underlying3 h12
  cases e12
  obtain ⟨n13, e13, w13⟩ := hasT_int Tryz.underlying3 h13
  cases e13
  obtain ⟨n14, e14, w14⟩ := hasT_int Tryz.underlying3 h14
  cases e14
  obtain ⟨n15, e15, w15⟩ := hasT_int Tryz.underlying3 h15
  cases e15
  obtain ⟨n16, e16, w16⟩ := hasT_int Tryz.underlying3 h16
  cases e16
  obtain ⟨n17, e17, w17⟩ := hasT_int Tryz.underlying3 h17
  cases e17
  obtain ⟨n18, e18, w18⟩ := hasT_int Tryz.underlying3 h18
  cases e18
  obtain ⟨n19, e19, w19⟩ := hasT_int Tryz.underlying3 h19
  cases e19
  exact ⟨⟨n0, n1, n2, n3, n4, n5, n6, n7, n8, n9, n10, n11, n12, n13, n14, n15, n16, n17, n18, n19⟩, rfl⟩
theorem ints4_of {f : Nat} {ds : List D} (h : hasT Tryz.prog (f + 2) 22 ds) : ∃ x : Pos, ds = x.row := by
  obtain ⟨hl, ha⟩ := hasT_arr (m := 1) Tryz.underlying22 (by kernel_rfl) h
  match ds, hl with
  | [d0, d1, d2, d3], _ =>
    have q0 := ha 0 (by omega)
    have q1 := ha 1 (by omega)
    have q2 := ha 2 (by omega)
    have q3 := ha 3 (by omega)
    simp only [Nat.zero_mul, Nat.one_mul, Nat.reduceMul, List.take, List.drop] at q0 q1 q2 q3
    obtain ⟨x0, e0, _⟩ := hasT_int Tryz.underlying3 q0
    obtain ⟨x1, e1, _⟩ := hasT_int Tryz.underlying3 q1
    obtain ⟨x2, e2, _⟩ := hasT_int Tryz.underlying3 q2
    obtain ⟨x3, e3, _⟩ := hasT_int Tryz.underlying3 q3
    simp only [List.cons.injEq, and_true] at e0 e1 e2 e3
    exact ⟨⟨x0, x1, x2, x3⟩, by simp [e0, e1, e2, e3]⟩
theorem arg_pos {x : D} (h : hasV Tryz.prog 22 x) : ∃ p : Pos, x = .agg p.row := by
  simp only [hasV, Tryz.underlying22] at h
  obtain ⟨cs, rfl, h⟩ := h
  obtain ⟨s, rfl⟩ := ints4_of (f := 28) h
  exact ⟨s, rfl⟩
def zeroMach : Value := .agg #[.int .i64 0, .int .i64 0, .int .i64 0, .int .i64 0, .int .i64 0, .int .i64 0, .int .i64 0, .int .i64 0, .int .i64 0, .int .i64 0, .int .i64 0, .int .i64 0, .int .i64 0, .int .i64 0, .int .i64 0, .int .i64 0, .int .i64 0, .int .i64 0, .int .i64 0, .int .i64 0, .int .i64 0, .int .i64 0, .int .i64 0, .int .i64 0, .int .i64 0, .int .i64 0, .int .i64 0, .int .i64 0, .bool false, .int .i64 0]
def zeroSett : Value := .agg #[.int .i64 0, .int .i64 0, .int .i64 0, .int .i64 0, .int .i64 0, .int .i64 0, .int .i64 0, .bool false, .int .i64 0, .int .i64 0, .int .i64 0, .int .i64 0, .int .i64 0, .int .i64 0, .int .i64 0, .int .i64 0, .int .i64 0, .int .i64 0, .int .i64 0, .int .i64 0]
def zeroPos : Value := .agg #[.int .i64 0, .int .i64 0, .int .i64 0, .int .i64 0]
end Go.Proofs.YtlfbjflfbjkbeaaGreat

namespace Go.Proofs.YtlfbjflfbjkbeaaGreat
open Go.Abs

def axM : Ax := ⟨2, 1, 1000, 50, 10, -9000, 9000⟩
def axZ : Ax := ⟨0, 0, 0, 0, 0, 0, 0⟩
def awM : Mach := ⟨axM, axM, axM, axM, false, 1000⟩
def awS : Sett := ⟨100, 20, 0, 0, 0, 0, 0, false, 0, 0, 0, 0, 0, 0, 0, 0, 0, 0, 0, 0⟩
def awP : Pos := ⟨300, -2, 40, 0⟩
def awB : Bench := ⟨awP, 0, 0, 0, 0, 0, 0, 0, 0, 0, 0, 1, 0, 0, [], 0, false, false, false⟩
theorem machine_ok : PC Tryz.prog 28 [] (.p (.agg awM.row)) := by
  have w3 : IntKind.i64.wrap 3 = 3 := by decide
  have w4 : IntKind.i64.wrap 4 = 4 := by decide
  refine pc_of_awp cx (fn := Tryz.f28) (c := _) Tryz.func28 rfl rfl (Nat.le_of_ble_eq_true rfl) ?_
  rw [Tryz.ntmps28]; refine Nav.imp ?_
  refine awp_region cx [] fun K hK => ?_
  simp [push_cast]
  repeat (refine And.intro (by clear hK; intros; first | omega | (simp_all; done) | (simp_all <;> omega)) ?_)
  refine hK _ ?_; clear hK K; refine Nav.imp ?_
  refine awp_region cx [] fun K hK => ?_
  simp [push_cast]
  repeat (refine And.intro (by clear hK; intros; first | omega | (simp_all; done) | (simp_all <;> omega)) ?_)
  refine hK _ ?_; clear hK K; refine Nav.imp ?_
  refine awp_region cx [] fun K hK => ?_
  simp [push_cast]
  repeat (refine And.intro (by clear hK; intros; first | omega | (simp_all; done) | (simp_all <;> omega)) ?_)
  refine hK _ ?_; clear hK K; refine Nav.imp ?_
  refine awp_loop (β := Nat) (fun i => ⟨13, [(0, .ptr 0 0 0), (1, .ptr 1 0 0), (2, .d (.int .i64 i))], [(0, some ⟨35, 30, [(Mach.row ⟨axZ, axZ, axZ, axZ, false, 0⟩).map .d]⟩), (1, some ⟨35, 30, [(Mach.row ⟨if 0 < i then axM else axZ, if 1 < i then axM else axZ, if 2 < i then axM else axZ, if 3 < i then axM else axZ, false, 1000⟩).map .d]⟩)], 2⟩) (fun i => i ≤ 4) (fun i => 4 - i) 0 ?_ (Nat.zero_le _) ?_
  · refine weak_of [(0, some 0), (1, some 2)] rfl (by simp [upT, up, upL, push_cast, axZ]) (by simp [upH, upR, upL, up, push_cast, axZ]) (by simp [namesOk, push_cast]) (by simp [olds])
  · rintro i hi
    rcases (show i = 0 ∨ i = 1 ∨ i = 2 ∨ i = 3 ∨ i = 4 by omega) with rfl | rfl | rfl | rfl | rfl
    · simp (config := { decide := true }) only [if_true, if_false]
      simp only [axM, axZ]
      refine Nav.imp ?_
      refine awp_region cx [] fun K hK => ?_
      simp [push_cast]
      repeat (refine And.intro (by clear hK; intros; first | omega | (simp_all; done) | (simp_all <;> omega)) ?_)
      refine hK _ ?_; clear hK K; refine Nav.imp ?_
      refine awp_cond (b := true) (by simp [push_cast]) (fun hb => ?_) (fun hb => ?_) <;> (refine Nav.imp ?_)
      · refine awp_region cx [] fun K hK => ?_
        simp [push_cast]
        repeat (refine And.intro (by clear hK; intros; first | omega | (simp_all; done) | (simp_all <;> omega)) ?_)
        refine hK _ ?_; clear hK K; refine Nav.imp ?_
        refine awp_region cx [] fun K hK => ?_
        simp [push_cast, w3, w4]
        repeat (refine And.intro (by clear hK; intros; first | omega | (simp_all; done) | (simp_all <;> omega)) ?_)
        refine hK _ ?_; clear hK K; refine Nav.imp ?_
        refine ⟨1, by omega, by omega, ?_⟩
        refine weak_of [(0, some 0), (1, some 1)] rfl (by simp [upT, up, upL, push_cast, axM, axZ]) (by simp [upH, upR, upL, up, push_cast, axM, axZ]) (by simp [namesOk, push_cast]) (by simp [olds])
      · simp at hb
    · simp (config := { decide := true }) only [if_true, if_false]
      simp only [axM, axZ]
      refine Nav.imp ?_
      refine awp_region cx [] fun K hK => ?_
      simp [push_cast]
      repeat (refine And.intro (by clear hK; intros; first | omega | (simp_all; done) | (simp_all <;> omega)) ?_)
      refine hK _ ?_; clear hK K; refine Nav.imp ?_
      refine awp_cond (b := true) (by simp [push_cast]) (fun hb => ?_) (fun hb => ?_) <;> (refine Nav.imp ?_)
      · refine awp_region cx [] fun K hK => ?_
        simp [push_cast]
        repeat (refine And.intro (by clear hK; intros; first | omega | (simp_all; done) | (simp_all <;> omega)) ?_)
        refine hK _ ?_; clear hK K; refine Nav.imp ?_
        refine awp_region cx [] fun K hK => ?_
        simp [push_cast, w3, w4]
        repeat (refine And.intro (by clear hK; intros; first | omega | (simp_all; done) | (simp_all <;> omega)) ?_)
        refine hK _ ?_; clear hK K; refine Nav.imp ?_
        refine ⟨2, by omega, by omega, ?_⟩
        refine weak_of [(0, some 0), (1, some 1)] rfl (by simp [upT, up, upL, push_cast, axM, axZ]) (by simp [upH, upR, upL, up, push_cast, axM, axZ]) (by simp [namesOk, push_cast]) (by simp [olds])
      · simp at hb
    · simp (config := { decide := true }) only [if_true, if_false]
      simp only [axM, axZ]
      refine Nav.imp ?_
      refine awp_region cx [] fun K hK => ?_
      simp [push_cast]
      repeat (refine And.intro (by clear hK; intros; first | omega | (simp_all; done) | (simp_all <;> omega)) ?_)
      refine hK _ ?_; clear hK K; refine Nav.imp ?_
      refine awp_cond (b := true) (by simp [push_cast]) (fun hb => ?_) (fun hb => ?_) <;> (refine Nav.imp ?_)
      · refine awp_region cx [] fun K hK => ?_
        simp [push_cast]
        repeat (refine And.intro (by clear hK; intros; first | omega | (simp_all; done) | (simp_all <;> omega)) ?_)
        refine hK _ ?_; clear hK K; refine Nav.imp ?_
        refine awp_region cx [] fun K hK => ?_
        simp [push_cast, w3, w4]
        repeat (refine And.intro (by clear hK; intros; first | omega | (simp_all; done) | (simp_all <;> omega)) ?_)
        refine hK _ ?_; clear hK K; refine Nav.imp ?_
        refine ⟨3, by omega, by omega, ?_⟩
        refine weak_of [(0, some 0), (1, some 1)] rfl (by simp [upT, up, upL, push_cast, axM, axZ]) (by simp [upH, upR, upL, up, push_cast, axM, axZ]) (by simp [namesOk, push_cast]) (by simp [olds])
      · simp at hb
    · simp (config := { decide := true }) only [if_true, if_false]
      simp only [axM, axZ]
      refine Nav.imp ?_
      refine awp_region cx [] fun K hK => ?_
      simp [push_cast]
      repeat (refine And.intro (by clear hK; intros; first | omega | (simp_all; done) | (simp_all <;> omega)) ?_)
      refine hK _ ?_; clear hK K; refine Nav.imp ?_
      refine awp_cond (b := true) (by simp [push_cast]) (fun hb => ?_) (fun hb => ?_) <;> (refine Nav.imp ?_)
      · refine awp_region cx [] fun K hK => ?_
        simp [push_cast]
        repeat (refine And.intro (by clear hK; intros; first | omega | (simp_all; done) | (simp_all <;> omega)) ?_)
        refine hK _ ?_; clear hK K; refine Nav.imp ?_
        refine awp_region cx [] fun K hK => ?_
        simp [push_cast, w3, w4]
        repeat (refine And.intro (by clear hK; intros; first | omega | (simp_all; done) | (simp_all <;> omega)) ?_)
        refine hK _ ?_; clear hK K; refine Nav.imp ?_
        refine ⟨4, by omega, by omega, ?_⟩
        refine weak_of [(0, some 0), (1, some 1)] rfl (by simp [upT, up, upL, push_cast, axM, axZ]) (by simp [upH, upR, upL, up, push_cast, axM, axZ]) (by simp [namesOk, push_cast]) (by simp [olds])
      · simp at hb
    · simp (config := { decide := true }) only [if_true, if_false]
      simp only [axM, axZ]
      refine Nav.imp ?_
      refine awp_region cx [] fun K hK => ?_
      simp [push_cast]
      repeat (refine And.intro (by clear hK; intros; first | omega | (simp_all; done) | (simp_all <;> omega)) ?_)
      refine hK _ ?_; clear hK K; refine Nav.imp ?_
      refine awp_cond (b := false) (by simp [push_cast]) (fun hb => ?_) (fun hb => ?_) <;> (refine Nav.imp ?_)
      · simp at hb
      · refine awp_region cx [] fun K hK => ?_
        simp [push_cast]
        repeat (refine And.intro (by clear hK; intros; first | omega | (simp_all; done) | (simp_all <;> omega)) ?_)
        refine hK _ ?_; clear hK K; refine Nav.imp ?_
        simp [push_cast, awM, axM]
theorem aw_under : underD awM awS awP = .tup [.agg [.int .i64 1, .int .i64 (-1)], .int .i64 0] := by kernel_rfl
theorem aw_pulse : pulseB awB awM awS ⟨0, 0, 0, 1⟩ = { awB with real := ⟨300, -2, 40, 1⟩, filament := 0, lays := [[⟨-1, [⟨1, 2⟩]⟩]] } := by kernel_rfl
theorem aw_con : conB [⟨-1, [⟨1, 2⟩]⟩] ⟨1, -1⟩ = true := by kernel_rfl
theorem awake55_ok : PC Tryz.prog 9 [] (.p (.bool true)) := by
  have c0 := machine_ok
  have c1 := under_ok awM awS awP
  rw [aw_under] at c1
  simp only [Sett.row, Pos.row, awS, awP] at c1
  have c2 := pulse_ok awB awM awS ⟨0, 0, 0, 1⟩ ⟨by simp [awB], by simp [awB]⟩
  rw [aw_pulse] at c2
  simp only [Bench.row, Pos.row, Sett.row, awS, awP, awB, encLays, List.map_nil] at c2
  have c3 := contains18_ok [⟨-1, [⟨1, 2⟩]⟩] ⟨1, -1⟩ (small_valid (by kernel_rfl))
  rw [aw_con] at c3
  refine pc_of_awp cx (fn := Tryz.f9) (c := _) Tryz.func9 rfl rfl (Nat.le_of_ble_eq_true rfl) ?_
  rw [Tryz.ntmps9]; refine Nav.imp ?_
  refine awp_region cx [] fun K hK => ?_
  simp [push_cast]
  repeat (refine And.intro (by clear hK; intros; first | omega | (simp_all; done) | (simp_all <;> omega)) ?_)
  refine hK _ ?_; clear hK K; refine Nav.imp ?_
  refine awp_region cx [] fun K hK => ?_
  simp [push_cast]
  repeat (refine And.intro (by clear hK; intros; first | omega | (simp_all; done) | (simp_all <;> omega)) ?_)
  refine hK _ ?_; clear hK K; refine Nav.imp ?_
  refine awp_region_draw cx mixed [(0, .p (.agg awM.row)), (3, .p (.tup [.agg [.int .i64 1, .int .i64 (-1)], .int .i64 0]))] fun K hK => ?_
  simp [push_cast, c0, c1]
  repeat (refine And.intro (by clear hK; intros; first | omega | (simp_all; done) | (simp_all <;> omega)) ?_)
  refine hK _ _ (by kernel_rfl) ?_; clear hK K; refine Nav.imp ?_
  refine awp_region_draw cx mixed [(2, .p (.agg awM.row)), (5, .p (.agg (Bench.row { awB with real := ⟨300, -2, 40, 1⟩, filament := 0, lays := [[⟨-1, [⟨1, 2⟩]⟩]] })))] fun K hK => ?_
  simp [push_cast, c0, c2, awS, awP, awB]
  repeat (refine And.intro (by clear hK; intros; first | omega | (simp_all; done) | (simp_all <;> omega)) ?_)
  refine hK _ _ (by kernel_rfl) ?_; clear hK K; refine Nav.imp ?_
  refine awp_region_draw cx mixed [(19, .p (.bool true))] fun K hK => ?_
  simp [push_cast, c3, Row.row, Run.row, Cell.row]
  repeat (refine And.intro (by clear hK; intros; first | omega | (simp_all; done) | (simp_all <;> omega)) ?_)
  refine hK _ _ (by kernel_rfl) ?_; clear hK K; refine Nav.imp ?_
  simp [push_cast]

end Go.Proofs.YtlfbjflfbjkbeaaGreat

namespace Go.Proofs.YtlfbjflfbjkbeaaGreat
open Go.Abs

def cutW (w : Row) : Row := ⟨w.y, w.runs.take 4⟩
def fewR (R : List Row) : List Row := (R.take 8).map cutW
def fewL (L : List (List Row)) : List (List Row) := (L.take 6).map fewR
def fewB (b : Bench) : Bench := { b with lays := fewL b.lays }
theorem few_facts (L : List (List Row)) : (fewL L).length ≤ 6 ∧ ∀ R ∈ fewL L, R.length ≤ 8 ∧ ∀ w ∈ R, w.runs.length ≤ 4 := by
  refine ⟨by simp [fewL]; omega, fun R hR => ?_⟩
  obtain ⟨S, _, rfl⟩ := List.mem_map.1 hR
  refine ⟨by simp [fewR]; omega, fun w hw => ?_⟩
  obtain ⟨v, _, rfl⟩ := List.mem_map.1 hw
  simp [cutW]; omega
theorem few_small (b : Bench) : smallL (fewB b).lays := by
  obtain ⟨h1, h2⟩ := few_facts b.lays
  refine ⟨by simp only [fewB]; omega, fun R hR => ?_⟩
  obtain ⟨h3, h4⟩ := h2 R hR
  exact ⟨by omega, fun w hw => by have := h4 w hw; omega⟩
theorem map_take_get {α β : Type} (f : α → β) {l : List α} {k : Nat} {x : α} (h : l[k]? = some x) : (l.take (k + 1)).map f = (l.take k).map f ++ [f x] := by
  rw [take_get h, List.map_append]; rfl
set_option maxHeartbeats 4000000 in
theorem few_ok (b : Bench) : PC Tryz.prog 5 [.agg b.row] (.p (.agg (fewB b).row)) := by
  have hB : (fewB b).row = Bench.row { b with lays := fewL b.lays } := rfl
  rw [hB]
  generalize hF : fewL b.lays = F at *
  refine pc_of_awp cx (fn := Tryz.f5) (c := _) Tryz.func5 rfl rfl (Nat.le_of_ble_eq_true rfl) ?_
  rw [Tryz.ntmps5]; refine Nav.imp ?_
  refine awp_region cx [] fun K hK => ?_
  simp [push_cast]
  repeat (refine And.intro (by clear hK; intros; first | omega | (simp_all; done) | (simp_all <;> omega)) ?_)
  refine hK _ ?_; clear hK K; refine Nav.imp ?_
  refine awp_region cx [] fun K hK => ?_
  simp [push_cast]
  repeat (refine And.intro (by clear hK; intros; first | omega | (simp_all; done) | (simp_all <;> omega)) ?_)
  refine hK _ ?_; clear hK K; refine Nav.imp ?_
  refine awp_region cx [] fun K hK => ?_
  simp [push_cast]
  repeat (refine And.intro (by clear hK; intros; first | omega | (simp_all; done) | (simp_all <;> omega)) ?_)
  refine hK _ ?_; clear hK K; refine Nav.imp ?_
  refine awp_loop (β := Nat × List (List Row)) (fun z => ⟨64, [(1, .ptr 0 0 0), (2, .ptr 1 0 0), (3, .hs 2 0 z.2.length), (4, .d (.int .i64 z.1))], [(0, some ⟨30, 22, [b.row.map .d]⟩), (1, some ⟨30, 22, benchZ⟩), (2, some ⟨48, 1, dr (z.2.map regRow)⟩)], 3⟩) (fun z => z.1 ≤ b.lays.length ∧ z.1 ≤ 6 ∧ z.2 = (b.lays.take z.1).map fewR) (fun z => 6 - z.1) (0, []) ?_ ⟨Nat.zero_le _, by omega, by simp⟩ ?_
  · refine weak_of [(0, some 0), (1, some 1), (2, none)] rfl (by simp [upT, up, upL, push_cast]) (by simp [upH, upR, upL, up, push_cast]) (by simp [namesOk, push_cast]) (by simp [olds])
  · rintro ⟨i, G⟩ ⟨hi, hi6, hG⟩
    simp only at hi hi6 hG
    refine Nav.imp ?_
    refine awp_region cx [] fun K hK => ?_
    simp [push_cast]
    repeat (refine And.intro (by clear hK; intros; first | omega | (simp_all; done) | (simp_all <;> omega)) ?_)
    refine hK _ ?_; clear hK K; refine Nav.imp ?_
    refine awp_cond (b := decide (i < b.lays.length) && decide ((i : Int) < 6)) (by simp [push_cast]) (fun hb => ?_) (fun hb => ?_) <;> (refine Nav.imp ?_)
    · obtain ⟨hlt, hl6⟩ : i < b.lays.length ∧ i < 6 := by simp at hb; omega
      obtain ⟨R, hR⟩ := getq hlt
      have e0 := wrap_i64 (n := (i : Int) + 1) (by omega) (by omega)
      have hGl : G.length ≤ 6 := by rw [hG]; simp; omega
      have h24 : (G.length + 1) * 24 ≤ 140737488355328 := by omega
      have hGn := map_take_get fewR hR
      rw [← hG] at hGn
      refine awp_region cx [] fun K hK => ?_
      simp [push_cast]
      repeat (refine And.intro (by clear hK; intros; first | omega | (simp_all; done) | (simp_all <;> omega)) ?_)
      refine hK _ ?_; clear hK K; refine Nav.imp ?_
      refine awp_region cx [] fun K hK => ?_
      simp [push_cast]
      repeat (refine And.intro (by clear hK; intros; first | omega | (simp_all; done) | (simp_all <;> omega)) ?_)
      refine hK _ ?_; clear hK K; refine Nav.imp ?_
      refine awp_loop (β := Nat × List Row) (fun z => ⟨64, [(1, .ptr 0 0 0), (2, .ptr 1 0 0), (3, .hs 2 0 G.length), (4, .d (.int .i64 i)), (5, .ptr 3 0 0), (6, .d (.int .i64 z.1))], [(0, some ⟨30, 22, [b.row.map .d]⟩), (1, some ⟨30, 22, benchZ⟩), (2, some ⟨48, 1, dr (G.map regRow)⟩), (3, some ⟨48, 1, [[.hs 4 0 z.2.length]]⟩), (4, some ⟨51, 2, dr (z.2.map Row.row)⟩)], 5⟩) (fun z => z.1 ≤ R.length ∧ z.1 ≤ 8 ∧ z.2 = (R.take z.1).map cutW) (fun z => 8 - z.1) (0, []) ?_ ⟨Nat.zero_le _, by omega, by simp⟩ ?_
      · refine weak_of [(0, some 0), (1, some 1), (2, some 2), (3, some 12), (4, none)] rfl (by simp [upT, up, upL, push_cast]) (by simp [upH, upR, upL, up, push_cast]) (by simp [namesOk, push_cast]) (by simp [olds])
      · rintro ⟨k, X⟩ ⟨hk, hk8, hX⟩
        simp only at hk hk8 hX
        refine Nav.imp ?_
        refine awp_region cx [] fun K hK => ?_
        simp [push_cast, hR]
        repeat (refine And.intro (by clear hK; intros; first | omega | (simp_all; done) | (simp_all <;> omega)) ?_)
        refine hK _ ?_; clear hK K; refine Nav.imp ?_
        refine awp_cond (b := decide (k < R.length) && decide ((k : Int) < 8)) (by simp [push_cast]) (fun hb => ?_) (fun hb => ?_) <;> (refine Nav.imp ?_)
        · obtain ⟨hlk, hl8⟩ : k < R.length ∧ k < 8 := by simp at hb; omega
          obtain ⟨w, hw⟩ := getq hlk
          have e1 := wrap_i64 (n := (k : Int) + 1) (by omega) (by omega)
          have hXl : X.length ≤ 8 := by rw [hX]; simp; omega
          have h32 : (X.length + 1) * 32 ≤ 140737488355328 := by omega
          have hnx := map_take_get cutW hw
          rw [← hX] at hnx
          refine awp_region cx [] fun K hK => ?_
          simp [push_cast, hR, hw, Row.row]
          repeat (refine And.intro (by clear hK; intros; first | omega | (simp_all; done) | (simp_all <;> omega)) ?_)
          refine hK _ ?_; clear hK K; refine Nav.imp ?_
          refine awp_region cx [] fun K hK => ?_
          simp [push_cast]
          repeat (refine And.intro (by clear hK; intros; first | omega | (simp_all; done) | (simp_all <;> omega)) ?_)
          refine hK _ ?_; clear hK K; refine Nav.imp ?_
          by_cases q : (4 : Int) < w.runs.length
          · have hc : cutW w = ⟨w.y, w.runs.take 4⟩ := rfl
            rw [hc] at hnx
            have q4 : 4 ≤ w.runs.length := by omega
            have hm : List.take 4 (w.runs.map Run.row) = (w.runs.take 4).map Run.row := (List.map_take ..).symm
            generalize w.runs.take 4 = U at *
            refine awp_cond (b := true) (by simp [push_cast, q]) (fun hb => ?_) (fun hb => ?_) <;> (refine Nav.imp ?_)
            · refine awp_region cx [] fun K hK => ?_
              simp [push_cast, q, q4, hm]
              repeat (refine And.intro (by clear hK; intros; first | omega | (simp_all; done) | (simp_all <;> omega)) ?_)
              refine hK _ ?_; clear hK K; refine Nav.imp ?_
              refine awp_region cx [] fun K hK => ?_
              simp [push_cast, h32, Row.row]
              repeat (refine And.intro (by clear hK; intros; first | omega | (simp_all; done) | (simp_all <;> omega)) ?_)
              refine hK _ ?_; clear hK K; refine Nav.imp ?_
              refine awp_region cx [] fun K hK => ?_
              simp [push_cast, e1]
              repeat (refine And.intro (by clear hK; intros; first | omega | (simp_all; done) | (simp_all <;> omega)) ?_)
              refine hK _ ?_; clear hK K; refine Nav.imp ?_
              refine ⟨(k + 1, X ++ [⟨w.y, U⟩]), ⟨hlk, by simp only; omega, hnx.symm⟩, by simp only; omega, ?_⟩
              refine weak_of [(0, some 0), (1, some 1), (2, some 2), (3, some 3), (4, some 42)] rfl (by simp [upT, up, upL, push_cast, Row.row]) (by simp [upH, upR, upL, up, push_cast, Row.row]) (by simp [namesOk, push_cast]) (by simp [olds])
            · simp at hb
          · have q' : ((w.runs.length : Int) ≤ 4) := by omega
            refine awp_cond (b := false) (by simp [push_cast, q']) (fun hb => ?_) (fun hb => ?_) <;> (refine Nav.imp ?_)
            · simp at hb
            · have ht : w.runs.take 4 = w.runs := List.take_of_length_le (by omega)
              have hc : cutW w = w := by simp only [cutW, ht]
              rw [hc] at hnx
              refine awp_region cx [] fun K hK => ?_
              simp [push_cast, h32, Row.row]
              repeat (refine And.intro (by clear hK; intros; first | omega | (simp_all; done) | (simp_all <;> omega)) ?_)
              refine hK _ ?_; clear hK K; refine Nav.imp ?_
              refine awp_region cx [] fun K hK => ?_
              simp [push_cast, e1]
              repeat (refine And.intro (by clear hK; intros; first | omega | (simp_all; done) | (simp_all <;> omega)) ?_)
              refine hK _ ?_; clear hK K; refine Nav.imp ?_
              refine ⟨(k + 1, X ++ [w]), ⟨hlk, by simp only; omega, hnx.symm⟩, by simp only; omega, ?_⟩
              refine weak_of [(0, some 0), (1, some 1), (2, some 2), (3, some 3), (4, some 37)] rfl (by simp [upT, up, upL, push_cast, Row.row]) (by simp [upH, upR, upL, up, push_cast, Row.row]) (by simp [namesOk, push_cast]) (by simp [olds])
        · have hex : X = fewR R := by
            rw [hX]
            unfold fewR
            by_cases q : k = 8
            · subst q; rfl
            · have : k = R.length := by
                simp at hb; omega
              subst this
              rw [List.take_length, List.take_of_length_le (by omega)]
          refine awp_freeze 4 (X.map Row.row) rfl (by simp [push_cast]) fun K hK => ?_
          simp [push_cast, St.fz, fzT, fzH, fzO, fz, fzL, fzR, fzR_dr, fzR_app, fzR_set, fzL_map]
          refine hK _ ?_; clear hK K; refine Nav.imp ?_
          refine awp_region cx [] fun K hK => ?_
          simp [push_cast, h24]
          repeat (refine And.intro (by clear hK; intros; first | omega | (simp_all; done) | (simp_all <;> omega)) ?_)
          refine hK _ ?_; clear hK K; refine Nav.imp ?_
          refine awp_region cx [] fun K hK => ?_
          simp [push_cast, e0]
          repeat (refine And.intro (by clear hK; intros; first | omega | (simp_all; done) | (simp_all <;> omega)) ?_)
          refine hK _ ?_; clear hK K; refine Nav.imp ?_
          refine ⟨(i + 1, G ++ [X]), ⟨hlt, by simp only; omega, by rw [hGn, hex]⟩, by simp only; omega, ?_⟩
          refine weak_of [(0, some 0), (1, some 1), (2, some 21)] rfl (by simp [upT, up, upL, push_cast]) (by simp [upH, upR, upL, up, push_cast]) (by simp [namesOk, push_cast]) (by simp [olds])
    · have hex : G = F := by
        rw [← hF, hG]; unfold fewL
        by_cases q : i = 6
        · subst q; rfl
        · have : i = b.lays.length := by
            simp at hb; omega
          subst this
          rw [List.take_length, List.take_of_length_le (by omega)]
      subst hex
      refine awp_region cx [] fun K hK => ?_
      simp [push_cast]
      repeat (refine And.intro (by clear hK; intros; first | omega | (simp_all; done) | (simp_all <;> omega)) ?_)
      refine hK _ ?_; clear hK K; refine Nav.imp ?_
      refine awp_region cx [] fun K hK => ?_
      simp [push_cast]
      repeat (refine And.intro (by clear hK; intros; first | omega | (simp_all; done) | (simp_all <;> omega)) ?_)
      refine hK _ ?_; clear hK K; refine Nav.imp ?_
      simp [push_cast]
end Go.Proofs.YtlfbjflfbjkbeaaGreat

namespace Go.Proofs.YtlfbjflfbjkbeaaGreat
open Go.Abs

end Go.Proofs.YtlfbjflfbjkbeaaGreat

namespace Go.Proofs.YtlfbjflfbjkbeaaGreat
open Go.Abs

theorem pulse_cases (b : Bench) (m : Mach) (s : Sett) (p : Pos) : pulseB b m s p = b ∨ (unitP p = true ∧ rightB m s = true ∧ validE b = true ∧ soundB (pulseW b m s p) = true ∧ pulseB b m s p = pulseW b m s p) := by
  unfold pulseB
  split
  · rename_i h
    simp only [Bool.and_eq_true] at h
    exact .inr ⟨h.1.1, h.1.2.1, h.1.2.2, h.2, rfl⟩
  · exact .inl rfl
theorem valid_facts {b : Bench} (h : validE b = true) : (∀ R ∈ b.lays, validR R = true) ∧ b.lays.length ≤ 256 ∧ (0 ≤ b.hits ∧ b.hits ≤ 1099511627776) ∧ (0 ≤ b.filament ∧ b.filament ≤ 1099511627776) ∧ (0 ≤ b.drawn ∧ b.drawn ≤ 1099511627776) ∧ (0 ≤ b.dry ∧ b.dry ≤ 1099511627776) ∧ (-1099511627776 ≤ b.real.s ∧ b.real.s ≤ 1099511627776) := by
  have hc : ∀ n : Int, cntB n = true ↔ 0 ≤ n ∧ n ≤ 1099511627776 := fun n => by simp [cntB]
  have hw : ∀ n : Int, withB n 1099511627776 = true ↔ -1099511627776 ≤ n ∧ n ≤ 1099511627776 := fun n => by simp [withB]
  simp only [validE, soundB, realB, cntsB, Bench.cnts, Bool.and_eq_true, hc, hw, List.all_eq_true, decide_eq_true_eq] at h
  obtain ⟨h1, h2⟩ := h
  exact ⟨h1, by omega, by omega, by omega, by omega, by omega, by omega⟩
theorem W_lays (b : Bench) (m : Mach) (s : Sett) (p : Pos) : (pulseW b m s p).lays = (extB { b with real := stepP b.real p } (underC m s (stepP b.real p)) (underL m s (stepP b.real p)) p.s).lays := hit_lays
theorem W_valid {b : Bench} (m : Mach) (s : Sett) (p : Pos) (h : validE b = true) : (∀ R ∈ (pulseW b m s p).lays, validR R = true) ∧ (pulseW b m s p).lays.length ≤ 256 := by
  obtain ⟨h1, h2, _⟩ := valid_facts h
  obtain ⟨k1, k2, _⟩ := ext_facts (b := { b with real := stepP b.real p }) (c := underC m s (stepP b.real p)) (l := underL m s (stepP b.real p)) (k := p.s) h1 h2
  rw [W_lays]
  exact ⟨k1, k2⟩
theorem pulse_small {b : Bench} (m : Mach) (s : Sett) (p : Pos) (h : smallL b.lays) : smallL (pulseB b m s p).lays := by
  rcases pulse_cases b m s p with e | ⟨_, _, hv, _, e⟩
  · rw [e]; exact h
  · obtain ⟨k1, k2⟩ := W_valid m s p hv
    rw [e]
    exact ⟨by omega, fun R hR => small_valid (k1 R hR)⟩
def balB (b : Bench) : Int := b.real.s + b.drawn + b.filament - b.dry
def cellsN (L : List (List Row)) : Nat := (L.map countR).sum
end Go.Proofs.YtlfbjflfbjkbeaaGreat

namespace Go.Proofs.YtlfbjflfbjkbeaaGreat
open Go.Abs

set_option maxHeartbeats 8000000 in
theorem rpulse55_ok (b : Bench) (m : Mach) (s : Sett) (p : Pos) (hS : smallL b.lays) : PC Tryz.prog 8 [.agg b.row, .agg m.row, .agg s.row, .agg p.row] (.p (.agg (pulseB b m s p).row)) := by
  have c2 := rok_ok m s
  have c3 := valid55_ok b hS
  have hP : pulseB b m s p = if unitP p && (rightB m s && validE b) && soundB (pulseW b m s p) then pulseW b m s p else b := rfl
  have hu : unitP p = true ↔ _ := four_iff (f := oneB) (x := p)
  generalize hB : pulseB b m s p = B at *
  generalize unitP p = up_ at *
  have w3 : IntKind.i64.wrap 3 = 3 := by decide
  have w4 : IntKind.i64.wrap 4 = 4 := by decide
  refine pc_of_awp cx (fn := Tryz.f8) (c := _) Tryz.func8 rfl rfl (Nat.le_of_ble_eq_true rfl) ?_
  rw [Tryz.ntmps8]; refine Nav.imp ?_
  refine awp_region cx [] fun K hK => ?_
  simp [push_cast]
  repeat (refine And.intro (by clear hK; intros; first | omega | (simp_all; done) | (simp_all <;> omega)) ?_)
  refine hK _ ?_; clear hK K; refine Nav.imp ?_
  cases hr : rightB m s with
  | false =>
    rw [hr] at c2 hP
    simp at hP
    rw [hP]
    refine awp_region cx [(2, .p (.bool false)), (6, .skip)] fun K hK => ?_
    simp [push_cast, c2]
    repeat (refine And.intro (by clear hK; intros; first | omega | (simp_all; done) | (simp_all <;> omega)) ?_)
    refine hK _ ?_; clear hK K; refine Nav.imp ?_
    refine awp_cond (b := true) (by simp [push_cast]) (fun hb => ?_) (fun hb => ?_) <;> (refine Nav.imp ?_)
    · refine awp_region cx [] fun K hK => ?_
      simp [push_cast]
      repeat (refine And.intro (by clear hK; intros; first | omega | (simp_all; done) | (simp_all <;> omega)) ?_)
      refine hK _ ?_; clear hK K; refine Nav.imp ?_
      simp [push_cast]
    · simp at hb
  | true =>
  cases hv : validE b with
  | false =>
    rw [hr] at c2 hP
    rw [hv] at c3 hP
    simp at hP
    rw [hP]
    refine awp_region cx [(2, .p (.bool true)), (6, .p (.bool false))] fun K hK => ?_
    simp [push_cast, c2, c3]
    repeat (refine And.intro (by clear hK; intros; first | omega | (simp_all; done) | (simp_all <;> omega)) ?_)
    refine hK _ ?_; clear hK K; refine Nav.imp ?_
    refine awp_cond (b := true) (by simp [push_cast]) (fun hb => ?_) (fun hb => ?_) <;> (refine Nav.imp ?_)
    · refine awp_region cx [] fun K hK => ?_
      simp [push_cast]
      repeat (refine And.intro (by clear hK; intros; first | omega | (simp_all; done) | (simp_all <;> omega)) ?_)
      refine hK _ ?_; clear hK K; refine Nav.imp ?_
      simp [push_cast]
    · simp at hb
  | true =>
  rw [hr] at c2 hP
  rw [hv] at c3 hP
  simp only [Bool.and_self, Bool.and_true] at hP
  obtain ⟨hLv, hl, vh, vf, vd, vy, vs⟩ := valid_facts hv
  have vr : ∀ j < 4, withB (b.real.at j) 1099511627776 = true := by
    obtain ⟨f1, _⟩ := sound_facts b
    refine f1 ?_
    simp only [validE, Bool.and_eq_true] at hv
    exact hv.2
  have v0 := vr 0 (by omega)
  have v1 := vr 1 (by omega)
  have v2 := vr 2 (by omega)
  have v3 := vr 3 (by omega)
  simp [withB, Pos.at] at v0 v1 v2 v3
  clear vr
  refine awp_region cx [(2, .p (.bool true)), (6, .p (.bool true))] fun K hK => ?_
  simp [push_cast, c2, c3]
  repeat (refine And.intro (by clear hK; intros; first | omega | (simp_all; done) | (simp_all <;> omega)) ?_)
  refine hK _ ?_; clear hK K; refine Nav.imp ?_
  refine awp_cond (b := false) (by simp [push_cast]) (fun hb => ?_) (fun hb => ?_) <;> (refine Nav.imp ?_)
  · simp at hb
  · refine awp_region cx [] fun K hK => ?_
    simp [push_cast]
    repeat (refine And.intro (by clear hK; intros; first | omega | (simp_all; done) | (simp_all <;> omega)) ?_)
    refine hK _ ?_; clear hK K; refine Nav.imp ?_
    refine awp_region cx [] fun K hK => ?_
    simp [push_cast]
    repeat (refine And.intro (by clear hK; intros; first | omega | (simp_all; done) | (simp_all <;> omega)) ?_)
    refine hK _ ?_; clear hK K; refine Nav.imp ?_
    refine awp_loop (β := Nat) (fun i => ⟨96, [(4, .ptr 0 0 0), (5, .ptr 1 0 0), (6, .ptr 2 0 0), (7, .ptr 3 0 0), (8, .ptr 4 0 0), (9, .ptr 5 0 0), (10, .d (.int .i64 i))], [(0, some ⟨30, 22, [b.row.map .d]⟩), (1, some ⟨35, 30, [m.row.map .d]⟩), (2, some ⟨37, 20, [s.row.map .d]⟩), (3, some ⟨22, 4, [p.row.map .d]⟩), (4, some ⟨30, 22, benchZ⟩), (5, some ⟨30, 22, [(Bench.row { b with real := ⟨if 0 < i then b.real.p + p.p else b.real.p, if 1 < i then b.real.q + p.q else b.real.q, if 2 < i then b.real.r + p.r else b.real.r, if 3 < i then b.real.s + p.s else b.real.s⟩ }).map .d]⟩)], 6⟩) (fun i => i ≤ 4 ∧ ∀ j < i, oneB (p.at j) = true) (fun i => 4 - i) 0 ?_ ⟨Nat.zero_le _, by simp⟩ ?_
    · refine weak_of [(0, some 0), (1, some 1), (2, some 2), (3, some 3), (4, some 4), (5, some 15)] rfl (by simp [upT, up, upL, push_cast]) (by simp [upH, upR, upL, up, push_cast]) (by simp [namesOk, push_cast]) (by simp [olds])
    · rintro i ⟨hi, hall⟩
      rcases (show i = 0 ∨ i = 1 ∨ i = 2 ∨ i = 3 ∨ i = 4 by omega) with rfl | rfl | rfl | rfl | rfl
      · have hw2 : oneB p.p = !(decide (p.p < -1) || decide (1 < p.p)) := rfl
        simp (config := { decide := true }) only [if_true, if_false]
        refine Nav.imp ?_
        refine awp_region cx [] fun K hK => ?_
        simp [push_cast]
        repeat (refine And.intro (by clear hK; intros; first | omega | (simp_all; done) | (simp_all <;> omega)) ?_)
        refine hK _ ?_; clear hK K; refine Nav.imp ?_
        refine awp_cond (b := true) (by simp [push_cast]) (fun hb => ?_) (fun hb => ?_) <;> (refine Nav.imp ?_)
        · refine awp_region cx [] fun K hK => ?_
          simp [push_cast]
          repeat (refine And.intro (by clear hK; intros; first | omega | (simp_all; done) | (simp_all <;> omega)) ?_)
          refine hK _ ?_; clear hK K; refine Nav.imp ?_
          refine awp_cond (b := decide (p.p < -1) || decide (1 < p.p)) (by simp [push_cast]) (fun hb => ?_) (fun hb => ?_) <;> (refine Nav.imp ?_)
          · rw [hb] at hw2
            have hf : up_ = false := by
              cases up_
              · rfl
              · have := hu.1 rfl 0 (by omega)
                simp only [Pos.at] at this
                rw [this] at hw2; cases hw2
            rw [hf] at hP
            simp at hP
            rw [hP]
            refine awp_region cx [] fun K hK => ?_
            simp [push_cast]
            repeat (refine And.intro (by clear hK; intros; first | omega | (simp_all; done) | (simp_all <;> omega)) ?_)
            refine hK _ ?_; clear hK K; refine Nav.imp ?_
            simp [push_cast]
          · rw [hb] at hw2
            have hr2 : -1 ≤ p.p ∧ p.p ≤ 1 := by simp at hb; omega
            have e1 := wrap_i64 (n := b.real.p + p.p) (by omega) (by omega)
            refine awp_region_draw cx mixed [] fun K hK => ?_
            simp [push_cast, e1]
            repeat (refine And.intro (by clear hK; intros; first | omega | (simp_all; done) | (simp_all <;> omega)) ?_)
            refine hK _ _ (by kernel_rfl) ?_; clear hK K; refine Nav.imp ?_
            refine awp_region cx [] fun K hK => ?_
            simp [push_cast, w3, w4]
            repeat (refine And.intro (by clear hK; intros; first | omega | (simp_all; done) | (simp_all <;> omega)) ?_)
            refine hK _ ?_; clear hK K; refine Nav.imp ?_
            refine ⟨1, ⟨by omega, fun j hj => ?_⟩, by omega, ?_⟩
            · by_cases e : j < 0
              · exact hall j e
              · have : j = 0 := by omega
                subst this
                simpa [Pos.at] using hw2
            · refine weak_of [(0, some 0), (1, some 1), (2, some 2), (3, some 3), (4, some 4), (5, some 5)] rfl (by simp [upT, up, upL, push_cast]) (by simp [upH, upR, upL, up, push_cast]) (by simp [namesOk, push_cast]) (by simp [olds])
        · simp at hb
      · have hw2 : oneB p.q = !(decide (p.q < -1) || decide (1 < p.q)) := rfl
        simp (config := { decide := true }) only [if_true, if_false]
        refine Nav.imp ?_
        refine awp_region cx [] fun K hK => ?_
        simp [push_cast]
        repeat (refine And.intro (by clear hK; intros; first | omega | (simp_all; done) | (simp_all <;> omega)) ?_)
        refine hK _ ?_; clear hK K; refine Nav.imp ?_
        refine awp_cond (b := true) (by simp [push_cast]) (fun hb => ?_) (fun hb => ?_) <;> (refine Nav.imp ?_)
        · refine awp_region cx [] fun K hK => ?_
          simp [push_cast]
          repeat (refine And.intro (by clear hK; intros; first | omega | (simp_all; done) | (simp_all <;> omega)) ?_)
          refine hK _ ?_; clear hK K; refine Nav.imp ?_
          refine awp_cond (b := decide (p.q < -1) || decide (1 < p.q)) (by simp [push_cast]) (fun hb => ?_) (fun hb => ?_) <;> (refine Nav.imp ?_)
          · rw [hb] at hw2
            have hf : up_ = false := by
              cases up_
              · rfl
              · have := hu.1 rfl 1 (by omega)
                simp only [Pos.at] at this
                rw [this] at hw2; cases hw2
            rw [hf] at hP
            simp at hP
            rw [hP]
            refine awp_region cx [] fun K hK => ?_
            simp [push_cast]
            repeat (refine And.intro (by clear hK; intros; first | omega | (simp_all; done) | (simp_all <;> omega)) ?_)
            refine hK _ ?_; clear hK K; refine Nav.imp ?_
            simp [push_cast]
          · rw [hb] at hw2
            have hr2 : -1 ≤ p.q ∧ p.q ≤ 1 := by simp at hb; omega
            have e1 := wrap_i64 (n := b.real.q + p.q) (by omega) (by omega)
            refine awp_region_draw cx mixed [] fun K hK => ?_
            simp [push_cast, e1]
            repeat (refine And.intro (by clear hK; intros; first | omega | (simp_all; done) | (simp_all <;> omega)) ?_)
            refine hK _ _ (by kernel_rfl) ?_; clear hK K; refine Nav.imp ?_
            refine awp_region cx [] fun K hK => ?_
            simp [push_cast, w3, w4]
            repeat (refine And.intro (by clear hK; intros; first | omega | (simp_all; done) | (simp_all <;> omega)) ?_)
            refine hK _ ?_; clear hK K; refine Nav.imp ?_
            refine ⟨2, ⟨by omega, fun j hj => ?_⟩, by omega, ?_⟩
            · by_cases e : j < 1
              · exact hall j e
              · have : j = 1 := by omega
                subst this
                simpa [Pos.at] using hw2
            · refine weak_of [(0, some 0), (1, some 1), (2, some 2), (3, some 3), (4, some 4), (5, some 5)] rfl (by simp [upT, up, upL, push_cast]) (by simp [upH, upR, upL, up, push_cast]) (by simp [namesOk, push_cast]) (by simp [olds])
        · simp at hb
      · have hw2 : oneB p.r = !(decide (p.r < -1) || decide (1 < p.r)) := rfl
        simp (config := { decide := true }) only [if_true, if_false]
        refine Nav.imp ?_
        refine awp_region cx [] fun K hK => ?_
        simp [push_cast]
        repeat (refine And.intro (by clear hK; intros; first | omega | (simp_all; done) | (simp_all <;> omega)) ?_)
        refine hK _ ?_; clear hK K; refine Nav.imp ?_
        refine awp_cond (b := true) (by simp [push_cast]) (fun hb => ?_) (fun hb => ?_) <;> (refine Nav.imp ?_)
        · refine awp_region cx [] fun K hK => ?_
          simp [push_cast]
          repeat (refine And.intro (by clear hK; intros; first | omega | (simp_all; done) | (simp_all <;> omega)) ?_)
          refine hK _ ?_; clear hK K; refine Nav.imp ?_
          refine awp_cond (b := decide (p.r < -1) || decide (1 < p.r)) (by simp [push_cast]) (fun hb => ?_) (fun hb => ?_) <;> (refine Nav.imp ?_)
          · rw [hb] at hw2
            have hf : up_ = false := by
              cases up_
              · rfl
              · have := hu.1 rfl 2 (by omega)
                simp only [Pos.at] at this
                rw [this] at hw2; cases hw2
            rw [hf] at hP
            simp at hP
            rw [hP]
            refine awp_region cx [] fun K hK => ?_
            simp [push_cast]
            repeat (refine And.intro (by clear hK; intros; first | omega | (simp_all; done) | (simp_all <;> omega)) ?_)
            refine hK _ ?_; clear hK K; refine Nav.imp ?_
            simp [push_cast]
          · rw [hb] at hw2
            have hr2 : -1 ≤ p.r ∧ p.r ≤ 1 := by simp at hb; omega
            have e1 := wrap_i64 (n := b.real.r + p.r) (by omega) (by omega)
            refine awp_region_draw cx mixed [] fun K hK => ?_
            simp [push_cast, e1]
            repeat (refine And.intro (by clear hK; intros; first | omega | (simp_all; done) | (simp_all <;> omega)) ?_)
            refine hK _ _ (by kernel_rfl) ?_; clear hK K; refine Nav.imp ?_
            refine awp_region cx [] fun K hK => ?_
            simp [push_cast, w3, w4]
            repeat (refine And.intro (by clear hK; intros; first | omega | (simp_all; done) | (simp_all <;> omega)) ?_)
            refine hK _ ?_; clear hK K; refine Nav.imp ?_
            refine ⟨3, ⟨by omega, fun j hj => ?_⟩, by omega, ?_⟩
            · by_cases e : j < 2
              · exact hall j e
              · have : j = 2 := by omega
                subst this
                simpa [Pos.at] using hw2
            · refine weak_of [(0, some 0), (1, some 1), (2, some 2), (3, some 3), (4, some 4), (5, some 5)] rfl (by simp [upT, up, upL, push_cast]) (by simp [upH, upR, upL, up, push_cast]) (by simp [namesOk, push_cast]) (by simp [olds])
        · simp at hb
      · have hw2 : oneB p.s = !(decide (p.s < -1) || decide (1 < p.s)) := rfl
        simp (config := { decide := true }) only [if_true, if_false]
        refine Nav.imp ?_
        refine awp_region cx [] fun K hK => ?_
        simp [push_cast]
        repeat (refine And.intro (by clear hK; intros; first | omega | (simp_all; done) | (simp_all <;> omega)) ?_)
        refine hK _ ?_; clear hK K; refine Nav.imp ?_
        refine awp_cond (b := true) (by simp [push_cast]) (fun hb => ?_) (fun hb => ?_) <;> (refine Nav.imp ?_)
        · refine awp_region cx [] fun K hK => ?_
          simp [push_cast]
          repeat (refine And.intro (by clear hK; intros; first | omega | (simp_all; done) | (simp_all <;> omega)) ?_)
          refine hK _ ?_; clear hK K; refine Nav.imp ?_
          refine awp_cond (b := decide (p.s < -1) || decide (1 < p.s)) (by simp [push_cast]) (fun hb => ?_) (fun hb => ?_) <;> (refine Nav.imp ?_)
          · rw [hb] at hw2
            have hf : up_ = false := by
              cases up_
              · rfl
              · have := hu.1 rfl 3 (by omega)
                simp only [Pos.at] at this
                rw [this] at hw2; cases hw2
            rw [hf] at hP
            simp at hP
            rw [hP]
            refine awp_region cx [] fun K hK => ?_
            simp [push_cast]
            repeat (refine And.intro (by clear hK; intros; first | omega | (simp_all; done) | (simp_all <;> omega)) ?_)
            refine hK _ ?_; clear hK K; refine Nav.imp ?_
            simp [push_cast]
          · rw [hb] at hw2
            have hr2 : -1 ≤ p.s ∧ p.s ≤ 1 := by simp at hb; omega
            have e1 := wrap_i64 (n := b.real.s + p.s) (by omega) (by omega)
            refine awp_region_draw cx mixed [] fun K hK => ?_
            simp [push_cast, e1]
            repeat (refine And.intro (by clear hK; intros; first | omega | (simp_all; done) | (simp_all <;> omega)) ?_)
            refine hK _ _ (by kernel_rfl) ?_; clear hK K; refine Nav.imp ?_
            refine awp_region cx [] fun K hK => ?_
            simp [push_cast, w3, w4]
            repeat (refine And.intro (by clear hK; intros; first | omega | (simp_all; done) | (simp_all <;> omega)) ?_)
            refine hK _ ?_; clear hK K; refine Nav.imp ?_
            refine ⟨4, ⟨by omega, fun j hj => ?_⟩, by omega, ?_⟩
            · by_cases e : j < 3
              · exact hall j e
              · have : j = 3 := by omega
                subst this
                simpa [Pos.at] using hw2
            · refine weak_of [(0, some 0), (1, some 1), (2, some 2), (3, some 3), (4, some 4), (5, some 5)] rfl (by simp [upT, up, upL, push_cast]) (by simp [upH, upR, upL, up, push_cast]) (by simp [namesOk, push_cast]) (by simp [olds])
        · simp at hb
      · have hup := hu.2 hall
        rw [hup, Bool.true_and] at hP
        clear hu hup
        have a0 := hall 0 (by omega)
        have a1 := hall 1 (by omega)
        have a2 := hall 2 (by omega)
        have a3 := hall 3 (by omega)
        simp [oneB, Pos.at] at a0 a1 a2 a3
        simp (config := { decide := true }) only [if_true, if_false]
        refine Nav.imp ?_
        refine awp_region cx [] fun K hK => ?_
        simp [push_cast]
        repeat (refine And.intro (by clear hK; intros; first | omega | (simp_all; done) | (simp_all <;> omega)) ?_)
        refine hK _ ?_; clear hK K; refine Nav.imp ?_
        refine awp_cond (b := false) (by simp [push_cast]) (fun hb => ?_) (fun hb => ?_) <;> (refine Nav.imp ?_)
        · simp at hb
        · have c4 := runder_ok m s ⟨b.real.p + p.p, b.real.q + p.q, b.real.r + p.r, b.real.s + p.s⟩
          have hlr := under_layer m s ⟨b.real.p + p.p, b.real.q + p.q, b.real.r + p.r, b.real.s + p.s⟩
          unfold underD at c4
          have hW : pulseW b m s p = hitF (extB { b with real := ⟨b.real.p + p.p, b.real.q + p.q, b.real.r + p.r, b.real.s + p.s⟩ } (underC m s ⟨b.real.p + p.p, b.real.q + p.q, b.real.r + p.r, b.real.s + p.s⟩) (underL m s ⟨b.real.p + p.p, b.real.q + p.q, b.real.r + p.r, b.real.s + p.s⟩) p.s) (underC m s ⟨b.real.p + p.p, b.real.q + p.q, b.real.r + p.r, b.real.s + p.s⟩) (underL m s ⟨b.real.p + p.p, b.real.q + p.q, b.real.r + p.r, b.real.s + p.s⟩) (p.p * p.p + p.q * p.q) := rfl
          rw [hW] at hP
          clear hW hB
          generalize underC m s _ = c at *
          generalize underL m s _ = l at *
          have c5 := push55_ok { b with real := ⟨b.real.p + p.p, b.real.q + p.q, b.real.r + p.r, b.real.s + p.s⟩ } c l hlr hLv hl vf vd vy
          obtain ⟨x1, x2, x3⟩ := ext_facts (b := { b with real := ⟨b.real.p + p.p, b.real.q + p.q, b.real.r + p.r, b.real.s + p.s⟩ }) (c := c) (l := l) (k := p.s) hLv hl
          simp only at x3
          have hEd : extB { b with real := ⟨b.real.p + p.p, b.real.q + p.q, b.real.r + p.r, b.real.s + p.s⟩ } c l p.s = if p.s < 0 then { b with real := ⟨b.real.p + p.p, b.real.q + p.q, b.real.r + p.r, b.real.s + p.s⟩, drawn := b.drawn + 1 } else if p.s = 0 then { b with real := ⟨b.real.p + p.p, b.real.q + p.q, b.real.r + p.r, b.real.s + p.s⟩ } else extB { b with real := ⟨b.real.p + p.p, b.real.q + p.q, b.real.r + p.r, b.real.s + p.s⟩ } c l p.s := by
            split
            · rename_i h; unfold extB; rw [if_pos h]
            · rename_i h
              split
              · rename_i h2; unfold extB; rw [if_neg h, if_pos h2]
              · rfl
          have wd := wrap_i64 (n := b.drawn + 1) (by omega) (by omega)
          have hE1 : p.s = 1 → extB { b with real := ⟨b.real.p + p.p, b.real.q + p.q, b.real.r + p.r, b.real.s + p.s⟩ } c l 1 = extB { b with real := ⟨b.real.p + p.p, b.real.q + p.q, b.real.r + p.r, b.real.s + p.s⟩ } c l p.s := fun h => by rw [h]
          generalize extB { b with real := ⟨b.real.p + p.p, b.real.q + p.q, b.real.r + p.r, b.real.s + p.s⟩ } c l p.s = E at *
          refine awp_region cx [(4, .p (.tup [.agg c.row, .int .i64 l]))] fun K hK => ?_
          simp [push_cast, c4, Cell.row]
          repeat (refine And.intro (by clear hK; intros; first | omega | (simp_all; done) | (simp_all <;> omega)) ?_)
          refine hK _ ?_; clear hK K; refine Nav.imp ?_
          refine awp_region cx [] fun K hK => ?_
          simp [push_cast]
          repeat (refine And.intro (by clear hK; intros; first | omega | (simp_all; done) | (simp_all <;> omega)) ?_)
          refine hK _ ?_; clear hK K; refine Nav.imp ?_
          rcases (show p.s < 0 ∨ p.s = 0 ∨ p.s = 1 by omega) with q | q | q
          · rw [if_pos q] at hEd
            clear hE1 c5
            have q2 : decide (0 < p.s) = false := by simp; omega
            refine awp_cond (b := true) (by simp [push_cast, q]) (fun hb => ?_) (fun hb => ?_) <;> (refine Nav.imp ?_)
            · refine awp_region cx [] fun K hK => ?_
              simp [push_cast, wd]
              repeat (refine And.intro (by clear hK; intros; first | omega | (simp_all; done) | (simp_all <;> omega)) ?_)
              refine hK _ ?_; clear hK K; refine Nav.imp ?_
              refine awp_region cx [] fun K hK => ?_
              simp [push_cast]
              repeat (refine And.intro (by clear hK; intros; first | omega | (simp_all; done) | (simp_all <;> omega)) ?_)
              refine hK _ ?_; clear hK K; refine Nav.imp ?_
              refine awp_cond (b := false) (by simp [push_cast, q2]) (fun hb => ?_) (fun hb => ?_) <;> (refine Nav.imp ?_)
              · simp at hb
              · refine awp_weak (s' := ⟨96, [(4, .ptr 0 0 0), (7, .ptr 3 0 0), (8, .ptr 4 0 0), (9, .ptr 5 0 0), (11, .ptr 6 0 0), (12, .d (.int .i64 l))], [(0, some ⟨30, 22, [b.row.map .d]⟩), (3, some ⟨22, 4, [p.row.map .d]⟩), (4, some ⟨30, 22, benchZ⟩), (5, some ⟨30, 22, [E.row.map .d]⟩), (6, some ⟨57, 2, [c.row.map .d]⟩)], 7⟩) ?_ ?_
                · refine weak_of [(0, some 0), (3, some 3), (4, some 4), (5, some 5), (6, some 16)] rfl (by simp [upT, up, upL, push_cast, hEd]) (by simp [upH, upR, upL, up, push_cast, hEd]) (by simp [namesOk, push_cast]) (by simp [olds])
                · clear hEd
                  have c6 := above55_ok E.lays l c hlr (fun R hR => small_valid (x1 R hR)) (by omega)
                  have hH : hitF E c l (p.p * p.p + p.q * p.q) = if p.p * p.p + p.q * p.q = 0 then E else if aboveB E.lays (l + 1).toNat c then { E with hits := E.hits + 1 } else E := rfl
                  generalize hitF E c l (p.p * p.p + p.q * p.q) = H at *
                  generalize aboveB E.lays (l + 1).toNat c = A at *
                  have w9 := wrap_i64 (n := E.hits + 1) (by omega) (by omega)
                  by_cases z1 : p.p = 0
                  · by_cases z2 : p.q = 0
                    · rw [z1, z2, if_pos (by decide)] at hH
                      have hHv : ∀ R ∈ H.lays, validR R = true := by rw [hH]; exact x1
                      have hHl : H.lays.length ≤ 256 := by rw [hH]; exact x2
                      have z1' : (p.p == 0) = true := by simp [z1]
                      have z2' : (p.q == 0) = true := by simp [z2]
                      refine awp_region cx [(13, .skip)] fun K hK => ?_
                      simp [push_cast, z1, z2, Cell.row]
                      repeat (refine And.intro (by clear hK; intros; first | omega | (simp_all; done) | (simp_all <;> omega)) ?_)
                      refine hK _ ?_; clear hK K; refine Nav.imp ?_
                      refine awp_cond (b := false) (by simp [push_cast]) (fun hb => ?_) (fun hb => ?_) <;> (refine Nav.imp ?_)
                      · simp at hb
                      · have hv7 : validE H = soundB H := by
                          rw [validE, List.all_eq_true.2 (fun R hR => ?_), Bool.true_and]
                          exact hHv R hR
                        have c7 := valid55_ok H ⟨by omega, fun R hR => small_valid (hHv R hR)⟩
                        rw [hv7] at c7
                        clear hv7
                        generalize soundB H = sb at *
                        subst hH
                        cases sb with
                        | false =>
                          simp at hP
                          rw [hP]
                          refine awp_region cx [(1, .p (.bool false))] fun K hK => ?_
                          simp [push_cast, c7]
                          repeat (refine And.intro (by clear hK; intros; first | omega | (simp_all; done) | (simp_all <;> omega)) ?_)
                          refine hK _ ?_; clear hK K; refine Nav.imp ?_
                          refine awp_cond (b := true) (by simp [push_cast]) (fun hb => ?_) (fun hb => ?_) <;> (refine Nav.imp ?_)
                          · refine awp_region cx [] fun K hK => ?_
                            simp [push_cast]
                            repeat (refine And.intro (by clear hK; intros; first | omega | (simp_all; done) | (simp_all <;> omega)) ?_)
                            refine hK _ ?_; clear hK K; refine Nav.imp ?_
                            simp [push_cast]
                          · simp at hb
                        | true =>
                          simp at hP
                          rw [hP]
                          refine awp_region cx [(1, .p (.bool true))] fun K hK => ?_
                          simp [push_cast, c7]
                          repeat (refine And.intro (by clear hK; intros; first | omega | (simp_all; done) | (simp_all <;> omega)) ?_)
                          refine hK _ ?_; clear hK K; refine Nav.imp ?_
                          refine awp_cond (b := false) (by simp [push_cast]) (fun hb => ?_) (fun hb => ?_) <;> (refine Nav.imp ?_)
                          · simp at hb
                          · refine awp_region cx [] fun K hK => ?_
                            simp [push_cast]
                            repeat (refine And.intro (by clear hK; intros; first | omega | (simp_all; done) | (simp_all <;> omega)) ?_)
                            refine hK _ ?_; clear hK K; refine Nav.imp ?_
                            simp [push_cast]
                    · have nz : p.p * p.p + p.q * p.q ≠ 0 := by
                        rcases (show p.q = -1 ∨ p.q = 1 by omega) with h | h <;> simp [z1, h]
                      rw [if_neg nz] at hH
                      have z2' : (p.q == 0) = false := by simp [z2]
                      cases A with
                      | true =>
                        rw [if_pos rfl] at hH
                        have hHv : ∀ R ∈ H.lays, validR R = true := by rw [hH]; exact x1
                        have hHl : H.lays.length ≤ 256 := by rw [hH]; exact x2
                        refine awp_region cx [(13, .p (.bool true))] fun K hK => ?_
                        simp [push_cast, z1, z2, z2', c6, Cell.row]
                        repeat (refine And.intro (by clear hK; intros; first | omega | (simp_all; done) | (simp_all <;> omega)) ?_)
                        refine hK _ ?_; clear hK K; refine Nav.imp ?_
                        refine awp_cond (b := true) (by simp [push_cast, z2]) (fun hb => ?_) (fun hb => ?_) <;> (refine Nav.imp ?_)
                        · refine awp_region cx [] fun K hK => ?_
                          simp [push_cast, w9]
                          repeat (refine And.intro (by clear hK; intros; first | omega | (simp_all; done) | (simp_all <;> omega)) ?_)
                          refine hK _ ?_; clear hK K; refine Nav.imp ?_
                          have hv7 : validE H = soundB H := by
                            rw [validE, List.all_eq_true.2 (fun R hR => ?_), Bool.true_and]
                            exact hHv R hR
                          have c7 := valid55_ok H ⟨by omega, fun R hR => small_valid (hHv R hR)⟩
                          rw [hv7] at c7
                          clear hv7
                          generalize soundB H = sb at *
                          subst hH
                          cases sb with
                          | false =>
                            simp at hP
                            rw [hP]
                            refine awp_region cx [(1, .p (.bool false))] fun K hK => ?_
                            simp [push_cast, c7]
                            repeat (refine And.intro (by clear hK; intros; first | omega | (simp_all; done) | (simp_all <;> omega)) ?_)
                            refine hK _ ?_; clear hK K; refine Nav.imp ?_
                            refine awp_cond (b := true) (by simp [push_cast]) (fun hb => ?_) (fun hb => ?_) <;> (refine Nav.imp ?_)
                            · refine awp_region cx [] fun K hK => ?_
                              simp [push_cast]
                              repeat (refine And.intro (by clear hK; intros; first | omega | (simp_all; done) | (simp_all <;> omega)) ?_)
                              refine hK _ ?_; clear hK K; refine Nav.imp ?_
                              simp [push_cast]
                            · simp at hb
                          | true =>
                            simp at hP
                            rw [hP]
                            refine awp_region cx [(1, .p (.bool true))] fun K hK => ?_
                            simp [push_cast, c7]
                            repeat (refine And.intro (by clear hK; intros; first | omega | (simp_all; done) | (simp_all <;> omega)) ?_)
                            refine hK _ ?_; clear hK K; refine Nav.imp ?_
                            refine awp_cond (b := false) (by simp [push_cast]) (fun hb => ?_) (fun hb => ?_) <;> (refine Nav.imp ?_)
                            · simp at hb
                            · refine awp_region cx [] fun K hK => ?_
                              simp [push_cast]
                              repeat (refine And.intro (by clear hK; intros; first | omega | (simp_all; done) | (simp_all <;> omega)) ?_)
                              refine hK _ ?_; clear hK K; refine Nav.imp ?_
                              simp [push_cast]
                        · simp at hb
                      | false =>
                        rw [if_neg (by simp)] at hH
                        have hHv : ∀ R ∈ H.lays, validR R = true := by rw [hH]; exact x1
                        have hHl : H.lays.length ≤ 256 := by rw [hH]; exact x2
                        refine awp_region cx [(13, .p (.bool false))] fun K hK => ?_
                        simp [push_cast, z1, z2, z2', c6, Cell.row]
                        repeat (refine And.intro (by clear hK; intros; first | omega | (simp_all; done) | (simp_all <;> omega)) ?_)
                        refine hK _ ?_; clear hK K; refine Nav.imp ?_
                        refine awp_cond (b := false) (by simp [push_cast, z2]) (fun hb => ?_) (fun hb => ?_) <;> (refine Nav.imp ?_)
                        · simp at hb
                        · have hv7 : validE H = soundB H := by
                            rw [validE, List.all_eq_true.2 (fun R hR => ?_), Bool.true_and]
                            exact hHv R hR
                          have c7 := valid55_ok H ⟨by omega, fun R hR => small_valid (hHv R hR)⟩
                          rw [hv7] at c7
                          clear hv7
                          generalize soundB H = sb at *
                          subst hH
                          cases sb with
                          | false =>
                            simp at hP
                            rw [hP]
                            refine awp_region cx [(1, .p (.bool false))] fun K hK => ?_
                            simp [push_cast, c7]
                            repeat (refine And.intro (by clear hK; intros; first | omega | (simp_all; done) | (simp_all <;> omega)) ?_)
                            refine hK _ ?_; clear hK K; refine Nav.imp ?_
                            refine awp_cond (b := true) (by simp [push_cast]) (fun hb => ?_) (fun hb => ?_) <;> (refine Nav.imp ?_)
                            · refine awp_region cx [] fun K hK => ?_
                              simp [push_cast]
                              repeat (refine And.intro (by clear hK; intros; first | omega | (simp_all; done) | (simp_all <;> omega)) ?_)
                              refine hK _ ?_; clear hK K; refine Nav.imp ?_
                              simp [push_cast]
                            · simp at hb
                          | true =>
                            simp at hP
                            rw [hP]
                            refine awp_region cx [(1, .p (.bool true))] fun K hK => ?_
                            simp [push_cast, c7]
                            repeat (refine And.intro (by clear hK; intros; first | omega | (simp_all; done) | (simp_all <;> omega)) ?_)
                            refine hK _ ?_; clear hK K; refine Nav.imp ?_
                            refine awp_cond (b := false) (by simp [push_cast]) (fun hb => ?_) (fun hb => ?_) <;> (refine Nav.imp ?_)
                            · simp at hb
                            · refine awp_region cx [] fun K hK => ?_
                              simp [push_cast]
                              repeat (refine And.intro (by clear hK; intros; first | omega | (simp_all; done) | (simp_all <;> omega)) ?_)
                              refine hK _ ?_; clear hK K; refine Nav.imp ?_
                              simp [push_cast]
                  · have nz : p.p * p.p + p.q * p.q ≠ 0 := by
                      have : 0 ≤ p.q * p.q := by rcases (show p.q = -1 ∨ p.q = 0 ∨ p.q = 1 by omega) with h | h | h <;> simp [h]
                      rcases (show p.p = -1 ∨ p.p = 1 by omega) with h | h <;> simp [h] <;> omega
                    rw [if_neg nz] at hH
                    have z1' : (p.p == 0) = false := by simp [z1]
                    cases A with
                    | true =>
                      rw [if_pos rfl] at hH
                      have hHv : ∀ R ∈ H.lays, validR R = true := by rw [hH]; exact x1
                      have hHl : H.lays.length ≤ 256 := by rw [hH]; exact x2
                      refine awp_region cx [(13, .p (.bool true))] fun K hK => ?_
                      simp [push_cast, z1, z1', c6, Cell.row]
                      repeat (refine And.intro (by clear hK; intros; first | omega | (simp_all; done) | (simp_all <;> omega)) ?_)
                      refine hK _ ?_; clear hK K; refine Nav.imp ?_
                      refine awp_cond (b := true) (by simp [push_cast, z1]) (fun hb => ?_) (fun hb => ?_) <;> (refine Nav.imp ?_)
                      · refine awp_region cx [] fun K hK => ?_
                        simp [push_cast, w9]
                        repeat (refine And.intro (by clear hK; intros; first | omega | (simp_all; done) | (simp_all <;> omega)) ?_)
                        refine hK _ ?_; clear hK K; refine Nav.imp ?_
                        have hv7 : validE H = soundB H := by
                          rw [validE, List.all_eq_true.2 (fun R hR => ?_), Bool.true_and]
                          exact hHv R hR
                        have c7 := valid55_ok H ⟨by omega, fun R hR => small_valid (hHv R hR)⟩
                        rw [hv7] at c7
                        clear hv7
                        generalize soundB H = sb at *
                        subst hH
                        cases sb with
                        | false =>
                          simp at hP
                          rw [hP]
                          refine awp_region cx [(1, .p (.bool false))] fun K hK => ?_
                          simp [push_cast, c7]
                          repeat (refine And.intro (by clear hK; intros; first | omega | (simp_all; done) | (simp_all <;> omega)) ?_)
                          refine hK _ ?_; clear hK K; refine Nav.imp ?_
                          refine awp_cond (b := true) (by simp [push_cast]) (fun hb => ?_) (fun hb => ?_) <;> (refine Nav.imp ?_)
                          · refine awp_region cx [] fun K hK => ?_
                            simp [push_cast]
                            repeat (refine And.intro (by clear hK; intros; first | omega | (simp_all; done) | (simp_all <;> omega)) ?_)
                            refine hK _ ?_; clear hK K; refine Nav.imp ?_
                            simp [push_cast]
                          · simp at hb
                        | true =>
                          simp at hP
                          rw [hP]
                          refine awp_region cx [(1, .p (.bool true))] fun K hK => ?_
                          simp [push_cast, c7]
                          repeat (refine And.intro (by clear hK; intros; first | omega | (simp_all; done) | (simp_all <;> omega)) ?_)
                          refine hK _ ?_; clear hK K; refine Nav.imp ?_
                          refine awp_cond (b := false) (by simp [push_cast]) (fun hb => ?_) (fun hb => ?_) <;> (refine Nav.imp ?_)
                          · simp at hb
                          · refine awp_region cx [] fun K hK => ?_
                            simp [push_cast]
                            repeat (refine And.intro (by clear hK; intros; first | omega | (simp_all; done) | (simp_all <;> omega)) ?_)
                            refine hK _ ?_; clear hK K; refine Nav.imp ?_
                            simp [push_cast]
                      · simp at hb
                    | false =>
                      rw [if_neg (by simp)] at hH
                      have hHv : ∀ R ∈ H.lays, validR R = true := by rw [hH]; exact x1
                      have hHl : H.lays.length ≤ 256 := by rw [hH]; exact x2
                      refine awp_region cx [(13, .p (.bool false))] fun K hK => ?_
                      simp [push_cast, z1, z1', c6, Cell.row]
                      repeat (refine And.intro (by clear hK; intros; first | omega | (simp_all; done) | (simp_all <;> omega)) ?_)
                      refine hK _ ?_; clear hK K; refine Nav.imp ?_
                      refine awp_cond (b := false) (by simp [push_cast, z1]) (fun hb => ?_) (fun hb => ?_) <;> (refine Nav.imp ?_)
                      · simp at hb
                      · have hv7 : validE H = soundB H := by
                          rw [validE, List.all_eq_true.2 (fun R hR => ?_), Bool.true_and]
                          exact hHv R hR
                        have c7 := valid55_ok H ⟨by omega, fun R hR => small_valid (hHv R hR)⟩
                        rw [hv7] at c7
                        clear hv7
                        generalize soundB H = sb at *
                        subst hH
                        cases sb with
                        | false =>
                          simp at hP
                          rw [hP]
                          refine awp_region cx [(1, .p (.bool false))] fun K hK => ?_
                          simp [push_cast, c7]
                          repeat (refine And.intro (by clear hK; intros; first | omega | (simp_all; done) | (simp_all <;> omega)) ?_)
                          refine hK _ ?_; clear hK K; refine Nav.imp ?_
                          refine awp_cond (b := true) (by simp [push_cast]) (fun hb => ?_) (fun hb => ?_) <;> (refine Nav.imp ?_)
                          · refine awp_region cx [] fun K hK => ?_
                            simp [push_cast]
                            repeat (refine And.intro (by clear hK; intros; first | omega | (simp_all; done) | (simp_all <;> omega)) ?_)
                            refine hK _ ?_; clear hK K; refine Nav.imp ?_
                            simp [push_cast]
                          · simp at hb
                        | true =>
                          simp at hP
                          rw [hP]
                          refine awp_region cx [(1, .p (.bool true))] fun K hK => ?_
                          simp [push_cast, c7]
                          repeat (refine And.intro (by clear hK; intros; first | omega | (simp_all; done) | (simp_all <;> omega)) ?_)
                          refine hK _ ?_; clear hK K; refine Nav.imp ?_
                          refine awp_cond (b := false) (by simp [push_cast]) (fun hb => ?_) (fun hb => ?_) <;> (refine Nav.imp ?_)
                          · simp at hb
                          · refine awp_region cx [] fun K hK => ?_
                            simp [push_cast]
                            repeat (refine And.intro (by clear hK; intros; first | omega | (simp_all; done) | (simp_all <;> omega)) ?_)
                            refine hK _ ?_; clear hK K; refine Nav.imp ?_
                            simp [push_cast]
            · simp at hb
          · rw [if_neg (by omega), if_pos q] at hEd
            clear hE1 c5
            have q1 : decide (p.s < 0) = false := by simp; omega
            have q2 : decide (0 < p.s) = false := by simp; omega
            refine awp_cond (b := false) (by simp [push_cast, q1]) (fun hb => ?_) (fun hb => ?_) <;> (refine Nav.imp ?_)
            · simp at hb
            · refine awp_region cx [] fun K hK => ?_
              simp [push_cast]
              repeat (refine And.intro (by clear hK; intros; first | omega | (simp_all; done) | (simp_all <;> omega)) ?_)
              refine hK _ ?_; clear hK K; refine Nav.imp ?_
              refine awp_cond (b := false) (by simp [push_cast, q2]) (fun hb => ?_) (fun hb => ?_) <;> (refine Nav.imp ?_)
              · simp at hb
              · refine awp_weak (s' := ⟨96, [(4, .ptr 0 0 0), (7, .ptr 3 0 0), (8, .ptr 4 0 0), (9, .ptr 5 0 0), (11, .ptr 6 0 0), (12, .d (.int .i64 l))], [(0, some ⟨30, 22, [b.row.map .d]⟩), (3, some ⟨22, 4, [p.row.map .d]⟩), (4, some ⟨30, 22, benchZ⟩), (5, some ⟨30, 22, [E.row.map .d]⟩), (6, some ⟨57, 2, [c.row.map .d]⟩)], 7⟩) ?_ ?_
                · refine weak_of [(0, some 0), (3, some 3), (4, some 4), (5, some 5), (6, some 16)] rfl (by simp [upT, up, upL, push_cast, hEd]) (by simp [upH, upR, upL, up, push_cast, hEd]) (by simp [namesOk, push_cast]) (by simp [olds])
                · clear hEd
                  have c6 := above55_ok E.lays l c hlr (fun R hR => small_valid (x1 R hR)) (by omega)
                  have hH : hitF E c l (p.p * p.p + p.q * p.q) = if p.p * p.p + p.q * p.q = 0 then E else if aboveB E.lays (l + 1).toNat c then { E with hits := E.hits + 1 } else E := rfl
                  generalize hitF E c l (p.p * p.p + p.q * p.q) = H at *
                  generalize aboveB E.lays (l + 1).toNat c = A at *
                  have w9 := wrap_i64 (n := E.hits + 1) (by omega) (by omega)
                  by_cases z1 : p.p = 0
                  · by_cases z2 : p.q = 0
                    · rw [z1, z2, if_pos (by decide)] at hH
                      have hHv : ∀ R ∈ H.lays, validR R = true := by rw [hH]; exact x1
                      have hHl : H.lays.length ≤ 256 := by rw [hH]; exact x2
                      have z1' : (p.p == 0) = true := by simp [z1]
                      have z2' : (p.q == 0) = true := by simp [z2]
                      refine awp_region cx [(13, .skip)] fun K hK => ?_
                      simp [push_cast, z1, z2, Cell.row]
                      repeat (refine And.intro (by clear hK; intros; first | omega | (simp_all; done) | (simp_all <;> omega)) ?_)
                      refine hK _ ?_; clear hK K; refine Nav.imp ?_
                      refine awp_cond (b := false) (by simp [push_cast]) (fun hb => ?_) (fun hb => ?_) <;> (refine Nav.imp ?_)
                      · simp at hb
                      · have hv7 : validE H = soundB H := by
                          rw [validE, List.all_eq_true.2 (fun R hR => ?_), Bool.true_and]
                          exact hHv R hR
                        have c7 := valid55_ok H ⟨by omega, fun R hR => small_valid (hHv R hR)⟩
                        rw [hv7] at c7
                        clear hv7
                        generalize soundB H = sb at *
                        subst hH
                        cases sb with
                        | false =>
                          simp at hP
                          rw [hP]
                          refine awp_region cx [(1, .p (.bool false))] fun K hK => ?_
                          simp [push_cast, c7]
                          repeat (refine And.intro (by clear hK; intros; first | omega | (simp_all; done) | (simp_all <;> omega)) ?_)
                          refine hK _ ?_; clear hK K; refine Nav.imp ?_
                          refine awp_cond (b := true) (by simp [push_cast]) (fun hb => ?_) (fun hb => ?_) <;> (refine Nav.imp ?_)
                          · refine awp_region cx [] fun K hK => ?_
                            simp [push_cast]
                            repeat (refine And.intro (by clear hK; intros; first | omega | (simp_all; done) | (simp_all <;> omega)) ?_)
                            refine hK _ ?_; clear hK K; refine Nav.imp ?_
                            simp [push_cast]
                          · simp at hb
                        | true =>
                          simp at hP
                          rw [hP]
                          refine awp_region cx [(1, .p (.bool true))] fun K hK => ?_
                          simp [push_cast, c7]
                          repeat (refine And.intro (by clear hK; intros; first | omega | (simp_all; done) | (simp_all <;> omega)) ?_)
                          refine hK _ ?_; clear hK K; refine Nav.imp ?_
                          refine awp_cond (b := false) (by simp [push_cast]) (fun hb => ?_) (fun hb => ?_) <;> (refine Nav.imp ?_)
                          · simp at hb
                          · refine awp_region cx [] fun K hK => ?_
                            simp [push_cast]
                            repeat (refine And.intro (by clear hK; intros; first | omega | (simp_all; done) | (simp_all <;> omega)) ?_)
                            refine hK _ ?_; clear hK K; refine Nav.imp ?_
                            simp [push_cast]
                    · have nz : p.p * p.p + p.q * p.q ≠ 0 := by
                        rcases (show p.q = -1 ∨ p.q = 1 by omega) with h | h <;> simp [z1, h]
                      rw [if_neg nz] at hH
                      have z2' : (p.q == 0) = false := by simp [z2]
                      cases A with
                      | true =>
                        rw [if_pos rfl] at hH
                        have hHv : ∀ R ∈ H.lays, validR R = true := by rw [hH]; exact x1
                        have hHl : H.lays.length ≤ 256 := by rw [hH]; exact x2
                        refine awp_region cx [(13, .p (.bool true))] fun K hK => ?_
                        simp [push_cast, z1, z2, z2', c6, Cell.row]
                        repeat (refine And.intro (by clear hK; intros; first | omega | (simp_all; done) | (simp_all <;> omega)) ?_)
                        refine hK _ ?_; clear hK K; refine Nav.imp ?_
                        refine awp_cond (b := true) (by simp [push_cast, z2]) (fun hb => ?_) (fun hb => ?_) <;> (refine Nav.imp ?_)
                        · refine awp_region cx [] fun K hK => ?_
                          simp [push_cast, w9]
                          repeat (refine And.intro (by clear hK; intros; first | omega | (simp_all; done) | (simp_all <;> omega)) ?_)
                          refine hK _ ?_; clear hK K; refine Nav.imp ?_
                          have hv7 : validE H = soundB H := by
                            rw [validE, List.all_eq_true.2 (fun R hR => ?_), Bool.true_and]
                            exact hHv R hR
                          have c7 := valid55_ok H ⟨by omega, fun R hR => small_valid (hHv R hR)⟩
                          rw [hv7] at c7
                          clear hv7
                          generalize soundB H = sb at *
                          subst hH
                          cases sb with
                          | false =>
                            simp at hP
                            rw [hP]
                            refine awp_region cx [(1, .p (.bool false))] fun K hK => ?_
                            simp [push_cast, c7]
                            repeat (refine And.intro (by clear hK; intros; first | omega | (simp_all; done) | (simp_all <;> omega)) ?_)
                            refine hK _ ?_; clear hK K; refine Nav.imp ?_
                            refine awp_cond (b := true) (by simp [push_cast]) (fun hb => ?_) (fun hb => ?_) <;> (refine Nav.imp ?_)
                            · refine awp_region cx [] fun K hK => ?_
                              simp [push_cast]
                              repeat (refine And.intro (by clear hK; intros; first | omega | (simp_all; done) | (simp_all <;> omega)) ?_)
                              refine hK _ ?_; clear hK K; refine Nav.imp ?_
                              simp [push_cast]
                            · simp at hb
                          | true =>
                            simp at hP
                            rw [hP]
                            refine awp_region cx [(1, .p (.bool true))] fun K hK => ?_
                            simp [push_cast, c7]
                            repeat (refine And.intro (by clear hK; intros; first | omega | (simp_all; done) | (simp_all <;> omega)) ?_)
                            refine hK _ ?_; clear hK K; refine Nav.imp ?_
                            refine awp_cond (b := false) (by simp [push_cast]) (fun hb => ?_) (fun hb => ?_) <;> (refine Nav.imp ?_)
                            · simp at hb
                            · refine awp_region cx [] fun K hK => ?_
                              simp [push_cast]
                              repeat (refine And.intro (by clear hK; intros; first | omega | (simp_all; done) | (simp_all <;> omega)) ?_)
                              refine hK _ ?_; clear hK K; refine Nav.imp ?_
                              simp [push_cast]
                        · simp at hb
                      | false =>
                        rw [if_neg (by simp)] at hH
                        have hHv : ∀ R ∈ H.lays, validR R = true := by rw [hH]; exact x1
                        have hHl : H.lays.length ≤ 256 := by rw [hH]; exact x2
                        refine awp_region cx [(13, .p (.bool false))] fun K hK => ?_
                        simp [push_cast, z1, z2, z2', c6, Cell.row]
                        repeat (refine And.intro (by clear hK; intros; first | omega | (simp_all; done) | (simp_all <;> omega)) ?_)
                        refine hK _ ?_; clear hK K; refine Nav.imp ?_
                        refine awp_cond (b := false) (by simp [push_cast, z2]) (fun hb => ?_) (fun hb => ?_) <;> (refine Nav.imp ?_)
                        · simp at hb
                        · have hv7 : validE H = soundB H := by
                            rw [validE, List.all_eq_true.2 (fun R hR => ?_), Bool.true_and]
                            exact hHv R hR
                          have c7 := valid55_ok H ⟨by omega, fun R hR => small_valid (hHv R hR)⟩
                          rw [hv7] at c7
                          clear hv7
                          generalize soundB H = sb at *
                          subst hH
                          cases sb with
                          | false =>
                            simp at hP
                            rw [hP]
                            refine awp_region cx [(1, .p (.bool false))] fun K hK => ?_
                            simp [push_cast, c7]
                            repeat (refine And.intro (by clear hK; intros; first | omega | (simp_all; done) | (simp_all <;> omega)) ?_)
                            refine hK _ ?_; clear hK K; refine Nav.imp ?_
                            refine awp_cond (b := true) (by simp [push_cast]) (fun hb => ?_) (fun hb => ?_) <;> (refine Nav.imp ?_)
                            · refine awp_region cx [] fun K hK => ?_
                              simp [push_cast]
                              repeat (refine And.intro (by clear hK; intros; first | omega | (simp_all; done) | (simp_all <;> omega)) ?_)
                              refine hK _ ?_; clear hK K; refine Nav.imp ?_
                              simp [push_cast]
                            · simp at hb
                          | true =>
                            simp at hP
                            rw [hP]
                            refine awp_region cx [(1, .p (.bool true))] fun K hK => ?_
                            simp [push_cast, c7]
                            repeat (refine And.intro (by clear hK; intros; first | omega | (simp_all; done) | (simp_all <;> omega)) ?_)
                            refine hK _ ?_; clear hK K; refine Nav.imp ?_
                            refine awp_cond (b := false) (by simp [push_cast]) (fun hb => ?_) (fun hb => ?_) <;> (refine Nav.imp ?_)
                            · simp at hb
                            · refine awp_region cx [] fun K hK => ?_
                              simp [push_cast]
                              repeat (refine And.intro (by clear hK; intros; first | omega | (simp_all; done) | (simp_all <;> omega)) ?_)
                              refine hK _ ?_; clear hK K; refine Nav.imp ?_
                              simp [push_cast]
                  · have nz : p.p * p.p + p.q * p.q ≠ 0 := by
                      have : 0 ≤ p.q * p.q := by rcases (show p.q = -1 ∨ p.q = 0 ∨ p.q = 1 by omega) with h | h | h <;> simp [h]
                      rcases (show p.p = -1 ∨ p.p = 1 by omega) with h | h <;> simp [h] <;> omega
                    rw [if_neg nz] at hH
                    have z1' : (p.p == 0) = false := by simp [z1]
                    cases A with
                    | true =>
                      rw [if_pos rfl] at hH
                      have hHv : ∀ R ∈ H.lays, validR R = true := by rw [hH]; exact x1
                      have hHl : H.lays.length ≤ 256 := by rw [hH]; exact x2
                      refine awp_region cx [(13, .p (.bool true))] fun K hK => ?_
                      simp [push_cast, z1, z1', c6, Cell.row]
                      repeat (refine And.intro (by clear hK; intros; first | omega | (simp_all; done) | (simp_all <;> omega)) ?_)
                      refine hK _ ?_; clear hK K; refine Nav.imp ?_
                      refine awp_cond (b := true) (by simp [push_cast, z1]) (fun hb => ?_) (fun hb => ?_) <;> (refine Nav.imp ?_)
                      · refine awp_region cx [] fun K hK => ?_
                        simp [push_cast, w9]
                        repeat (refine And.intro (by clear hK; intros; first | omega | (simp_all; done) | (simp_all <;> omega)) ?_)
                        refine hK _ ?_; clear hK K; refine Nav.imp ?_
                        have hv7 : validE H = soundB H := by
                          rw [validE, List.all_eq_true.2 (fun R hR => ?_), Bool.true_and]
                          exact hHv R hR
                        have c7 := valid55_ok H ⟨by omega, fun R hR => small_valid (hHv R hR)⟩
                        rw [hv7] at c7
                        clear hv7
                        generalize soundB H = sb at *
                        subst hH
                        cases sb with
                        | false =>
                          simp at hP
                          rw [hP]
                          refine awp_region cx [(1, .p (.bool false))] fun K hK => ?_
                          simp [push_cast, c7]
                          repeat (refine And.intro (by clear hK; intros; first | omega | (simp_all; done) | (simp_all <;> omega)) ?_)
                          refine hK _ ?_; clear hK K; refine Nav.imp ?_
                          refine awp_cond (b := true) (by simp [push_cast]) (fun hb => ?_) (fun hb => ?_) <;> (refine Nav.imp ?_)
                          · refine awp_region cx [] fun K hK => ?_
                            simp [push_cast]
                            repeat (refine And.intro (by clear hK; intros; first | omega | (simp_all; done) | (simp_all <;> omega)) ?_)
                            refine hK _ ?_; clear hK K; refine Nav.imp ?_
                            simp [push_cast]
                          · simp at hb
                        | true =>
                          simp at hP
                          rw [hP]
                          refine awp_region cx [(1, .p (.bool true))] fun K hK => ?_
                          simp [push_cast, c7]
                          repeat (refine And.intro (by clear hK; intros; first | omega | (simp_all; done) | (simp_all <;> omega)) ?_)
                          refine hK _ ?_; clear hK K; refine Nav.imp ?_
                          refine awp_cond (b := false) (by simp [push_cast]) (fun hb => ?_) (fun hb => ?_) <;> (refine Nav.imp ?_)
                          · simp at hb
                          · refine awp_region cx [] fun K hK => ?_
                            simp [push_cast]
                            repeat (refine And.intro (by clear hK; intros; first | omega | (simp_all; done) | (simp_all <;> omega)) ?_)
                            refine hK _ ?_; clear hK K; refine Nav.imp ?_
                            simp [push_cast]
                      · simp at hb
                    | false =>
                      rw [if_neg (by simp)] at hH
                      have hHv : ∀ R ∈ H.lays, validR R = true := by rw [hH]; exact x1
                      have hHl : H.lays.length ≤ 256 := by rw [hH]; exact x2
                      refine awp_region cx [(13, .p (.bool false))] fun K hK => ?_
                      simp [push_cast, z1, z1', c6, Cell.row]
                      repeat (refine And.intro (by clear hK; intros; first | omega | (simp_all; done) | (simp_all <;> omega)) ?_)
                      refine hK _ ?_; clear hK K; refine Nav.imp ?_
                      refine awp_cond (b := false) (by simp [push_cast, z1]) (fun hb => ?_) (fun hb => ?_) <;> (refine Nav.imp ?_)
                      · simp at hb
                      · have hv7 : validE H = soundB H := by
                          rw [validE, List.all_eq_true.2 (fun R hR => ?_), Bool.true_and]
                          exact hHv R hR
                        have c7 := valid55_ok H ⟨by omega, fun R hR => small_valid (hHv R hR)⟩
                        rw [hv7] at c7
                        clear hv7
                        generalize soundB H = sb at *
                        subst hH
                        cases sb with
                        | false =>
                          simp at hP
                          rw [hP]
                          refine awp_region cx [(1, .p (.bool false))] fun K hK => ?_
                          simp [push_cast, c7]
                          repeat (refine And.intro (by clear hK; intros; first | omega | (simp_all; done) | (simp_all <;> omega)) ?_)
                          refine hK _ ?_; clear hK K; refine Nav.imp ?_
                          refine awp_cond (b := true) (by simp [push_cast]) (fun hb => ?_) (fun hb => ?_) <;> (refine Nav.imp ?_)
                          · refine awp_region cx [] fun K hK => ?_
                            simp [push_cast]
                            repeat (refine And.intro (by clear hK; intros; first | omega | (simp_all; done) | (simp_all <;> omega)) ?_)
                            refine hK _ ?_; clear hK K; refine Nav.imp ?_
                            simp [push_cast]
                          · simp at hb
                        | true =>
                          simp at hP
                          rw [hP]
                          refine awp_region cx [(1, .p (.bool true))] fun K hK => ?_
                          simp [push_cast, c7]
                          repeat (refine And.intro (by clear hK; intros; first | omega | (simp_all; done) | (simp_all <;> omega)) ?_)
                          refine hK _ ?_; clear hK K; refine Nav.imp ?_
                          refine awp_cond (b := false) (by simp [push_cast]) (fun hb => ?_) (fun hb => ?_) <;> (refine Nav.imp ?_)
                          · simp at hb
                          · refine awp_region cx [] fun K hK => ?_
                            simp [push_cast]
                            repeat (refine And.intro (by clear hK; intros; first | omega | (simp_all; done) | (simp_all <;> omega)) ?_)
                            refine hK _ ?_; clear hK K; refine Nav.imp ?_
                            simp [push_cast]
          · rw [hE1 q] at c5
            clear hE1 hEd
            have q1 : decide (p.s < 0) = false := by simp; omega
            have q2 : 0 < p.s := by omega
            have hEd : E = E := rfl
            refine awp_cond (b := false) (by simp [push_cast, q1]) (fun hb => ?_) (fun hb => ?_) <;> (refine Nav.imp ?_)
            · simp at hb
            · refine awp_region cx [] fun K hK => ?_
              simp [push_cast]
              repeat (refine And.intro (by clear hK; intros; first | omega | (simp_all; done) | (simp_all <;> omega)) ?_)
              refine hK _ ?_; clear hK K; refine Nav.imp ?_
              refine awp_cond (b := true) (by simp [push_cast, q2]) (fun hb => ?_) (fun hb => ?_) <;> (refine Nav.imp ?_)
              · refine awp_region cx [(3, .p (.agg E.row))] fun K hK => ?_
                simp [push_cast, c5, Cell.row]
                repeat (refine And.intro (by clear hK; intros; first | omega | (simp_all; done) | (simp_all <;> omega)) ?_)
                refine hK _ ?_; clear hK K; refine Nav.imp ?_
                clear hEd
                refine awp_weak (s' := ⟨96, [(4, .ptr 0 0 0), (7, .ptr 3 0 0), (8, .ptr 4 0 0), (9, .ptr 5 0 0), (11, .ptr 6 0 0), (12, .d (.int .i64 l))], [(0, some ⟨30, 22, [b.row.map .d]⟩), (3, some ⟨22, 4, [p.row.map .d]⟩), (4, some ⟨30, 22, benchZ⟩), (5, some ⟨30, 22, [E.row.map .d]⟩), (6, some ⟨57, 2, [c.row.map .d]⟩)], 7⟩) ?_ ?_
                · refine weak_of [(0, some 0), (3, some 3), (4, some 4), (5, some 5), (6, some 16)] rfl (by simp [upT, up, upL, push_cast]) (by simp [upH, upR, upL, up, push_cast]) (by simp [namesOk, push_cast]) (by simp [olds])
                · have c6 := above55_ok E.lays l c hlr (fun R hR => small_valid (x1 R hR)) (by omega)
                  have hH : hitF E c l (p.p * p.p + p.q * p.q) = if p.p * p.p + p.q * p.q = 0 then E else if aboveB E.lays (l + 1).toNat c then { E with hits := E.hits + 1 } else E := rfl
                  generalize hitF E c l (p.p * p.p + p.q * p.q) = H at *
                  generalize aboveB E.lays (l + 1).toNat c = A at *
                  have w9 := wrap_i64 (n := E.hits + 1) (by omega) (by omega)
                  by_cases z1 : p.p = 0
                  · by_cases z2 : p.q = 0
                    · rw [z1, z2, if_pos (by decide)] at hH
                      have hHv : ∀ R ∈ H.lays, validR R = true := by rw [hH]; exact x1
                      have hHl : H.lays.length ≤ 256 := by rw [hH]; exact x2
                      have z1' : (p.p == 0) = true := by simp [z1]
                      have z2' : (p.q == 0) = true := by simp [z2]
                      refine awp_region cx [(13, .skip)] fun K hK => ?_
                      simp [push_cast, z1, z2, Cell.row]
                      repeat (refine And.intro (by clear hK; intros; first | omega | (simp_all; done) | (simp_all <;> omega)) ?_)
                      refine hK _ ?_; clear hK K; refine Nav.imp ?_
                      refine awp_cond (b := false) (by simp [push_cast]) (fun hb => ?_) (fun hb => ?_) <;> (refine Nav.imp ?_)
                      · simp at hb
                      · have hv7 : validE H = soundB H := by
                          rw [validE, List.all_eq_true.2 (fun R hR => ?_), Bool.true_and]
                          exact hHv R hR
                        have c7 := valid55_ok H ⟨by omega, fun R hR => small_valid (hHv R hR)⟩
                        rw [hv7] at c7
                        clear hv7
                        generalize soundB H = sb at *
                        subst hH
                        cases sb with
                        | false =>
                          simp at hP
                          rw [hP]
                          refine awp_region cx [(1, .p (.bool false))] fun K hK => ?_
                          simp [push_cast, c7]
                          repeat (refine And.intro (by clear hK; intros; first | omega | (simp_all; done) | (simp_all <;> omega)) ?_)
                          refine hK _ ?_; clear hK K; refine Nav.imp ?_
                          refine awp_cond (b := true) (by simp [push_cast]) (fun hb => ?_) (fun hb => ?_) <;> (refine Nav.imp ?_)
                          · refine awp_region cx [] fun K hK => ?_
                            simp [push_cast]
                            repeat (refine And.intro (by clear hK; intros; first | omega | (simp_all; done) | (simp_all <;> omega)) ?_)
                            refine hK _ ?_; clear hK K; refine Nav.imp ?_
                            simp [push_cast]
                          · simp at hb
                        | true =>
                          simp at hP
                          rw [hP]
                          refine awp_region cx [(1, .p (.bool true))] fun K hK => ?_
                          simp [push_cast, c7]
                          repeat (refine And.intro (by clear hK; intros; first | omega | (simp_all; done) | (simp_all <;> omega)) ?_)
                          refine hK _ ?_; clear hK K; refine Nav.imp ?_
                          refine awp_cond (b := false) (by simp [push_cast]) (fun hb => ?_) (fun hb => ?_) <;> (refine Nav.imp ?_)
                          · simp at hb
                          · refine awp_region cx [] fun K hK => ?_
                            simp [push_cast]
                            repeat (refine And.intro (by clear hK; intros; first | omega | (simp_all; done) | (simp_all <;> omega)) ?_)
                            refine hK _ ?_; clear hK K; refine Nav.imp ?_
                            simp [push_cast]
                    · have nz : p.p * p.p + p.q * p.q ≠ 0 := by
                        rcases (show p.q = -1 ∨ p.q = 1 by omega) with h | h <;> simp [z1, h]
                      rw [if_neg nz] at hH
                      have z2' : (p.q == 0) = false := by simp [z2]
                      cases A with
                      | true =>
                        rw [if_pos rfl] at hH
                        have hHv : ∀ R ∈ H.lays, validR R = true := by rw [hH]; exact x1
                        have hHl : H.lays.length ≤ 256 := by rw [hH]; exact x2
                        refine awp_region cx [(13, .p (.bool true))] fun K hK => ?_
                        simp [push_cast, z1, z2, z2', c6, Cell.row]
                        repeat (refine And.intro (by clear hK; intros; first | omega | (simp_all; done) | (simp_all <;> omega)) ?_)
                        refine hK _ ?_; clear hK K; refine Nav.imp ?_
                        refine awp_cond (b := true) (by simp [push_cast, z2]) (fun hb => ?_) (fun hb => ?_) <;> (refine Nav.imp ?_)
                        · refine awp_region cx [] fun K hK => ?_
                          simp [push_cast, w9]
                          repeat (refine And.intro (by clear hK; intros; first | omega | (simp_all; done) | (simp_all <;> omega)) ?_)
                          refine hK _ ?_; clear hK K; refine Nav.imp ?_
                          have hv7 : validE H = soundB H := by
                            rw [validE, List.all_eq_true.2 (fun R hR => ?_), Bool.true_and]
                            exact hHv R hR
                          have c7 := valid55_ok H ⟨by omega, fun R hR => small_valid (hHv R hR)⟩
                          rw [hv7] at c7
                          clear hv7
                          generalize soundB H = sb at *
                          subst hH
                          cases sb with
                          | false =>
                            simp at hP
                            rw [hP]
                            refine awp_region cx [(1, .p (.bool false))] fun K hK => ?_
                            simp [push_cast, c7]
                            repeat (refine And.intro (by clear hK; intros; first | omega | (simp_all; done) | (simp_all <;> omega)) ?_)
                            refine hK _ ?_; clear hK K; refine Nav.imp ?_
                            refine awp_cond (b := true) (by simp [push_cast]) (fun hb => ?_) (fun hb => ?_) <;> (refine Nav.imp ?_)
                            · refine awp_region cx [] fun K hK => ?_
                              simp [push_cast]
                              repeat (refine And.intro (by clear hK; intros; first | omega | (simp_all; done) | (simp_all <;> omega)) ?_)
                              refine hK _ ?_; clear hK K; refine Nav.imp ?_
                              simp [push_cast]
                            · simp at hb
                          | true =>
                            simp at hP
                            rw [hP]
                            refine awp_region cx [(1, .p (.bool true))] fun K hK => ?_
                            simp [push_cast, c7]
                            repeat (refine And.intro (by clear hK; intros; first | omega | (simp_all; done) | (simp_all <;> omega)) ?_)
                            refine hK _ ?_; clear hK K; refine Nav.imp ?_
                            refine awp_cond (b := false) (by simp [push_cast]) (fun hb => ?_) (fun hb => ?_) <;> (refine Nav.imp ?_)
                            · simp at hb
                            · refine awp_region cx [] fun K hK => ?_
                              simp [push_cast]
                              repeat (refine And.intro (by clear hK; intros; first | omega | (simp_all; done) | (simp_all <;> omega)) ?_)
                              refine hK _ ?_; clear hK K; refine Nav.imp ?_
                              simp [push_cast]
                        · simp at hb
                      | false =>
                        rw [if_neg (by simp)] at hH
                        have hHv : ∀ R ∈ H.lays, validR R = true := by rw [hH]; exact x1
                        have hHl : H.lays.length ≤ 256 := by rw [hH]; exact x2
                        refine awp_region cx [(13, .p (.bool false))] fun K hK => ?_
                        simp [push_cast, z1, z2, z2', c6, Cell.row]
                        repeat (refine And.intro (by clear hK; intros; first | omega | (simp_all; done) | (simp_all <;> omega)) ?_)
                        refine hK _ ?_; clear hK K; refine Nav.imp ?_
                        refine awp_cond (b := false) (by simp [push_cast, z2]) (fun hb => ?_) (fun hb => ?_) <;> (refine Nav.imp ?_)
                        · simp at hb
                        · have hv7 : validE H = soundB H := by
                            rw [validE, List.all_eq_true.2 (fun R hR => ?_), Bool.true_and]
                            exact hHv R hR
                          have c7 := valid55_ok H ⟨by omega, fun R hR => small_valid (hHv R hR)⟩
                          rw [hv7] at c7
                          clear hv7
                          generalize soundB H = sb at *
                          subst hH
                          cases sb with
                          | false =>
                            simp at hP
                            rw [hP]
                            refine awp_region cx [(1, .p (.bool false))] fun K hK => ?_
                            simp [push_cast, c7]
                            repeat (refine And.intro (by clear hK; intros; first | omega | (simp_all; done) | (simp_all <;> omega)) ?_)
                            refine hK _ ?_; clear hK K; refine Nav.imp ?_
                            refine awp_cond (b := true) (by simp [push_cast]) (fun hb => ?_) (fun hb => ?_) <;> (refine Nav.imp ?_)
                            · refine awp_region cx [] fun K hK => ?_
                              simp [push_cast]
                              repeat (refine And.intro (by clear hK; intros; first | omega | (simp_all; done) | (simp_all <;> omega)) ?_)
                              refine hK _ ?_; clear hK K; refine Nav.imp ?_
                              simp [push_cast]
                            · simp at hb
                          | true =>
                            simp at hP
                            rw [hP]
                            refine awp_region cx [(1, .p (.bool true))] fun K hK => ?_
                            simp [push_cast, c7]
                            repeat (refine And.intro (by clear hK; intros; first | omega | (simp_all; done) | (simp_all <;> omega)) ?_)
                            refine hK _ ?_; clear hK K; refine Nav.imp ?_
                            refine awp_cond (b := false) (by simp [push_cast]) (fun hb => ?_) (fun hb => ?_) <;> (refine Nav.imp ?_)
                            · simp at hb
                            · refine awp_region cx [] fun K hK => ?_
                              simp [push_cast]
                              repeat (refine And.intro (by clear hK; intros; first | omega | (simp_all; done) | (simp_all <;> omega)) ?_)
                              refine hK _ ?_; clear hK K; refine Nav.imp ?_
                              simp [push_cast]
                  · have nz : p.p * p.p + p.q * p.q ≠ 0 := by
                      have : 0 ≤ p.q * p.q := by rcases (show p.q = -1 ∨ p.q = 0 ∨ p.q = 1 by omega) with h | h | h <;> simp [h]
                      rcases (show p.p = -1 ∨ p.p = 1 by omega) with h | h <;> simp [h] <;> omega
                    rw [if_neg nz] at hH
                    have z1' : (p.p == 0) = false := by simp [z1]
                    cases A with
                    | true =>
                      rw [if_pos rfl] at hH
                      have hHv : ∀ R ∈ H.lays, validR R = true := by rw [hH]; exact x1
                      have hHl : H.lays.length ≤ 256 := by rw [hH]; exact x2
                      refine awp_region cx [(13, .p (.bool true))] fun K hK => ?_
                      simp [push_cast, z1, z1', c6, Cell.row]
                      repeat (refine And.intro (by clear hK; intros; first | omega | (simp_all; done) | (simp_all <;> omega)) ?_)
                      refine hK _ ?_; clear hK K; refine Nav.imp ?_
                      refine awp_cond (b := true) (by simp [push_cast, z1]) (fun hb => ?_) (fun hb => ?_) <;> (refine Nav.imp ?_)
                      · refine awp_region cx [] fun K hK => ?_
                        simp [push_cast, w9]
                        repeat (refine And.intro (by clear hK; intros; first | omega | (simp_all; done) | (simp_all <;> omega)) ?_)
                        refine hK _ ?_; clear hK K; refine Nav.imp ?_
                        have hv7 : validE H = soundB H := by
                          rw [validE, List.all_eq_true.2 (fun R hR => ?_), Bool.true_and]
                          exact hHv R hR
                        have c7 := valid55_ok H ⟨by omega, fun R hR => small_valid (hHv R hR)⟩
                        rw [hv7] at c7
                        clear hv7
                        generalize soundB H = sb at *
                        subst hH
                        cases sb with
                        | false =>
                          simp at hP
                          rw [hP]
                          refine awp_region cx [(1, .p (.bool false))] fun K hK => ?_
                          simp [push_cast, c7]
                          repeat (refine And.intro (by clear hK; intros; first | omega | (simp_all; done) | (simp_all <;> omega)) ?_)
                          refine hK _ ?_; clear hK K; refine Nav.imp ?_
                          refine awp_cond (b := true) (by simp [push_cast]) (fun hb => ?_) (fun hb => ?_) <;> (refine Nav.imp ?_)
                          · refine awp_region cx [] fun K hK => ?_
                            simp [push_cast]
                            repeat (refine And.intro (by clear hK; intros; first | omega | (simp_all; done) | (simp_all <;> omega)) ?_)
                            refine hK _ ?_; clear hK K; refine Nav.imp ?_
                            simp [push_cast]
                          · simp at hb
                        | true =>
                          simp at hP
                          rw [hP]
                          refine awp_region cx [(1, .p (.bool true))] fun K hK => ?_
                          simp [push_cast, c7]
                          repeat (refine And.intro (by clear hK; intros; first | omega | (simp_all; done) | (simp_all <;> omega)) ?_)
                          refine hK _ ?_; clear hK K; refine Nav.imp ?_
                          refine awp_cond (b := false) (by simp [push_cast]) (fun hb => ?_) (fun hb => ?_) <;> (refine Nav.imp ?_)
                          · simp at hb
                          · refine awp_region cx [] fun K hK => ?_
                            simp [push_cast]
                            repeat (refine And.intro (by clear hK; intros; first | omega | (simp_all; done) | (simp_all <;> omega)) ?_)
                            refine hK _ ?_; clear hK K; refine Nav.imp ?_
                            simp [push_cast]
                      · simp at hb
                    | false =>
                      rw [if_neg (by simp)] at hH
                      have hHv : ∀ R ∈ H.lays, validR R = true := by rw [hH]; exact x1
                      have hHl : H.lays.length ≤ 256 := by rw [hH]; exact x2
                      refine awp_region cx [(13, .p (.bool false))] fun K hK => ?_
                      simp [push_cast, z1, z1', c6, Cell.row]
                      repeat (refine And.intro (by clear hK; intros; first | omega | (simp_all; done) | (simp_all <;> omega)) ?_)
                      refine hK _ ?_; clear hK K; refine Nav.imp ?_
                      refine awp_cond (b := false) (by simp [push_cast, z1]) (fun hb => ?_) (fun hb => ?_) <;> (refine Nav.imp ?_)
                      · simp at hb
                      · have hv7 : validE H = soundB H := by
                          rw [validE, List.all_eq_true.2 (fun R hR => ?_), Bool.true_and]
                          exact hHv R hR
                        have c7 := valid55_ok H ⟨by omega, fun R hR => small_valid (hHv R hR)⟩
                        rw [hv7] at c7
                        clear hv7
                        generalize soundB H = sb at *
                        subst hH
                        cases sb with
                        | false =>
                          simp at hP
                          rw [hP]
                          refine awp_region cx [(1, .p (.bool false))] fun K hK => ?_
                          simp [push_cast, c7]
                          repeat (refine And.intro (by clear hK; intros; first | omega | (simp_all; done) | (simp_all <;> omega)) ?_)
                          refine hK _ ?_; clear hK K; refine Nav.imp ?_
                          refine awp_cond (b := true) (by simp [push_cast]) (fun hb => ?_) (fun hb => ?_) <;> (refine Nav.imp ?_)
                          · refine awp_region cx [] fun K hK => ?_
                            simp [push_cast]
                            repeat (refine And.intro (by clear hK; intros; first | omega | (simp_all; done) | (simp_all <;> omega)) ?_)
                            refine hK _ ?_; clear hK K; refine Nav.imp ?_
                            simp [push_cast]
                          · simp at hb
                        | true =>
                          simp at hP
                          rw [hP]
                          refine awp_region cx [(1, .p (.bool true))] fun K hK => ?_
                          simp [push_cast, c7]
                          repeat (refine And.intro (by clear hK; intros; first | omega | (simp_all; done) | (simp_all <;> omega)) ?_)
                          refine hK _ ?_; clear hK K; refine Nav.imp ?_
                          refine awp_cond (b := false) (by simp [push_cast]) (fun hb => ?_) (fun hb => ?_) <;> (refine Nav.imp ?_)
                          · simp at hb
                          · refine awp_region cx [] fun K hK => ?_
                            simp [push_cast]
                            repeat (refine And.intro (by clear hK; intros; first | omega | (simp_all; done) | (simp_all <;> omega)) ?_)
                            refine hK _ ?_; clear hK K; refine Nav.imp ?_
                            simp [push_cast]
              · simp at hb
end Go.Proofs.YtlfbjflfbjkbeaaGreat

namespace Go.Proofs.YtlfbjflfbjkbeaaGreat
open Go.Abs

theorem ints2_of {f : Nat} {ds : List D} (h : hasT Tryz.prog (f + 2) 23 ds) : ∃ a b : Int, ds = [.int .i64 a, .int .i64 b] := by
  obtain ⟨hl, ha⟩ := hasT_arr (m := 1) Tryz.underlying23 (by kernel_rfl) h
  match ds, hl with
  | [d0, d1], _ =>
    have q0 := ha 0 (by omega)
    have q1 := ha 1 (by omega)
    simp only [Nat.zero_mul, Nat.one_mul, Nat.reduceMul, List.take, List.drop] at q0 q1
    obtain ⟨x0, e0, _⟩ := hasT_int Tryz.underlying3 q0
    obtain ⟨x1, e1, _⟩ := hasT_int Tryz.underlying3 q1
    simp only [List.cons.injEq, and_true] at e0 e1
    exact ⟨x0, x1, by simp [e0, e1]⟩
theorem htr_of {f : Nat} {ds : List D} (h : hasT Tryz.prog (f + 2) 25 ds) : ∃ a b c d : Int, ds = [.int .i64 a, .int .i64 b, .int .i64 c, .int .i64 d] := by
  obtain ⟨hl, hp⟩ := hasT_struct (n := 4) (ts := [3, 3, 3, 3]) Tryz.underlying25 (by kernel_rfl) rfl (by kernel_rfl) h
  obtain ⟨d0, r0, e0, h0, hp0⟩ := parts_one (by kernel_rfl) hp (by simp_all <;> omega)
  subst e0
  obtain ⟨d1, r1, e1, h1, hp1⟩ := parts_one (by kernel_rfl) hp0 (by simp_all <;> omega)
  subst e1
  obtain ⟨d2, r2, e2, h2, hp2⟩ := parts_one (by kernel_rfl) hp1 (by simp_all <;> omega)
  subst e2
  obtain ⟨d3, r3, e3, h3, hp3⟩ := parts_one (by kernel_rfl) hp2 (by simp_all <;> omega)
  subst e3
  simp only [parts] at hp3
  subst hp3
  obtain ⟨n0, e0, w0⟩ := hasT_int Tryz.underlying3 h0
  cases e0
  obtain ⟨n1, e1, w1⟩ := hasT_int Tryz.underlying3 h1
  cases e1
  obtain ⟨n2, e2, w2⟩ := hasT_int Tryz.underlying3 h2
  cases e2
  obtain ⟨n3, e3, w3⟩ := hasT_int Tryz.underlying3 h3
  cases e3
  exact ⟨n0, n1, n2, n3, rfl⟩
theorem arg_bench {x : D} (h : hasV Tryz.prog 30 x) : ∃ b : Bench, x = .agg b.row := by
  simp only [hasV, Tryz.underlying30] at h
  obtain ⟨cs, rfl, h⟩ := h
  obtain ⟨hl, hp⟩ := hasT_struct (n := 22) (ts := [22, 23, 26, 3, 3, 3, 27, 3, 4, 28]) Tryz.underlying30 (by kernel_rfl) rfl (by kernel_rfl) h
  simp only [parts, show Tryz.prog.cellsOf 22 = 4 by kernel_rfl, show Tryz.prog.cellsOf 23 = 2 by kernel_rfl, show Tryz.prog.cellsOf 26 = 8 by kernel_rfl, show Tryz.prog.cellsOf 27 = 1 by kernel_rfl, show Tryz.prog.cellsOf 4 = 1 by kernel_rfl, show Tryz.prog.cellsOf 28 = 2 by kernel_rfl, show Tryz.prog.cellsOf 3 = 1 by kernel_rfl] at hp
  obtain ⟨q0, q1, q2, q3, q4, q5, q6, q7, q8, q9, _⟩ := hp
  match cs, hl with
  | [d0, d1, d2, d3, d4, d5, d6, d7, d8, d9, d10, d11, d12, d13, d14, d15, d16, d17, d18, d19, d20, d21], _ =>
    simp only [List.take, List.drop] at q0 q1 q2 q3 q4 q5 q6 q7 q8 q9
    obtain ⟨r, hr⟩ := ints4_of (f := 27) q0
    obtain ⟨t0, t1, ht⟩ := ints2_of (f := 27) q1
    obtain ⟨_, ha⟩ := hasT_arr (m := 4) Tryz.underlying26 (by kernel_rfl) q2
    have w0 := ha 0 (by omega)
    have w1 := ha 1 (by omega)
    simp only [Nat.zero_mul, Nat.one_mul, List.take, List.drop] at w0 w1
    obtain ⟨pw0, ls0, ms0, am0, hh0⟩ := htr_of (f := 26) w0
    obtain ⟨pw1, ls1, ms1, am1, hh1⟩ := htr_of (f := 26) w1
    obtain ⟨fl, hf, _⟩ := hasT_int Tryz.underlying3 q3
    obtain ⟨dw, hd, _⟩ := hasT_int Tryz.underlying3 q4
    obtain ⟨dy, hy, _⟩ := hasT_int Tryz.underlying3 q5
    obtain ⟨rows, he, _, hrr⟩ := hasT_slice Tryz.underlying27 q6
    obtain ⟨L, hL⟩ := rows_of (row := regRow) fun r hr' => region_of (f := 22) (hrr r hr')
    obtain ⟨ht_, hh, _⟩ := hasT_int Tryz.underlying3 q7
    obtain ⟨dr_, hdr⟩ := hasT_bool Tryz.underlying4 q8
    obtain ⟨_, hb⟩ := hasT_arr (m := 1) Tryz.underlying28 (by kernel_rfl) q9
    have z0 := hb 0 (by omega)
    have z1 := hb 1 (by omega)
    simp only [Nat.zero_mul, Nat.one_mul, List.take, List.drop] at z0 z1
    obtain ⟨k0, hk0⟩ := hasT_bool Tryz.underlying4 z0
    obtain ⟨k1, hk1⟩ := hasT_bool Tryz.underlying4 z1
    subst hL
    simp only [Pos.row, List.cons.injEq, and_true] at hr ht hh0 hh1 hf hd hy he hh hdr hk0 hk1
    refine ⟨⟨r, t0, t1, pw0, ls0, ms0, am0, pw1, ls1, ms1, am1, fl, dw, dy, L, ht_, dr_, k0, k1⟩, ?_⟩
    simp [Bench.row, hr, ht, hh0, hh1, hf, hd, hy, he, hh, hdr, hk0, hk1]
def zeroBench : Value := .agg #[.int .i64 0, .int .i64 0, .int .i64 0, .int .i64 0, .int .i64 0, .int .i64 0, .int .i64 0, .int .i64 0, .int .i64 0, .int .i64 0, .int .i64 0, .int .i64 0, .int .i64 0, .int .i64 0, .int .i64 0, .int .i64 0, .int .i64 0, .slice none 0 0, .int .i64 0, .bool false, .bool false, .bool false]
def zeroInt2 : Value := .agg #[.int .i64 0, .int .i64 0]
end Go.Proofs.YtlfbjflfbjkbeaaGreat

namespace Go.Proofs.YtlfbjflfbjkbeaaGreat
open Go.Abs

theorem runs55_ok (l : List Run) (hl : l.length ≤ 1000000) : PC Tryz.prog 14 [encRuns l, encRuns l] (.p (.bool true)) := by
  refine pc_of_awp cx (fn := Tryz.f14) (c := _) Tryz.func14 rfl rfl (Nat.le_of_ble_eq_true rfl) ?_
  rw [Tryz.ntmps14]; refine Nav.imp ?_
  refine awp_region cx [] fun K hK => ?_
  simp [push_cast]
  repeat (refine And.intro (by clear hK; intros; first | omega | (simp_all; done) | (simp_all <;> omega)) ?_)
  refine hK _ ?_; clear hK K; refine Nav.imp ?_
  refine awp_region cx [] fun K hK => ?_
  simp [push_cast]
  repeat (refine And.intro (by clear hK; intros; first | omega | (simp_all; done) | (simp_all <;> omega)) ?_)
  refine hK _ ?_; clear hK K; refine Nav.imp ?_
  refine awp_cond (b := false) (by simp [push_cast]) (fun hb => ?_) (fun hb => ?_) <;> (refine Nav.imp ?_)
  · simp at hb
  · refine awp_region cx [] fun K hK => ?_
    simp [push_cast]
    repeat (refine And.intro (by clear hK; intros; first | omega | (simp_all; done) | (simp_all <;> omega)) ?_)
    refine hK _ ?_; clear hK K; refine Nav.imp ?_
    refine awp_loop (β := Nat) (fun i => ⟨26, [(0, .d (encRuns l)), (1, .d (encRuns l)), (5, .d (.int .i64 i))], [], 0⟩) (fun i => i ≤ l.length) (fun i => l.length - i) 0 ?_ (Nat.zero_le _) ?_
    · refine weak_of [] rfl (by simp [upT, up, upL, push_cast]) (by simp [upH, upR, upL, up, push_cast]) (by simp [namesOk, push_cast]) (by simp [olds])
    · rintro i hi
      refine Nav.imp ?_
      refine awp_region cx [] fun K hK => ?_
      simp [push_cast]
      repeat (refine And.intro (by clear hK; intros; first | omega | (simp_all; done) | (simp_all <;> omega)) ?_)
      refine hK _ ?_; clear hK K; refine Nav.imp ?_
      refine awp_cond (b := decide (i < l.length)) (by simp [push_cast]) (fun hb => ?_) (fun hb => ?_) <;> (refine Nav.imp ?_)
      · have hlt : i < l.length := by simpa using hb
        obtain ⟨r, hr⟩ := getq hlt
        have e0 := wrap_i64 (n := (i : Int) + 1) (by omega) (by omega)
        refine awp_region_draw cx mixed [] fun K hK => ?_
        simp [push_cast, hr, Run.row]
        repeat (refine And.intro (by clear hK; intros; first | omega | (simp_all; done) | (simp_all <;> omega)) ?_)
        refine hK _ _ (by kernel_rfl) ?_; clear hK K; refine Nav.imp ?_
        refine awp_cond (b := false) (by simp [push_cast]) (fun hb => ?_) (fun hb => ?_) <;> (refine Nav.imp ?_)
        · simp at hb
        · refine awp_region cx [] fun K hK => ?_
          simp [push_cast, e0]
          repeat (refine And.intro (by clear hK; intros; first | omega | (simp_all; done) | (simp_all <;> omega)) ?_)
          refine hK _ ?_; clear hK K; refine Nav.imp ?_
          refine ⟨i + 1, hlt, by omega, ?_⟩
          refine weak_of [] rfl (by simp [upT, up, upL, push_cast]) (by simp [upH, upR, upL, up, push_cast]) (by simp [namesOk, push_cast]) (by simp [olds])
      · refine awp_region cx [] fun K hK => ?_
        simp [push_cast]
        repeat (refine And.intro (by clear hK; intros; first | omega | (simp_all; done) | (simp_all <;> omega)) ?_)
        refine hK _ ?_; clear hK K; refine Nav.imp ?_
        simp [push_cast]
set_option maxHeartbeats 4000000 in
theorem rsame55_ok (b : Bench) (h0 : b.lays = []) : PC Tryz.prog 15 [.agg b.row, .agg b.row] (.p (.bool true)) := by
  refine pc_of_awp cx (fn := Tryz.f15) (c := _) Tryz.func15 rfl rfl (Nat.le_of_ble_eq_true rfl) ?_
  rw [Tryz.ntmps15]; refine Nav.imp ?_
  refine awp_region cx [] fun K hK => ?_
  simp [push_cast]
  repeat (refine And.intro (by clear hK; intros; first | omega | (simp_all; done) | (simp_all <;> omega)) ?_)
  refine hK _ ?_; clear hK K; refine Nav.imp ?_
  refine awp_region cx [] fun K hK => ?_
  simp [push_cast, h0]
  repeat (refine And.intro (by clear hK; intros; first | omega | (simp_all; done) | (simp_all <;> omega)) ?_)
  refine hK _ ?_; clear hK K; refine Nav.imp ?_
  refine awp_cond (b := false) (by simp [push_cast]) (fun hb => ?_) (fun hb => ?_) <;> (refine Nav.imp ?_)
  · simp at hb
  · refine awp_region cx [] fun K hK => ?_
    simp [push_cast]
    repeat (refine And.intro (by clear hK; intros; first | omega | (simp_all; done) | (simp_all <;> omega)) ?_)
    refine hK _ ?_; clear hK K; refine Nav.imp ?_
    refine awp_loop (β := Unit) (fun _ => ⟨95, [(2, .ptr 0 0 0), (3, .ptr 1 0 0), (5, .d (.int .i64 0))], [(0, some ⟨30, 22, [b.row.map .d]⟩), (1, some ⟨30, 22, [b.row.map .d]⟩)], 2⟩) (fun _ => True) (fun _ => 0) () ?_ trivial ?_
    · refine weak_of [(0, some 0), (1, some 1)] rfl (by simp [upT, up, upL, push_cast, h0]) (by simp [upH, upR, upL, up, push_cast, h0]) (by simp [namesOk, push_cast]) (by simp [olds])
    · rintro _ _
      refine Nav.imp ?_
      refine awp_region cx [] fun K hK => ?_
      simp [push_cast, h0]
      repeat (refine And.intro (by clear hK; intros; first | omega | (simp_all; done) | (simp_all <;> omega)) ?_)
      refine hK _ ?_; clear hK K; refine Nav.imp ?_
      refine awp_cond (b := false) (by simp [push_cast]) (fun hb => ?_) (fun hb => ?_) <;> (refine Nav.imp ?_)
      · simp at hb
      · refine awp_region cx [] fun K hK => ?_
        simp [push_cast]
        repeat (refine And.intro (by clear hK; intros; first | omega | (simp_all; done) | (simp_all <;> omega)) ?_)
        refine hK _ ?_; clear hK K; refine Nav.imp ?_
        simp [push_cast]
set_option maxHeartbeats 4000000 in
theorem same55_ok (b : Bench) (hL : smallL b.lays) : PC Tryz.prog 6 [.agg b.row, .agg b.row] (.p (.bool true)) := by
  obtain ⟨hlen, hsm⟩ := hL
  have c1 := rsame55_ok { b with lays := [] } rfl
  refine pc_of_awp cx (fn := Tryz.f6) (c := _) Tryz.func6 rfl rfl (Nat.le_of_ble_eq_true rfl) ?_
  rw [Tryz.ntmps6]; refine Nav.imp ?_
  refine awp_region cx [] fun K hK => ?_
  simp [push_cast]
  repeat (refine And.intro (by clear hK; intros; first | omega | (simp_all; done) | (simp_all <;> omega)) ?_)
  refine hK _ ?_; clear hK K; refine Nav.imp ?_
  refine awp_region cx [] fun K hK => ?_
  simp [push_cast]
  repeat (refine And.intro (by clear hK; intros; first | omega | (simp_all; done) | (simp_all <;> omega)) ?_)
  refine hK _ ?_; clear hK K; refine Nav.imp ?_
  refine awp_cond (b := false) (by simp [push_cast]) (fun hb => ?_) (fun hb => ?_) <;> (refine Nav.imp ?_)
  · simp at hb
  · refine awp_region cx [] fun K hK => ?_
    simp [push_cast]
    repeat (refine And.intro (by clear hK; intros; first | omega | (simp_all; done) | (simp_all <;> omega)) ?_)
    refine hK _ ?_; clear hK K; refine Nav.imp ?_
    refine awp_loop (β := Nat) (fun i => ⟨76, [(2, .ptr 0 0 0), (3, .ptr 1 0 0), (5, .d (.int .i64 i))], [(0, some ⟨30, 22, [b.row.map .d]⟩), (1, some ⟨30, 22, [b.row.map .d]⟩)], 2⟩) (fun i => i ≤ b.lays.length) (fun i => b.lays.length - i) 0 ?_ (Nat.zero_le _) ?_
    · refine weak_of [(0, some 0), (1, some 1)] rfl (by simp [upT, up, upL, push_cast]) (by simp [upH, upR, upL, up, push_cast]) (by simp [namesOk, push_cast]) (by simp [olds])
    · rintro i hi
      refine Nav.imp ?_
      refine awp_region cx [] fun K hK => ?_
      simp [push_cast]
      repeat (refine And.intro (by clear hK; intros; first | omega | (simp_all; done) | (simp_all <;> omega)) ?_)
      refine hK _ ?_; clear hK K; refine Nav.imp ?_
      refine awp_cond (b := decide (i < b.lays.length)) (by simp [push_cast]) (fun hb => ?_) (fun hb => ?_) <;> (refine Nav.imp ?_)
      · have hlt : i < b.lays.length := by simpa using hb
        obtain ⟨R, hR⟩ := getq hlt
        obtain ⟨s1, s2⟩ := hsm R (List.mem_of_getElem? hR)
        have e0 := wrap_i64 (n := (i : Int) + 1) (by omega) (by omega)
        refine awp_region cx [] fun K hK => ?_
        simp [push_cast, hR]
        repeat (refine And.intro (by clear hK; intros; first | omega | (simp_all; done) | (simp_all <;> omega)) ?_)
        refine hK _ ?_; clear hK K; refine Nav.imp ?_
        refine awp_region cx [] fun K hK => ?_
        simp [push_cast, hR]
        repeat (refine And.intro (by clear hK; intros; first | omega | (simp_all; done) | (simp_all <;> omega)) ?_)
        refine hK _ ?_; clear hK K; refine Nav.imp ?_
        refine awp_region cx [] fun K hK => ?_
        simp [push_cast]
        repeat (refine And.intro (by clear hK; intros; first | omega | (simp_all; done) | (simp_all <;> omega)) ?_)
        refine hK _ ?_; clear hK K; refine Nav.imp ?_
        refine awp_cond (b := false) (by simp [push_cast]) (fun hb => ?_) (fun hb => ?_) <;> (refine Nav.imp ?_)
        · simp at hb
        · refine awp_region cx [] fun K hK => ?_
          simp [push_cast]
          repeat (refine And.intro (by clear hK; intros; first | omega | (simp_all; done) | (simp_all <;> omega)) ?_)
          refine hK _ ?_; clear hK K; refine Nav.imp ?_
          refine awp_loop (β := Nat) (fun k => ⟨76, [(2, .ptr 0 0 0), (3, .ptr 1 0 0), (5, .d (.int .i64 i)), (6, .d (encRows R)), (7, .d (encRows R)), (8, .d (.int .i64 k))], [(0, some ⟨30, 22, [b.row.map .d]⟩), (1, some ⟨30, 22, [b.row.map .d]⟩)], 2⟩) (fun k => k ≤ R.length) (fun k => R.length - k) 0 ?_ (Nat.zero_le _) ?_
          · refine weak_of [(0, some 0), (1, some 1)] rfl (by simp [upT, up, upL, push_cast]) (by simp [upH, upR, upL, up, push_cast]) (by simp [namesOk, push_cast]) (by simp [olds])
          · rintro k hk
            refine Nav.imp ?_
            refine awp_region cx [] fun K hK => ?_
            simp [push_cast]
            repeat (refine And.intro (by clear hK; intros; first | omega | (simp_all; done) | (simp_all <;> omega)) ?_)
            refine hK _ ?_; clear hK K; refine Nav.imp ?_
            refine awp_cond (b := decide (k < R.length)) (by simp [push_cast]) (fun hb => ?_) (fun hb => ?_) <;> (refine Nav.imp ?_)
            · have hlk : k < R.length := by simpa using hb
              obtain ⟨w, hw⟩ := getq hlk
              have e1 := wrap_i64 (n := (k : Int) + 1) (by omega) (by omega)
              have c2 := runs55_ok w.runs (s2 w (List.mem_of_getElem? hw))
              refine awp_region_draw cx mixed [(22, .p (.bool true))] fun K hK => ?_
              simp [push_cast, hw, c2, Row.row]
              repeat (refine And.intro (by clear hK; intros; first | omega | (simp_all; done) | (simp_all <;> omega)) ?_)
              refine hK _ _ (by kernel_rfl) ?_; clear hK K; refine Nav.imp ?_
              refine awp_cond (b := false) (by simp [push_cast]) (fun hb => ?_) (fun hb => ?_) <;> (refine Nav.imp ?_)
              · simp at hb
              · refine awp_region cx [] fun K hK => ?_
                simp [push_cast, e1]
                repeat (refine And.intro (by clear hK; intros; first | omega | (simp_all; done) | (simp_all <;> omega)) ?_)
                refine hK _ ?_; clear hK K; refine Nav.imp ?_
                refine ⟨k + 1, hlk, by omega, ?_⟩
                refine weak_of [(0, some 0), (1, some 1)] rfl (by simp [upT, up, upL, push_cast]) (by simp [upH, upR, upL, up, push_cast]) (by simp [namesOk, push_cast]) (by simp [olds])
            · refine awp_region cx [] fun K hK => ?_
              simp [push_cast, e0]
              repeat (refine And.intro (by clear hK; intros; first | omega | (simp_all; done) | (simp_all <;> omega)) ?_)
              refine hK _ ?_; clear hK K; refine Nav.imp ?_
              refine ⟨i + 1, hlt, by omega, ?_⟩
              refine weak_of [(0, some 0), (1, some 1)] rfl (by simp [upT, up, upL, push_cast]) (by simp [upH, upR, upL, up, push_cast]) (by simp [namesOk, push_cast]) (by simp [olds])
      · refine awp_region cx [] fun K hK => ?_
        simp [push_cast]
        repeat (refine And.intro (by clear hK; intros; first | omega | (simp_all; done) | (simp_all <;> omega)) ?_)
        refine hK _ ?_; clear hK K; refine Nav.imp ?_
        refine awp_region cx [] fun K hK => ?_
        simp [push_cast]
        repeat (refine And.intro (by clear hK; intros; first | omega | (simp_all; done) | (simp_all <;> omega)) ?_)
        refine hK _ ?_; clear hK K; refine Nav.imp ?_
        simp only [Bench.row, encLays, List.map_nil] at c1
        refine awp_region cx [(2, .p (.bool true))] fun K hK => ?_
        simp [push_cast, c1]
        repeat (refine And.intro (by clear hK; intros; first | omega | (simp_all; done) | (simp_all <;> omega)) ?_)
        refine hK _ ?_; clear hK K; refine Nav.imp ?_
        simp [push_cast]
end Go.Proofs.YtlfbjflfbjkbeaaGreat
