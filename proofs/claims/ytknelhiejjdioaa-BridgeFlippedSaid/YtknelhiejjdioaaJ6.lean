/-
  Texts of this seat put together: X2, N1, N2, M4, M5, T1, T2, T3.
-/
import Derived.Test.YtknelhiejjdioaaJ5
import Derived.Test.YtknelhiejjdioaaJ4
set_option linter.unusedVariables false
set_option linter.unusedSimpArgs false
namespace Go.Proofs.Ytknelhiejjdioaa
open Go.Abs

theorem swX_le {a b : List Run} (ha : rvalid a = true) (hb : rvalid b = true) {p q : Nat} (hp : p ≤ 2 * a.length) (hq : q ≤ 2 * b.length) (hn : ¬ (p = 2 * a.length ∧ q = 2 * b.length)) :
    swP a (swX a b p q) p ≤ 2 * a.length ∧ swP b (swX a b p q) q ≤ 2 * b.length ∧ p + q + 1 ≤ swP a (swX a b p q) p + swP b (swX a b p q) q ∧ p ≤ swP a (swX a b p q) p := by
  have x1 : swX a b p q ≤ bnd a p := Int.min_le_left _ _
  have x2 : swX a b p q ≤ bnd b q := Int.min_le_right _ _
  have x3 : swX a b p q = bnd a p ∨ swX a b p q = bnd b q := by unfold swX; omega
  have hXb : swX a b p q ≤ 1048576 := by
    by_cases e : p < 2 * a.length
    · have := bnd_fits ha e; omega
    · have := bnd_fits hb (i := q) (by omega); omega
  have k1 : bnd a p = swX a b p q → p < 2 * a.length := fun e => by
    apply Classical.byContradiction
    intro h
    have h3 : bnd a p = 1048577 := by rw [show p = 2 * a.length from by omega]; exact bnd_over a
    omega
  have k2 : bnd b q = swX a b p q → q < 2 * b.length := fun e => by
    apply Classical.byContradiction
    intro h
    have h3 : bnd b q = 1048577 := by rw [show q = 2 * b.length from by omega]; exact bnd_over b
    omega
  unfold swP
  refine ⟨?_, ?_, ?_, ?_⟩
  · split
    · rename_i e; have := k1 e; omega
    · exact hp
  · split
    · rename_i e; have := k2 e; omega
    · exact hq
  · split <;> split <;> omega
  · split <;> omega

set_option maxRecDepth 100000 in
set_option maxHeartbeats 4000000 in
theorem sweepc_ok (f : Bool → Bool → Bool) (g : FuncId) (hg : ∀ x y, PC Try.prog g [.bool x, .bool y] (.p (.bool (f x y)))) (a b : List Run) (hal : a.length ≤ 1000000) (hbl : b.length ≤ 1000000) (ha : rvalid a = true) (hb : rvalid b = true) :
    PC Try.prog 68 [encRuns a, encRuns b, .fn (.func g) []] (.p (encRuns (sweep f a b))) := by
  have c1 := rvalid_ok a hal
  have c2 := rvalid_ok b hbl
  rw [ha] at c1
  rw [hb] at c2
  have hres : sweep f a b = swF f a b (2 * a.length + 2 * b.length) 0 0 [] false := by simp [sweep, ha, hb]
  generalize sweep f a b = res at *
  refine pc_of_awp cx (fn := Try.f68) (c := _) Try.func68 rfl rfl (Nat.le_of_ble_eq_true rfl) ?_
  rw [Try.ntmps68]; refine Nav.imp ?_
  refine awp_region cx [] fun K hK => ?_
  simp [push_cast]
  repeat (refine And.intro (by clear hK; intros; first | omega | (simp_all; done) | (simp_all <;> omega)) ?_)
  refine hK _ ?_; clear hK K; refine Nav.imp ?_
  refine awp_region cx [(1, .p (.bool true)), (5, .p (.bool true))] fun K hK => ?_
  simp [push_cast, c1, c2]
  repeat (refine And.intro (by clear hK; intros; first | omega | (simp_all; done) | (simp_all <;> omega)) ?_)
  refine hK _ ?_; clear hK K; refine Nav.imp ?_
  refine awp_cond (b := false) (by simp [push_cast]) (fun hb => ?_) (fun hb => ?_) <;> (refine Nav.imp ?_)
  · simp at hb
  · clear hb
    refine awp_region cx [] fun K hK => ?_
    simp [push_cast]
    repeat (refine And.intro (by clear hK; intros; first | omega | (simp_all; done) | (simp_all <;> omega)) ?_)
    refine hK _ ?_; clear hK K; refine Nav.imp ?_
    refine awp_region cx [] fun K hK => ?_
    simp [push_cast]
    repeat (refine And.intro (by clear hK; intros; first | omega | (simp_all; done) | (simp_all <;> omega)) ?_)
    refine hK _ ?_; clear hK K; refine Nav.imp ?_
    refine awp_region cx [] fun K hK => ?_
    simp [push_cast]
    repeat (refine And.intro (by clear hK; intros; first | omega | (simp_all; done) | (simp_all <;> omega)) ?_)
    refine hK _ ?_; clear hK K; refine Nav.imp ?_
    refine awp_loop (β := Nat × Nat × List Run × Bool) (fun s => ⟨78, [(2, .d (.fn (.func g) [])), (7, .ptr 0 0 0), (8, .ptr 1 0 0), (9, .hs 2 0 s.2.2.1.length), (10, .d (.bool s.2.2.2))], [(0, some ⟨116, 2, [(bdRow a s.1).map .d]⟩), (1, some ⟨116, 2, [(bdRow b s.2.1).map .d]⟩), (2, some ⟨51, 2, dr (s.2.2.1.map Run.row)⟩)], 3⟩)
      (fun s => s.1 ≤ 2 * a.length ∧ s.2.1 ≤ 2 * b.length ∧ (∃ n, 2 * a.length + 2 * b.length ≤ n + (s.1 + s.2.1) ∧ swF f a b n s.1 s.2.1 s.2.2.1 s.2.2.2 = res) ∧ (s.2.2.2 = true → s.2.2.1 ≠ []) ∧ s.2.2.1.length ≤ s.1 + s.2.1) (fun s => 2 * a.length + 2 * b.length - (s.1 + s.2.1)) (0, 0, [], false) ?_ ⟨Nat.zero_le _, Nat.zero_le _, ⟨_, by simp only; omega, hres.symm⟩, by simp, by simp⟩ ?_
    · refine weak_of [(0, some 11), (1, some 14), (2, none)] rfl (by simp [upT, up, upL, push_cast]) (by simp [upH, upR, upL, up, push_cast]) (by simp [namesOk, push_cast]) (by simp [olds])
    · rintro ⟨p, q, out, o⟩ ⟨hp, hq, ⟨n, hn, hsw⟩, hone, hol⟩
      simp only at hp hq hn hsw hone hol
      clear hres
      have d1 := over_ok a p hal hp
      have d2 := over_ok b q hbl hq
      have d3 := next_ok a p hal hp
      have d4 := next_ok b q hbl hq
      refine Nav.imp ?_
      by_cases hover : p = 2 * a.length ∧ q = 2 * b.length
      · rw [decide_eq_true hover.1] at d1
        rw [decide_eq_true hover.2] at d2
        have hre : res = out := by
          rw [← hsw]
          cases n with
          | zero => rfl
          | succ n => unfold swF; rw [if_pos hover]
        rw [hre]
        refine awp_region cx [(1, .x ⟨[(0, 0)], [.ptr 0 0 0], [(0, ⟨116, 2, [(bdRow a p).map .d]⟩)], [(0, 0)], none, [(0, ⟨116, 2, [(bdRow a p).map .d]⟩)], .d (.bool true)⟩), (5, .x ⟨[(0, 1)], [.ptr 0 0 0], [(0, ⟨116, 2, [(bdRow b q).map .d]⟩)], [(0, 0)], none, [(0, ⟨116, 2, [(bdRow b q).map .d]⟩)], .d (.bool true)⟩)] fun K hK => ?_
        simp [push_cast, d1, d2]
        repeat (refine And.intro (by clear hK; intros; first | omega | (simp_all; done) | (simp_all <;> omega)) ?_)
        refine hK _ ?_; clear hK K; refine Nav.imp ?_
        refine awp_cond (b := false) (by simp [push_cast]) (fun hb => ?_) (fun hb => ?_) <;> (refine Nav.imp ?_)
        · simp at hb
        · refine awp_region cx [] fun K hK => ?_
          simp [push_cast]
          repeat (refine And.intro (by clear hK; intros; first | omega | (simp_all; done) | (simp_all <;> omega)) ?_)
          refine hK _ ?_; clear hK K; refine Nav.imp ?_
          have ht : List.take out.length (out.map Run.row) = out.map Run.row := List.take_of_length_le (by simp)
          simp [push_cast, ht]
      · apply cut_
        · intro key
          by_cases hpo : p = 2 * a.length
          · have hqo : ¬ q = 2 * b.length := fun e => hover ⟨hpo, e⟩
            rw [decide_eq_true hpo] at d1
            rw [decide_eq_false hqo] at d2
            refine awp_region cx [(1, .x ⟨[(0, 0)], [.ptr 0 0 0], [(0, ⟨116, 2, [(bdRow a p).map .d]⟩)], [(0, 0)], none, [(0, ⟨116, 2, [(bdRow a p).map .d]⟩)], .d (.bool true)⟩), (5, .x ⟨[(0, 1)], [.ptr 0 0 0], [(0, ⟨116, 2, [(bdRow b q).map .d]⟩)], [(0, 0)], none, [(0, ⟨116, 2, [(bdRow b q).map .d]⟩)], .d (.bool false)⟩)] fun K hK => ?_
            simp [push_cast, d1, d2]
            repeat (refine And.intro (by clear hK; intros; first | omega | (simp_all; done) | (simp_all <;> omega)) ?_)
            refine hK _ ?_; clear hK K; refine Nav.imp ?_
            refine awp_cond (b := true) (by simp [push_cast]) (fun hb => ?_) (fun hb => ?_) <;> (refine Nav.imp ?_)
            · refine awp_weak (s' := ⟨78, [(2, .d (.fn (.func g) [])), (7, .ptr 0 0 0), (8, .ptr 1 0 0), (9, .hs 2 0 out.length), (10, .d (.bool o))], [(0, some ⟨116, 2, [(bdRow a p).map .d]⟩), (1, some ⟨116, 2, [(bdRow b q).map .d]⟩), (2, some ⟨51, 2, dr (out.map Run.row)⟩)], 3⟩) ?_ key.h
              refine weak_of [(0, some 0), (1, some 1), (2, some 2)] rfl (by simp [upT, up, upL, push_cast]) (by simp [upH, upR, upL, up, push_cast]) (by simp [namesOk, push_cast]) (by simp [olds])
            · simp at hb
          · rw [decide_eq_false hpo] at d1
            refine awp_region cx [(1, .x ⟨[(0, 0)], [.ptr 0 0 0], [(0, ⟨116, 2, [(bdRow a p).map .d]⟩)], [(0, 0)], none, [(0, ⟨116, 2, [(bdRow a p).map .d]⟩)], .d (.bool false)⟩), (5, .skip)] fun K hK => ?_
            simp [push_cast, d1]
            repeat (refine And.intro (by clear hK; intros; first | omega | (simp_all; done) | (simp_all <;> omega)) ?_)
            refine hK _ ?_; clear hK K; refine Nav.imp ?_
            refine awp_cond (b := true) (by simp [push_cast]) (fun hb => ?_) (fun hb => ?_) <;> (refine Nav.imp ?_)
            · refine awp_weak (s' := ⟨78, [(2, .d (.fn (.func g) [])), (7, .ptr 0 0 0), (8, .ptr 1 0 0), (9, .hs 2 0 out.length), (10, .d (.bool o))], [(0, some ⟨116, 2, [(bdRow a p).map .d]⟩), (1, some ⟨116, 2, [(bdRow b q).map .d]⟩), (2, some ⟨51, 2, dr (out.map Run.row)⟩)], 3⟩) ?_ key.h
              refine weak_of [(0, some 0), (1, some 1), (2, some 2)] rfl (by simp [upT, up, upL, push_cast]) (by simp [upH, upR, upL, up, push_cast]) (by simp [namesOk, push_cast]) (by simp [olds])
            · simp at hb
        · obtain ⟨n, rfl⟩ : ∃ m, n = m + 1 := ⟨n - 1, by omega⟩
          obtain ⟨y1, y2, y3, y4⟩ := swX_le ha hb hp hq hover
          unfold swF at hsw
          rw [if_neg hover] at hsw
          have hx : swX a b p q = min (bnd a p) (bnd b q) := rfl
          have d5 := pass_ok a p (swX a b p q) hal hp
          have d6 := pass_ok b q (swX a b p q) hbl hq
          have d7 := inside_ok a (swP a (swX a b p q) p) hal y1
          have d8 := inside_ok b (swP b (swX a b p q) q) hbl y2
          have d9 := hg (swP a (swX a b p q) p % 2 == 1) (swP b (swX a b p q) q % 2 == 1)
          generalize swP a (swX a b p q) p = p' at *
          generalize swP b (swX a b p q) q = q' at *
          generalize swX a b p q = x at *
          generalize bnd a p = ba at *
          generalize bnd b q = bb at *
          generalize (p' % 2 == 1) = i1 at *
          generalize (q' % 2 == 1) = i2 at *
          generalize f i1 i2 = now at *
          refine Nav.imp ?_
          refine awp_region cx [(1, .x ⟨[(0, 0)], [.ptr 0 0 0], [(0, ⟨116, 2, [(bdRow a p).map .d]⟩)], [(0, 0)], none, [(0, ⟨116, 2, [(bdRow a p).map .d]⟩)], .d (.int .i64 ba)⟩), (3, .x ⟨[(0, 1)], [.ptr 0 0 0], [(0, ⟨116, 2, [(bdRow b q).map .d]⟩)], [(0, 0)], none, [(0, ⟨116, 2, [(bdRow b q).map .d]⟩)], .d (.int .i64 bb)⟩)] fun K hK => ?_
          simp [push_cast, d3, d4]
          repeat (refine And.intro (by clear hK; intros; first | omega | (simp_all; done) | (simp_all <;> omega)) ?_)
          refine hK _ ?_; clear hK K; refine Nav.imp ?_
          rw [← hx]
          refine awp_region cx [(2, .x ⟨[(0, 0)], [.ptr 0 0 0, .d (.int .i64 x)], [(0, ⟨116, 2, [(bdRow a p).map .d]⟩)], [(0, 0)], none, [(0, ⟨116, 2, [(bdRow a p').map .d]⟩)], .tup []⟩)] fun K hK => ?_
          simp [push_cast, d5]
          repeat (refine And.intro (by clear hK; intros; first | omega | (simp_all; done) | (simp_all <;> omega)) ?_)
          refine hK _ ?_; clear hK K; refine Nav.imp ?_
          refine awp_region cx [(2, .x ⟨[(0, 1)], [.ptr 0 0 0, .d (.int .i64 x)], [(0, ⟨116, 2, [(bdRow b q).map .d]⟩)], [(0, 0)], none, [(0, ⟨116, 2, [(bdRow b q').map .d]⟩)], .tup []⟩)] fun K hK => ?_
          simp [push_cast, d6]
          repeat (refine And.intro (by clear hK; intros; first | omega | (simp_all; done) | (simp_all <;> omega)) ?_)
          refine hK _ ?_; clear hK K; refine Nav.imp ?_
          refine awp_region cx [(2, .x ⟨[(0, 0)], [.ptr 0 0 0], [(0, ⟨116, 2, [(bdRow a p').map .d]⟩)], [(0, 0)], none, [(0, ⟨116, 2, [(bdRow a p').map .d]⟩)], .d (.bool i1)⟩), (4, .x ⟨[(0, 1)], [.ptr 0 0 0], [(0, ⟨116, 2, [(bdRow b q').map .d]⟩)], [(0, 0)], none, [(0, ⟨116, 2, [(bdRow b q').map .d]⟩)], .d (.bool i2)⟩), (5, .p (.bool now))] fun K hK => ?_
          simp [push_cast, d7, d8, d9]
          repeat (refine And.intro (by clear hK; intros; first | omega | (simp_all; done) | (simp_all <;> omega)) ?_)
          refine hK _ ?_; clear hK K; refine Nav.imp ?_
          clear d1 d2 d3 d4 d5 d6 d7 d8 d9 c1 c2
          have ho16 : (out.length + 1) * 16 ≤ 140737488355328 := by omega
          cases now with
          | true =>
            cases o with
            | false =>
              have hso : swOut true false out x = out ++ [⟨x, 0⟩] := by simp [swOut]
              rw [hso] at hsw
              refine awp_region cx [] fun K hK => ?_
              simp [push_cast]
              repeat (refine And.intro (by clear hK; intros; first | omega | (simp_all; done) | (simp_all <;> omega)) ?_)
              refine hK _ ?_; clear hK K; refine Nav.imp ?_
              refine awp_cond (b := true) (by simp [push_cast]) (fun hb => ?_) (fun hb => ?_) <;> (refine Nav.imp ?_)
              · refine awp_region cx [] fun K hK => ?_
                simp [push_cast, ho16]
                repeat (refine And.intro (by clear hK; intros; first | omega | (simp_all; done) | (simp_all <;> omega)) ?_)
                refine hK _ ?_; clear hK K; refine Nav.imp ?_
                refine awp_region cx [] fun K hK => ?_
                simp [push_cast]
                repeat (refine And.intro (by clear hK; intros; first | omega | (simp_all; done) | (simp_all <;> omega)) ?_)
                refine hK _ ?_; clear hK K; refine Nav.imp ?_
                refine ⟨(p', q', out ++ [⟨x, 0⟩], true), ⟨y1, y2, ⟨n, by simp only; omega, hsw⟩, by simp, by simp; omega⟩, by simp only; omega, ?_⟩
                refine weak_of [(0, some 0), (1, some 1), (2, some 32)] rfl (by simp [upT, up, upL, push_cast, Run.row]) (by simp [upH, upR, upL, up, push_cast, Run.row]) (by simp [namesOk, push_cast]) (by simp [olds])
              · simp at hb
            | true =>
              have hso : swOut true true out x = out := by simp [swOut]
              rw [hso] at hsw
              refine awp_region cx [] fun K hK => ?_
              simp [push_cast]
              repeat (refine And.intro (by clear hK; intros; first | omega | (simp_all; done) | (simp_all <;> omega)) ?_)
              refine hK _ ?_; clear hK K; refine Nav.imp ?_
              refine awp_cond (b := false) (by simp [push_cast]) (fun hb => ?_) (fun hb => ?_) <;> (refine Nav.imp ?_)
              · simp at hb
              · refine awp_region cx [] fun K hK => ?_
                simp [push_cast]
                repeat (refine And.intro (by clear hK; intros; first | omega | (simp_all; done) | (simp_all <;> omega)) ?_)
                refine hK _ ?_; clear hK K; refine Nav.imp ?_
                refine awp_cond (b := false) (by simp [push_cast]) (fun hb => ?_) (fun hb => ?_) <;> (refine Nav.imp ?_)
                · simp at hb
                · refine awp_region cx [] fun K hK => ?_
                  simp [push_cast]
                  repeat (refine And.intro (by clear hK; intros; first | omega | (simp_all; done) | (simp_all <;> omega)) ?_)
                  refine hK _ ?_; clear hK K; refine Nav.imp ?_
                  refine ⟨(p', q', out, true), ⟨y1, y2, ⟨n, by simp only; omega, hsw⟩, hone, by simp only; omega⟩, by simp only; omega, ?_⟩
                  refine weak_of [(0, some 0), (1, some 1), (2, some 2)] rfl (by simp [upT, up, upL, push_cast, Run.row]) (by simp [upH, upR, upL, up, push_cast, Run.row]) (by simp [namesOk, push_cast]) (by simp [olds])
          | false =>
            cases o with
            | false =>
              have hso : swOut false false out x = out := by simp [swOut]
              rw [hso] at hsw
              refine awp_region cx [] fun K hK => ?_
              simp [push_cast]
              repeat (refine And.intro (by clear hK; intros; first | omega | (simp_all; done) | (simp_all <;> omega)) ?_)
              refine hK _ ?_; clear hK K; refine Nav.imp ?_
              refine awp_cond (b := false) (by simp [push_cast]) (fun hb => ?_) (fun hb => ?_) <;> (refine Nav.imp ?_)
              · simp at hb
              · refine awp_region cx [] fun K hK => ?_
                simp [push_cast]
                repeat (refine And.intro (by clear hK; intros; first | omega | (simp_all; done) | (simp_all <;> omega)) ?_)
                refine hK _ ?_; clear hK K; refine Nav.imp ?_
                refine awp_cond (b := false) (by simp [push_cast]) (fun hb => ?_) (fun hb => ?_) <;> (refine Nav.imp ?_)
                · simp at hb
                · refine awp_region cx [] fun K hK => ?_
                  simp [push_cast]
                  repeat (refine And.intro (by clear hK; intros; first | omega | (simp_all; done) | (simp_all <;> omega)) ?_)
                  refine hK _ ?_; clear hK K; refine Nav.imp ?_
                  refine ⟨(p', q', out, false), ⟨y1, y2, ⟨n, by simp only; omega, hsw⟩, by simp, by simp only; omega⟩, by simp only; omega, ?_⟩
                  refine weak_of [(0, some 0), (1, some 1), (2, some 2)] rfl (by simp [upT, up, upL, push_cast, Run.row]) (by simp [upH, upR, upL, up, push_cast, Run.row]) (by simp [namesOk, push_cast]) (by simp [olds])
            | true =>
              obtain ⟨L, r, rfl⟩ : ∃ L r, out = L ++ [r] := by
                rcases List.eq_nil_or_concat out with e | ⟨L, r, e⟩
                · exact absurd e (hone rfl)
                · exact ⟨L, r, by rw [e, List.concat_eq_append]⟩
              obtain ⟨ra, rb⟩ := r
              have hso : swOut false true (L ++ [⟨ra, rb⟩]) x = L ++ [⟨ra, x⟩] := by simp [swOut]
              rw [hso] at hsw
              have hz : (L ++ [(⟨ra, rb⟩ : Run)])[L.length]? = some ⟨ra, rb⟩ := by simp
              have hlen : (L ++ [(⟨ra, rb⟩ : Run)]).length = L.length + 1 := by simp
              have hset : (dr ((L ++ [(⟨ra, rb⟩ : Run)]).map Run.row)).set L.length [AV.d (.int .i64 ra), AV.d (.int .i64 x)] = dr ((L ++ [(⟨ra, x⟩ : Run)]).map Run.row) := by simp [dr, Run.row]
              have hlen2 : (L ++ [(⟨ra, x⟩ : Run)]).length = (L ++ [(⟨ra, rb⟩ : Run)]).length := by simp
              have hne : L ++ [(⟨ra, x⟩ : Run)] ≠ [] := by simp
              generalize L ++ [(⟨ra, x⟩ : Run)] = C at *
              generalize L ++ [(⟨ra, rb⟩ : Run)] = B at *
              have e7 := wrap_i64 (n := (B.length : Int) - 1) (by omega) (by omega)
              have e8 : ((B.length : Int) - 1).toNat = L.length := by omega
              have e9 : (0 : Int) ≤ (B.length : Int) - 1 := by omega
              refine awp_region cx [] fun K hK => ?_
              simp [push_cast]
              repeat (refine And.intro (by clear hK; intros; first | omega | (simp_all; done) | (simp_all <;> omega)) ?_)
              refine hK _ ?_; clear hK K; refine Nav.imp ?_
              refine awp_cond (b := false) (by simp [push_cast]) (fun hb => ?_) (fun hb => ?_) <;> (refine Nav.imp ?_)
              · simp at hb
              · refine awp_region cx [] fun K hK => ?_
                simp [push_cast]
                repeat (refine And.intro (by clear hK; intros; first | omega | (simp_all; done) | (simp_all <;> omega)) ?_)
                refine hK _ ?_; clear hK K; refine Nav.imp ?_
                refine awp_cond (b := true) (by simp [push_cast]) (fun hb => ?_) (fun hb => ?_) <;> (refine Nav.imp ?_)
                · refine awp_region cx [] fun K hK => ?_
                  simp [push_cast, hz, e7, e8, e9, hset, Run.row]
                  repeat (refine And.intro (by clear hK; intros; first | omega | (simp_all; done) | (simp_all <;> omega)) ?_)
                  refine hK _ ?_; clear hK K; refine Nav.imp ?_
                  refine awp_region cx [] fun K hK => ?_
                  simp [push_cast]
                  repeat (refine And.intro (by clear hK; intros; first | omega | (simp_all; done) | (simp_all <;> omega)) ?_)
                  refine hK _ ?_; clear hK K; refine Nav.imp ?_
                  rw [← hlen2]
                  refine ⟨(p', q', C, false), ⟨y1, y2, ⟨n, by simp only; omega, hsw⟩, by simp, by simp only; omega⟩, by simp only; omega, ?_⟩
                  refine weak_of [(0, some 0), (1, some 1), (2, some 2)] rfl (by simp [upT, up, upL, push_cast, Run.row]) (by simp [upH, upR, upL, up, push_cast, Run.row]) (by simp [namesOk, push_cast]) (by simp [olds])
                · simp at hb

def fU (x y : Bool) : Bool := x || y
def fI (x y : Bool) : Bool := x && y
def fD (x y : Bool) : Bool := x && !y
theorem keepU (x y : Bool) : PC Try.prog 69 [.bool x, .bool y] (.p (.bool (fU x y))) := by
  refine pc_of_awp cx (fn := Try.f69) (c := _) Try.func69 rfl rfl (Nat.le_of_ble_eq_true rfl) ?_
  rw [Try.ntmps69]; refine Nav.imp ?_
  refine awp_region cx [] fun K hK => ?_
  simp [push_cast]
  repeat (refine And.intro (by clear hK; intros; first | omega | (simp_all; done) | (simp_all <;> omega)) ?_)
  refine hK _ ?_; clear hK K; refine Nav.imp ?_
  cases x <;> cases y
  · refine awp_region cx [] fun K hK => ?_
    simp [push_cast]
    repeat (refine And.intro (by clear hK; intros; first | omega | (simp_all; done) | (simp_all <;> omega)) ?_)
    refine hK _ ?_; clear hK K; refine Nav.imp ?_
    simp [push_cast, fU]
  · refine awp_region cx [] fun K hK => ?_
    simp [push_cast]
    repeat (refine And.intro (by clear hK; intros; first | omega | (simp_all; done) | (simp_all <;> omega)) ?_)
    refine hK _ ?_; clear hK K; refine Nav.imp ?_
    simp [push_cast, fU]
  · refine awp_region cx [] fun K hK => ?_
    simp [push_cast]
    repeat (refine And.intro (by clear hK; intros; first | omega | (simp_all; done) | (simp_all <;> omega)) ?_)
    refine hK _ ?_; clear hK K; refine Nav.imp ?_
    simp [push_cast, fU]
  · refine awp_region cx [] fun K hK => ?_
    simp [push_cast]
    repeat (refine And.intro (by clear hK; intros; first | omega | (simp_all; done) | (simp_all <;> omega)) ?_)
    refine hK _ ?_; clear hK K; refine Nav.imp ?_
    simp [push_cast, fU]
theorem keepI (x y : Bool) : PC Try.prog 70 [.bool x, .bool y] (.p (.bool (fI x y))) := by
  refine pc_of_awp cx (fn := Try.f70) (c := _) Try.func70 rfl rfl (Nat.le_of_ble_eq_true rfl) ?_
  rw [Try.ntmps70]; refine Nav.imp ?_
  refine awp_region cx [] fun K hK => ?_
  simp [push_cast]
  repeat (refine And.intro (by clear hK; intros; first | omega | (simp_all; done) | (simp_all <;> omega)) ?_)
  refine hK _ ?_; clear hK K; refine Nav.imp ?_
  cases x <;> cases y
  · refine awp_region cx [] fun K hK => ?_
    simp [push_cast]
    repeat (refine And.intro (by clear hK; intros; first | omega | (simp_all; done) | (simp_all <;> omega)) ?_)
    refine hK _ ?_; clear hK K; refine Nav.imp ?_
    simp [push_cast, fI]
  · refine awp_region cx [] fun K hK => ?_
    simp [push_cast]
    repeat (refine And.intro (by clear hK; intros; first | omega | (simp_all; done) | (simp_all <;> omega)) ?_)
    refine hK _ ?_; clear hK K; refine Nav.imp ?_
    simp [push_cast, fI]
  · refine awp_region cx [] fun K hK => ?_
    simp [push_cast]
    repeat (refine And.intro (by clear hK; intros; first | omega | (simp_all; done) | (simp_all <;> omega)) ?_)
    refine hK _ ?_; clear hK K; refine Nav.imp ?_
    simp [push_cast, fI]
  · refine awp_region cx [] fun K hK => ?_
    simp [push_cast]
    repeat (refine And.intro (by clear hK; intros; first | omega | (simp_all; done) | (simp_all <;> omega)) ?_)
    refine hK _ ?_; clear hK K; refine Nav.imp ?_
    simp [push_cast, fI]
theorem keepD (x y : Bool) : PC Try.prog 88 [.bool x, .bool y] (.p (.bool (fD x y))) := by
  refine pc_of_awp cx (fn := Try.f88) (c := _) Try.func88 rfl rfl (Nat.le_of_ble_eq_true rfl) ?_
  rw [Try.ntmps88]; refine Nav.imp ?_
  refine awp_region cx [] fun K hK => ?_
  simp [push_cast]
  repeat (refine And.intro (by clear hK; intros; first | omega | (simp_all; done) | (simp_all <;> omega)) ?_)
  refine hK _ ?_; clear hK K; refine Nav.imp ?_
  cases x <;> cases y
  · refine awp_region cx [] fun K hK => ?_
    simp [push_cast]
    repeat (refine And.intro (by clear hK; intros; first | omega | (simp_all; done) | (simp_all <;> omega)) ?_)
    refine hK _ ?_; clear hK K; refine Nav.imp ?_
    simp [push_cast, fD]
  · refine awp_region cx [] fun K hK => ?_
    simp [push_cast]
    repeat (refine And.intro (by clear hK; intros; first | omega | (simp_all; done) | (simp_all <;> omega)) ?_)
    refine hK _ ?_; clear hK K; refine Nav.imp ?_
    simp [push_cast, fD]
  · refine awp_region cx [] fun K hK => ?_
    simp [push_cast]
    repeat (refine And.intro (by clear hK; intros; first | omega | (simp_all; done) | (simp_all <;> omega)) ?_)
    refine hK _ ?_; clear hK K; refine Nav.imp ?_
    simp [push_cast, fD]
  · refine awp_region cx [] fun K hK => ?_
    simp [push_cast]
    repeat (refine And.intro (by clear hK; intros; first | omega | (simp_all; done) | (simp_all <;> omega)) ?_)
    refine hK _ ?_; clear hK K; refine Nav.imp ?_
    simp [push_cast, fD]
theorem union_ok (a b : List Run) (hal : a.length ≤ 1000000) (hbl : b.length ≤ 1000000) (ha : rvalid a = true) (hb : rvalid b = true) : PC Try.prog 39 [encRuns a, encRuns b] (.p (encRuns (sweep fU a b))) := by
  have c1 := sweepc_ok fU 69 keepU a b hal hbl ha hb
  generalize sweep fU a b = r at *
  refine pc_of_awp cx (fn := Try.f39) (c := _) Try.func39 rfl rfl (Nat.le_of_ble_eq_true rfl) ?_
  rw [Try.ntmps39]; refine Nav.imp ?_
  refine awp_region cx [] fun K hK => ?_
  simp [push_cast]
  repeat (refine And.intro (by clear hK; intros; first | omega | (simp_all; done) | (simp_all <;> omega)) ?_)
  refine hK _ ?_; clear hK K; refine Nav.imp ?_
  refine awp_region cx [(2, .p (encRuns r))] fun K hK => ?_
  simp [push_cast, c1]
  repeat (refine And.intro (by clear hK; intros; first | omega | (simp_all; done) | (simp_all <;> omega)) ?_)
  refine hK _ ?_; clear hK K; refine Nav.imp ?_
  simp [push_cast]
theorem intersect_ok (a b : List Run) (hal : a.length ≤ 1000000) (hbl : b.length ≤ 1000000) (ha : rvalid a = true) (hb : rvalid b = true) : PC Try.prog 40 [encRuns a, encRuns b] (.p (encRuns (sweep fI a b))) := by
  have c1 := sweepc_ok fI 70 keepI a b hal hbl ha hb
  generalize sweep fI a b = r at *
  refine pc_of_awp cx (fn := Try.f40) (c := _) Try.func40 rfl rfl (Nat.le_of_ble_eq_true rfl) ?_
  rw [Try.ntmps40]; refine Nav.imp ?_
  refine awp_region cx [] fun K hK => ?_
  simp [push_cast]
  repeat (refine And.intro (by clear hK; intros; first | omega | (simp_all; done) | (simp_all <;> omega)) ?_)
  refine hK _ ?_; clear hK K; refine Nav.imp ?_
  refine awp_region cx [(2, .p (encRuns r))] fun K hK => ?_
  simp [push_cast, c1]
  repeat (refine And.intro (by clear hK; intros; first | omega | (simp_all; done) | (simp_all <;> omega)) ?_)
  refine hK _ ?_; clear hK K; refine Nav.imp ?_
  simp [push_cast]
theorem subtract_ok (a b : List Run) (hal : a.length ≤ 1000000) (hbl : b.length ≤ 1000000) (ha : rvalid a = true) (hb : rvalid b = true) : PC Try.prog 58 [encRuns a, encRuns b] (.p (encRuns (sweep fD a b))) := by
  have c1 := sweepc_ok fD 88 keepD a b hal hbl ha hb
  generalize sweep fD a b = r at *
  refine pc_of_awp cx (fn := Try.f58) (c := _) Try.func58 rfl rfl (Nat.le_of_ble_eq_true rfl) ?_
  rw [Try.ntmps58]; refine Nav.imp ?_
  refine awp_region cx [] fun K hK => ?_
  simp [push_cast]
  repeat (refine And.intro (by clear hK; intros; first | omega | (simp_all; done) | (simp_all <;> omega)) ?_)
  refine hK _ ?_; clear hK K; refine Nav.imp ?_
  refine awp_region cx [(2, .p (encRuns r))] fun K hK => ?_
  simp [push_cast, c1]
  repeat (refine And.intro (by clear hK; intros; first | omega | (simp_all; done) | (simp_all <;> omega)) ?_)
  refine hK _ ?_; clear hK K; refine Nav.imp ?_
  simp [push_cast]
end Go.Proofs.Ytknelhiejjdioaa

set_option linter.unusedVariables false
set_option linter.unusedSimpArgs false
set_option maxRecDepth 100000
namespace Go.Proofs.Ytknelhiejjdioaa
open Go.Abs

/-! What is marked around a region, row by row. -/
def nearStep (g : List Run) (M : List (Int × List Run)) (y : Int) : List (Int × List Run) := putL M y (sweep fU (mget M y) g)
def ysN (y : Int) (K j : Nat) : List Int := (List.range j).map fun i : Nat => y - K + i
def nearRow (K : Nat) (M : List (Int × List Run)) (w : Row) : List (Int × List Run) := (ysN w.y K (2 * K + 1)).foldl (nearStep (groL w.runs K)) M
def nearM (R : List Row) (K : Nat) : List (Int × List Run) := R.foldl (nearRow K) []
theorem ysN_succ (y : Int) (K j : Nat) : ysN y K (j + 1) = ysN y K j ++ [y - K + j] := by simp [ysN, List.range_succ]
theorem nearM_take {R : List Row} {K i : Nat} {w : Row} (h : R[i]? = some w) : nearM (R.take (i + 1)) K = nearRow K (nearM (R.take i) K) w := by simp [nearM, take_get h]
theorem ysN_mem (y : Int) (K : Nat) (z : Int) (j : Nat) : z ∈ ysN y K j ↔ y - K ≤ z ∧ z < y - K + j := by
  simp only [ysN, List.mem_map, List.mem_range]
  constructor
  · rintro ⟨i, hi, rfl⟩; omega
  · intro h; exact ⟨(z - (y - K)).toNat, by omega, by omega⟩
theorem ysN_pw (y : Int) (K j : Nat) : (ysN y K j).Pairwise (· < ·) := by
  simp only [ysN, List.pairwise_map]
  exact List.pairwise_lt_range.imp (fun {a b} h => by omega)

/-- What a map of runs holds. -/
def NI (P : Int → Int → Prop) (M : List (Int × List Run)) : Prop := ∀ y, Apart (mget M y) ∧ (∀ r ∈ mget M y, -4160 ≤ r.a ∧ r.b ≤ 4160) ∧ ∀ x, inR (mget M y) x = true ↔ P y x
theorem NI.nil : NI (fun _ _ => False) [] := fun y => ⟨⟨by simp [mget, getL], by simp [mget, getL]⟩, by simp [mget, getL], by simp [mget, getL, inR]⟩
theorem NI.congr {P Q : Int → Int → Prop} {M : List (Int × List Run)} (h : NI P M) (he : ∀ y x, P y x ↔ Q y x) : NI Q M := fun y => ⟨(h y).1, (h y).2.1, fun x => ((h y).2.2 x).trans (he y x)⟩
theorem NI.step {P : Int → Int → Prop} {M : List (Int × List Run)} (h : NI P M) {g : List Run} (hg : Apart g) (hb : ∀ r ∈ g, -4160 ≤ r.a ∧ r.b ≤ 4160) (z : Int) : NI (fun y x => P y x ∨ (y = z ∧ inR g x = true)) (nearStep g M z) := by
  intro y
  have h1 := h z
  have hs := sweep_facts (f := fU) rfl (apart_rv h1.1 h1.2.1) (apart_rv hg hb)
  unfold nearStep
  rw [mget_put]
  split
  · rename_i e
    subst e
    refine ⟨hs.1, apart_bounds hs.1 fun x hx => ?_, fun x => ?_⟩
    · rw [hs.2] at hx
      simp only [fU, Bool.or_eq_true] at hx
      rcases hx with hx | hx
      · obtain ⟨r, hr, h3, h4⟩ := inR_iff.1 hx; have := h1.2.1 r hr; omega
      · obtain ⟨r, hr, h3, h4⟩ := inR_iff.1 hx; have := hb r hr; omega
    · rw [hs.2]
      simp only [fU, Bool.or_eq_true, true_and, h1.2.2]
  · rename_i e
    refine ⟨(h y).1, (h y).2.1, fun x => ?_⟩
    rw [(h y).2.2]
    simp [e]
theorem NI.fold {g : List Run} (hg : Apart g) (hb : ∀ r ∈ g, -4160 ≤ r.a ∧ r.b ≤ 4160) : ∀ (l : List Int) {P : Int → Int → Prop} {M : List (Int × List Run)}, NI P M → NI (fun y x => P y x ∨ (y ∈ l ∧ inR g x = true)) (l.foldl (nearStep g) M)
  | [], P, M, h => h.congr fun y x => by simp
  | z :: l, P, M, h => (NI.fold hg hb l (h.step hg hb z)).congr fun y x => by
    simp only [List.mem_cons]
    constructor
    · rintro ((h1 | h1) | h1)
      · exact .inl h1
      · exact .inr ⟨.inl h1.1, h1.2⟩
      · exact .inr ⟨.inr h1.1, h1.2⟩
    · rintro (h1 | ⟨h1 | h1, h2⟩)
      · exact .inl (.inl h1)
      · exact .inl (.inr ⟨h1, h2⟩)
      · exact .inr ⟨h1, h2⟩
def nearP (R : List Row) (K : Nat) (y x : Int) : Prop := ∃ w ∈ R, w.y - K ≤ y ∧ y ≤ w.y + K ∧ ∃ r ∈ w.runs, r.a - K ≤ x ∧ x < r.b + K
theorem near_rows {K : Nat} (hK : K ≤ 64) : ∀ (R : List Row) {P : Int → Int → Prop} {M : List (Int × List Run)}, (∀ w ∈ R, fine w.runs = true) → NI P M → NI (fun y x => P y x ∨ nearP R K y x) (R.foldl (nearRow K) M)
  | [], P, M, _, h => h.congr fun y x => by simp [nearP]
  | w :: R, P, M, hf, h => by
    have hw := hf w (by simp)
    obtain ⟨g1, g2, g3⟩ := groL_facts hw (k := K) (by omega)
    refine (near_rows hK R (fun v hv => hf v (by simp [hv])) (NI.fold g1 g2 (ysN w.y K (2 * K + 1)) h)).congr fun y x => ?_
    rw [ysN_mem, g3]
    unfold nearP
    simp only [List.mem_cons, exists_eq_or_imp, or_assoc]
    constructor
    · rintro (h1 | ⟨h1, h2⟩ | h1)
      · exact .inl h1
      · exact .inr (.inl ⟨by omega, by omega, h2⟩)
      · exact .inr (.inr h1)
    · rintro (h1 | ⟨h1, h2, h3⟩ | h1)
      · exact .inl h1
      · exact .inr (.inl ⟨by omega, h3⟩)
      · exact .inr (.inr h1)
theorem near_facts {R : List Row} (hv : validR R = true) {K : Nat} (hK : K ≤ 64) : NI (nearP R K) (nearM R K) :=
  (near_rows hK R (fun w hw => (row_fine hv hw).2) NI.nil).congr fun y x => by simp
/-- .. in the middle of a row. -/
theorem near_mid {R : List Row} (hv : validR R = true) {K : Nat} (hK : K ≤ 64) {i : Nat} {w : Row} (hw : R[i]? = some w) (l : List Int) : ∃ P, NI P (l.foldl (nearStep (groL w.runs K)) (nearM (R.take i) K)) := by
  have h1 := near_rows hK (R.take i) (fun v hv' => (row_fine hv (List.mem_of_mem_take hv')).2) NI.nil
  obtain ⟨g1, g2, _⟩ := groL_facts (row_fine hv (List.mem_of_getElem? hw)).2 (k := K) (by omega)
  exact ⟨_, NI.fold g1 g2 l h1⟩

end Go.Proofs.Ytknelhiejjdioaa

set_option linter.unusedVariables false
set_option linter.unusedSimpArgs false
set_option maxRecDepth 100000
namespace Go.Proofs.Ytknelhiejjdioaa
open Go.Abs

/-! Regions made row by row of another one. -/
def mapRow (F : Row → List Run) (w : Row) : List Row := if F w = [] then [] else [⟨w.y, F w⟩]
def mapR (F : Row → List Run) (S : List Row) : List Row := S.flatMap (mapRow F)
theorem mapRow_len (F : Row → List Run) (w : Row) : (mapRow F w).length ≤ 1 := by unfold mapRow; split <;> simp
theorem mapRow_mem {F : Row → List Run} {w v : Row} (h : v ∈ mapRow F w) : v = ⟨w.y, F w⟩ ∧ F w ≠ [] := by
  unfold mapRow at h
  split at h
  · simp at h
  · rename_i e; simp at h; exact ⟨h, e⟩
theorem mapR_mem {F : Row → List Run} {S : List Row} {v : Row} (h : v ∈ mapR F S) : ∃ w ∈ S, v = ⟨w.y, F w⟩ ∧ F w ≠ [] := by
  obtain ⟨w, hw, hv⟩ := List.mem_flatMap.1 h
  exact ⟨w, hw, mapRow_mem hv⟩
theorem mapR_len (F : Row → List Run) : ∀ S : List Row, (mapR F S).length ≤ S.length := flat_one_len (mapRow_len F)
theorem mapR_take {F : Row → List Run} {S : List Row} {k : Nat} {w : Row} (h : S[k]? = some w) : mapR F (S.take (k + 1)) = mapR F (S.take k) ++ mapRow F w := flat_take _ h
theorem flat_pw {α β : Type} {P : α → α → Prop} {Q : β → β → Prop} {f : α → List β} (h1 : ∀ a, (f a).length ≤ 1) (h2 : ∀ a b x y, P a b → x ∈ f a → y ∈ f b → Q x y) : ∀ {l : List α}, l.Pairwise P → (l.flatMap f).Pairwise Q
  | [], _ => by simp
  | a :: l, h => by
    obtain ⟨ha, hl⟩ := List.pairwise_cons.1 h
    rw [List.flatMap_cons]
    refine List.pairwise_append.2 ⟨?_, flat_pw h1 h2 hl, fun x hx y hy => ?_⟩
    · have := h1 a
      match h : f a, this with
      | [], _ => simp
      | [x], _ => simp
    · obtain ⟨b, hb, hy⟩ := List.mem_flatMap.1 hy
      exact h2 a b x y (ha b hb) hx hy
theorem mapR_valid {F : Row → List Run} {S : List Row} (hv : validR S = true) (hF : ∀ w ∈ S, F w ≠ [] → fine (F w) = true) : validR (mapR F S) = true := by
  obtain ⟨h1, h2⟩ := validR_pw.1 hv
  refine validR_pw.2 ⟨fun v hv' => ?_, flat_pw (mapRow_len F) (fun a b x y hab hx hy => ?_) h2⟩
  · obtain ⟨w, hw, rfl, hne⟩ := mapR_mem hv'
    exact ⟨(h1 w hw).1, hF w hw hne⟩
  · rw [(mapRow_mem hx).1, (mapRow_mem hy).1]; exact hab
theorem mapR_cells {F : Row → List Run} {S : List Row} {c : Cell} : c ∈ regCells (mapR F S) ↔ ∃ w ∈ S, c.y = w.y ∧ inR (F w) c.x = true := by
  rw [mem_regCells]
  constructor
  · rintro ⟨v, hv, hy, hr⟩
    obtain ⟨w, hw, rfl, _⟩ := mapR_mem hv
    exact ⟨w, hw, hy, inR_iff.2 hr⟩
  · rintro ⟨w, hw, hy, hr⟩
    refine ⟨⟨w.y, F w⟩, List.mem_flatMap.2 ⟨w, hw, ?_⟩, hy, inR_iff.1 hr⟩
    unfold mapRow
    rw [if_neg (by rintro e; rw [e] at hr; simp [inR] at hr)]
    simp
theorem mapR_small {F : Row → List Run} {S : List Row} (hS : smallR S) (hv : validR (mapR F S) = true) : smallR (mapR F S) := by
  refine ⟨Nat.le_trans (mapR_len F S) hS.1, fun w hw => ?_⟩
  obtain ⟨_, h1, h2⟩ := fine_apart.1 (row_fine hv hw).2
  have := apart_len h1 (lo := -4096) (hi := 4096) h2
  omega
/-- What is left of a region where runs are taken away from its rows. -/
def lessF (g : Int → List Run) (w : Row) : List Run := sweep fD w.runs (g w.y)
theorem less_facts {S : List Row} (hv : validR S = true) {g : Int → List Run} (hg : ∀ y, rvalid (g y) = true) : validR (mapR (lessF g) S) = true ∧ ∀ c, c ∈ regCells (mapR (lessF g) S) ↔ c ∈ regCells S ∧ inR (g c.y) c.x = false := by
  have hsw : ∀ w ∈ S, Apart (lessF g w) ∧ ∀ x, inR (lessF g w) x = fD (inR w.runs x) (inR (g w.y) x) := fun w hw => sweep_facts rfl (fine_rv (row_fine hv hw).2) (hg w.y)
  refine ⟨mapR_valid hv fun w hw hne => fine_apart.2 ⟨hne, (hsw w hw).1, apart_bounds (hsw w hw).1 fun x hx => ?_⟩, fun c => ?_⟩
  · rw [(hsw w hw).2] at hx
    simp only [fD, Bool.and_eq_true] at hx
    obtain ⟨r, hr, h1, h2⟩ := inR_iff.1 hx.1
    obtain ⟨_, _, h3⟩ := fine_apart.1 (row_fine hv hw).2
    have := h3 r hr
    omega
  · rw [mapR_cells, mem_regCells]
    constructor
    · rintro ⟨w, hw, hy, hr⟩
      rw [(hsw w hw).2] at hr
      simp only [fD, Bool.and_eq_true, Bool.not_eq_true'] at hr
      exact ⟨⟨w, hw, hy, inR_iff.1 hr.1⟩, by rw [hy]; exact hr.2⟩
    · rintro ⟨⟨w, hw, hy, hr⟩, h2⟩
      refine ⟨w, hw, hy, ?_⟩
      rw [(hsw w hw).2, inR_iff.2 hr, ← hy, h2]
      rfl

/-- What the package calls missing. -/
def missB (S M : List Row) (k : Int) : Bool := validR S && validR M && decide (0 ≤ k) && decide (k ≤ 64)
def missR (S M : List Row) (k : Int) : List Row := if missB S M k then mapR (lessF (mget (nearM M k.toNat))) S else []
theorem miss_facts {S M : List Row} {k : Int} (h : missB S M k = true) : validR (missR S M k) = true ∧ ∀ c, c ∈ regCells (missR S M k) ↔ c ∈ regCells S ∧ ¬ nearP M k.toNat c.y c.x := by
  have e : missR S M k = mapR (lessF (mget (nearM M k.toNat))) S := by unfold missR; rw [if_pos h]
  simp only [missB, Bool.and_eq_true, decide_eq_true_eq] at h
  obtain ⟨⟨⟨h1, h2⟩, h3⟩, h4⟩ := h
  have hn := near_facts h2 (K := k.toNat) (by omega)
  obtain ⟨q1, q2⟩ := less_facts h1 (g := mget (nearM M k.toNat)) fun y => apart_rv (hn y).1 (hn y).2.1
  rw [e]
  refine ⟨q1, fun c => ?_⟩
  rw [q2, ← (hn c.y).2.2 c.x]
  simp
theorem miss_valid (S M : List Row) (k : Int) : validR (missR S M k) = true := by
  cases h : missB S M k with
  | true => exact (miss_facts h).1
  | false => unfold missR; rw [h]; rfl
theorem miss_small {S M : List Row} (hS : smallR S) (k : Int) : smallR (missR S M k) := by
  cases h : missB S M k with
  | true =>
    have hv := (miss_facts h).1
    unfold missR at hv ⊢
    rw [if_pos h] at hv ⊢
    exact mapR_small hS hv
  | false => unfold missR; rw [h]; exact ⟨by simp, by simp⟩

end Go.Proofs.Ytknelhiejjdioaa

set_option linter.unusedVariables false
set_option linter.unusedSimpArgs false
set_option maxRecDepth 100000
namespace Go.Proofs.Ytknelhiejjdioaa
open Go.Abs

/-! The runs of neighboring rows, joined. -/
def OkL (l : List Run) : Prop := Apart l ∧ ∀ r ∈ l, -4160 ≤ r.a ∧ r.b ≤ 4160
theorem OkL.nil : OkL [] := ⟨⟨by simp, by simp⟩, by simp⟩
theorem OkL.rv {l : List Run} (h : OkL l) : rvalid l = true := apart_rv h.1 h.2
theorem OkL.len {l : List Run} (h : OkL l) : l.length ≤ 8320 := apart_small h.1 h.2
theorem OkL.sweep {f : Bool → Bool → Bool} (hf : f false false = false) {a b : List Run} (ha : OkL a) (hb : OkL b) : OkL (sweep f a b) := by
  obtain ⟨h1, h2⟩ := sweep_facts hf ha.rv hb.rv
  refine ⟨h1, apart_bounds h1 fun x hx => ?_⟩
  rw [h2] at hx
  cases q1 : inR a x with
  | true => obtain ⟨r, hr, h3, h4⟩ := inR_iff.1 q1; have := ha.2 r hr; omega
  | false =>
    cases q2 : inR b x with
    | true => obtain ⟨r, hr, h3, h4⟩ := inR_iff.1 q2; have := hb.2 r hr; omega
    | false => rw [q1, q2, hf] at hx; cases hx
def OkM (M : List (Int × List Run)) : Prop := ∀ y, OkL (mget M y)
/-- The rows y, y + 1, .. y + j. -/
def wj (f : Bool → Bool → Bool) (M : List (Int × List Run)) (y : Int) : Nat → List Run
  | 0 => mget M y
  | j + 1 => sweep f (wj f M y j) (mget M (y + 1 + j))
theorem wj_ok {f : Bool → Bool → Bool} (hf : f false false = false) {M : List (Int × List Run)} (hM : OkM M) (y : Int) : ∀ j, OkL (wj f M y j)
  | 0 => hM y
  | j + 1 => (wj_ok hf hM y j).sweep hf (hM _)
theorem wj_U {M : List (Int × List Run)} (hM : OkM M) (y x : Int) : ∀ j : Nat, inR (wj fU M y j) x = true ↔ ∃ i : Nat, i ≤ j ∧ inR (mget M (y + i)) x = true
  | 0 => by
    simp only [wj, Nat.le_zero]
    constructor
    · intro h; exact ⟨0, rfl, by simpa using h⟩
    · rintro ⟨i, rfl, h⟩; simpa using h
  | j + 1 => by
    have ih := wj_U hM y x j
    simp only [wj, (sweep_facts (f := fU) rfl (wj_ok (f := fU) rfl hM y j).rv (hM (y + 1 + j)).rv).2, fU, Bool.or_eq_true, ih]
    constructor
    · rintro (⟨i, hi, h⟩ | h)
      · exact ⟨i, by omega, h⟩
      · exact ⟨j + 1, Nat.le_refl _, by rw [show y + ((j + 1 : Nat) : Int) = y + 1 + j by omega]; exact h⟩
    · rintro ⟨i, hi, h⟩
      by_cases e : i = j + 1
      · subst e; right; rw [show y + ((j + 1 : Nat) : Int) = y + 1 + j by omega] at h; exact h
      · exact .inl ⟨i, by omega, h⟩
theorem wj_I {M : List (Int × List Run)} (hM : OkM M) (y x : Int) : ∀ j : Nat, inR (wj fI M y j) x = true ↔ ∀ i : Nat, i ≤ j → inR (mget M (y + i)) x = true
  | 0 => by
    simp only [wj, Nat.le_zero]
    constructor
    · rintro h i rfl; simpa using h
    · intro h; simpa using h 0 rfl
  | j + 1 => by
    have ih := wj_I hM y x j
    simp only [wj, (sweep_facts (f := fI) rfl (wj_ok (f := fI) rfl hM y j).rv (hM (y + 1 + j)).rv).2, fI, Bool.and_eq_true, ih]
    constructor
    · rintro ⟨h1, h2⟩ i hi
      by_cases e : i = j + 1
      · subst e; rw [show y + ((j + 1 : Nat) : Int) = y + 1 + j by omega]; exact h2
      · exact h1 i (by omega)
    · intro h
      refine ⟨fun i hi => h i (by omega), ?_⟩
      have := h (j + 1) (Nat.le_refl _)
      rw [show y + ((j + 1 : Nat) : Int) = y + 1 + j by omega] at this; exact this
def rowW (f : Bool → Bool → Bool) (M : List (Int × List Run)) (y : Int) (K : Nat) : List Run := wj f M (y - K) (2 * K)

set_option maxHeartbeats 2000000 in
theorem wrow_ok (f : Bool → Bool → Bool) (hf : f false false = false) (g : FuncId) (hg : ∀ a b : List Run, a.length ≤ 1000000 → b.length ≤ 1000000 → rvalid a = true → rvalid b = true → PC Try.prog g [encRuns a, encRuns b] (.p (encRuns (sweep f a b))))
    (M : List (Int × List Run)) (hM : OkM M) (y : Int) (K : Nat) (hy : -10000 ≤ y ∧ y ≤ 10000) (hK : K ≤ 64) :
    PC Try.prog 86 [.agg [.mp (mpRows M), .fn (.func g) []], .int .i64 y, .int .i64 K] (.p (encRuns (rowW f M y K))) := by
  have hok := fun j => wj_ok hf hM (y - K) j
  have h0 : wj f M (y - K) 0 = mget M (y - K) := rfl
  have hs : ∀ j : Nat, wj f M (y - K) (j + 1) = sweep f (wj f M (y - K) j) (mget M (y - K + 1 + j)) := fun j => rfl
  have hr : rowW f M y K = wj f M (y - K) (2 * K) := rfl
  rw [hr]
  clear hr
  generalize wj f M (y - K) = W at *
  have e1 := wrap_i64 (n := y - (K : Int)) (by omega) (by omega)
  have e2 := wrap_i64 (n := y - (K : Int) + 1) (by omega) (by omega)
  have e3 := wrap_i64 (n := y + (K : Int)) (by omega) (by omega)
  have hl0 := look_mp (y - K) M
  refine pc_of_awp cx (fn := Try.f86) (c := _) Try.func86 rfl rfl (Nat.le_of_ble_eq_true rfl) ?_
  rw [Try.ntmps86]; refine Nav.imp ?_
  refine awp_region cx [] fun K hK => ?_
  simp [push_cast]
  repeat (refine And.intro (by clear hK; intros; first | omega | (simp_all; done) | (simp_all <;> omega)) ?_)
  refine hK _ ?_; clear hK K; refine Nav.imp ?_
  refine awp_region cx [(5, .p (encRuns (mget M (y - K))))] fun K hK => ?_
  simp [push_cast, e1, hl0]
  repeat (refine And.intro (by clear hK; intros; first | omega | (simp_all; done) | (simp_all <;> omega)) ?_)
  refine hK _ ?_; clear hK K; refine Nav.imp ?_
  rw [← h0]
  refine awp_region cx [] fun K hK => ?_
  simp [push_cast, e1, e2]
  repeat (refine And.intro (by clear hK; intros; first | omega | (simp_all; done) | (simp_all <;> omega)) ?_)
  refine hK _ ?_; clear hK K; refine Nav.imp ?_
  refine awp_loop (β := Nat) (fun j => ⟨35, [(1, .d (.int .i64 y)), (2, .d (.int .i64 K)), (3, .ptr 0 0 0), (7, .d (encRuns (W j))), (8, .d (.int .i64 (y - K + 1 + j)))], [(0, some ⟨105, 2, [[.d (.mp (mpRows M)), .d (.fn (.func g) [])]]⟩)], 1⟩) (fun j => j ≤ 2 * K) (fun j => 2 * K - j) 0 ?_ (Nat.zero_le _) ?_
  · refine weak_of [(0, some 0)] rfl (by simp [upT, up, upL, push_cast]) (by simp [upH, upR, upL, up, push_cast]) (by simp [namesOk, push_cast]) (by simp [olds])
  · intro j hj
    replace hj : j ≤ 2 * K := hj
    refine Nav.imp ?_
    by_cases hlt : j < 2 * K
    · have q1 : y - (K : Int) + 1 + j ≤ y + K := by omega
      have e4 := wrap_i64 (n := y - (K : Int) + 1 + j + 1) (by omega) (by omega)
      have hl := look_mp (y - K + 1 + j) M
      have hA := hok j
      have hB := hM (y - K + 1 + j)
      have c1 := hg (W j) (mget M (y - K + 1 + j)) (by have := hA.len; omega) (by have := hB.len; omega) hA.rv hB.rv
      rw [← hs j] at c1
      refine awp_region cx [] fun K hK => ?_
      simp [push_cast, e3]
      repeat (refine And.intro (by clear hK; intros; first | omega | (simp_all; done) | (simp_all <;> omega)) ?_)
      refine hK _ ?_; clear hK K; refine Nav.imp ?_
      refine awp_cond (b := true) (by simp [push_cast, q1]) (fun hb => ?_) (fun hb => ?_) <;> (refine Nav.imp ?_)
      · refine awp_region cx [(6, .p (encRuns (mget M (y - K + 1 + j)))), (7, .p (encRuns (W (j + 1))))] fun K hK => ?_
        simp [push_cast, hl, c1]
        repeat (refine And.intro (by clear hK; intros; first | omega | (simp_all; done) | (simp_all <;> omega)) ?_)
        refine hK _ ?_; clear hK K; refine Nav.imp ?_
        refine awp_region cx [] fun K hK => ?_
        simp [push_cast, e4]
        repeat (refine And.intro (by clear hK; intros; first | omega | (simp_all; done) | (simp_all <;> omega)) ?_)
        refine hK _ ?_; clear hK K; refine Nav.imp ?_
        refine ⟨j + 1, by show j + 1 ≤ 2 * K; omega, by show 2 * K - (j + 1) < 2 * K - j; omega, ?_⟩
        refine weak_of [(0, some 0)] rfl (by simp [upT, up, upL, push_cast, Int.add_assoc]) (by simp [upH, upR, upL, up, push_cast, Int.add_assoc]) (by simp [namesOk, push_cast]) (by simp [olds])
      · simp at hb
    · have hje : j = 2 * K := by omega
      subst hje
      have q1 : y + (K : Int) < y - K + 1 + 2 * K := by omega
      refine awp_region cx [] fun K hK => ?_
      simp [push_cast, e3]
      repeat (refine And.intro (by clear hK; intros; first | omega | (simp_all; done) | (simp_all <;> omega)) ?_)
      refine hK _ ?_; clear hK K; refine Nav.imp ?_
      refine awp_cond (b := false) (by simp [push_cast, q1]) (fun hb => ?_) (fun hb => ?_) <;> (refine Nav.imp ?_)
      · simp at hb
      · refine awp_region cx [] fun K hK => ?_
        simp [push_cast]
        repeat (refine And.intro (by clear hK; intros; first | omega | (simp_all; done) | (simp_all <;> omega)) ?_)
        refine hK _ ?_; clear hK K; refine Nav.imp ?_
        simp [push_cast]
end Go.Proofs.Ytknelhiejjdioaa

set_option linter.unusedVariables false
set_option linter.unusedSimpArgs false
set_option maxRecDepth 100000
namespace Go.Proofs.Ytknelhiejjdioaa
open Go.Abs

/-! A map of a region's rows. Erosion. -/
def rowMap (F : List Run → List Run) (R : List Row) : List (Int × List Run) := R.foldl (fun M w => putL M w.y (F w.runs)) []
theorem rowMap_take {F : List Run → List Run} {R : List Row} {i : Nat} {w : Row} (h : R[i]? = some w) : rowMap F (R.take (i + 1)) = putL (rowMap F (R.take i)) w.y (F w.runs) := by simp [rowMap, take_get h]
theorem rowOf_cons (w : Row) (R : List Row) (y : Int) : rowOf (w :: R) y = if w.y = y then w.runs else rowOf R y := by
  unfold rowOf
  rw [List.find?_cons]
  by_cases h : w.y = y <;> simp [h]
theorem rowMap_from (F : List Run → List Run) : ∀ (R : List Row) (M : List (Int × List Run)) (y : Int), (R.Pairwise fun a b => a.y < b.y) →
    mget (R.foldl (fun M w => putL M w.y (F w.runs)) M) y = if (∃ w ∈ R, w.y = y) then F (rowOf R y) else mget M y
  | [], M, y, _ => by simp
  | w :: R, M, y, h => by
    obtain ⟨h1, h2⟩ := List.pairwise_cons.1 h
    rw [List.foldl_cons, rowMap_from F R _ y h2, rowOf_cons, mget_put]
    by_cases hr : ∃ v ∈ R, v.y = y
    · obtain ⟨v, hv, e⟩ := hr
      have hne : w.y ≠ y := by have := h1 v hv; omega
      rw [if_pos ⟨v, hv, e⟩, if_pos ⟨v, by simp [hv], e⟩, if_neg hne]
    · rw [if_neg hr]
      by_cases e : w.y = y
      · rw [if_pos e.symm, if_pos ⟨w, by simp, e⟩, if_pos e]
      · rw [if_neg (Ne.symm e), if_neg]
        rintro ⟨v, hv, e'⟩
        rcases List.mem_cons.1 hv with rfl | hv
        · exact e e'
        · exact hr ⟨v, hv, e'⟩
theorem rowMap_get {F : List Run → List Run} (h0 : F [] = []) {R : List Row} (hv : R.Pairwise fun a b => a.y < b.y) (y : Int) : mget (rowMap F R) y = F (rowOf R y) := by
  unfold rowMap
  rw [rowMap_from F R [] y hv]
  split
  · rfl
  · rename_i h
    rw [rowOf_none (fun w hw e => h ⟨w, hw, e⟩), h0]
    rfl

theorem mem_shrK {K : Int} {l : List Run} {q : Run} : q ∈ shrK K l ↔ ∃ r ∈ l, r.a + K < r.b - K ∧ q = ⟨r.a + K, r.b - K⟩ := by
  unfold shrK shrRun
  rw [List.mem_flatMap]
  refine exists_congr fun r => and_congr_right fun _ => ?_
  split
  · rename_i h; simp [h]
  · rename_i h; simp [h]
theorem shrK_in {K : Int} {l : List Run} {x : Int} : inR (shrK K l) x = true ↔ ∃ r ∈ l, r.a + K ≤ x ∧ x < r.b - K := by
  rw [inR_iff]
  constructor
  · rintro ⟨q, hq, h⟩
    obtain ⟨r, hr, _, rfl⟩ := mem_shrK.1 hq
    exact ⟨r, hr, h⟩
  · rintro ⟨r, hr, h1, h2⟩
    exact ⟨_, mem_shrK.2 ⟨r, hr, by omega, rfl⟩, h1, h2⟩
theorem shrK_ok {K : Int} (hK : 0 ≤ K) {l : List Run} (h : Apart l) (hb : ∀ r ∈ l, -4096 ≤ r.a ∧ r.b ≤ 4096) : OkL (shrK K l) := by
  refine ⟨⟨fun q hq => ?_, ?_⟩, fun q hq => ?_⟩
  · obtain ⟨r, hr, h1, rfl⟩ := mem_shrK.1 hq; exact h1
  · refine flat_pw (P := fun p r => p.b < r.a) (fun r => shrRun_len K r) (fun a b x y hab hx hy => ?_) h.2
    unfold shrRun at hx hy
    split at hx <;> simp at hx
    split at hy <;> simp at hy
    subst hx; subst hy
    simp only; omega
  · obtain ⟨r, hr, h1, rfl⟩ := mem_shrK.1 hq
    have := hb r hr
    simp only; omega
/-- A number lies in the shortened runs exactly if all numbers around it lie in the runs. -/
theorem shrK_all {K : Nat} {l : List Run} (h : Apart l) (x : Int) : inR (shrK K l) x = true ↔ ∀ d : Int, -K ≤ d → d ≤ K → inR l (x + d) = true := by
  rw [shrK_in]
  constructor
  · rintro ⟨r, hr, h1, h2⟩ d d1 d2
    exact inR_iff.2 ⟨r, hr, by omega, by omega⟩
  · intro hall
    obtain ⟨r, hr, h1, h2⟩ := inR_iff.1 (hall (-K) (by omega) (by omega))
    refine ⟨r, hr, by omega, ?_⟩
    apply Classical.byContradiction
    intro hn
    obtain ⟨p, hp, h3, h4⟩ := inR_iff.1 (hall (r.b - x) (by omega) (by omega))
    have hrb := h.1 r hr
    have hpb := h.1 p hp
    have hne : r ≠ p := by rintro rfl; omega
    obtain ⟨i, hi⟩ := List.getElem?_of_mem hr
    obtain ⟨j, hj⟩ := List.getElem?_of_mem hp
    have hpw := List.pairwise_iff_getElem.1 h.2
    obtain ⟨hi1, hi2⟩ := List.getElem?_eq_some_iff.1 hi
    obtain ⟨hj1, hj2⟩ := List.getElem?_eq_some_iff.1 hj
    rcases (by omega : i < j ∨ i = j ∨ j < i) with q | q | q
    · have := hpw i j hi1 hj1 q; rw [hi2, hj2] at this; omega
    · subst q; rw [hi2] at hj2; exact hne hj2
    · have := hpw j i hj1 hi1 q; rw [hi2, hj2] at this; omega

def shrF (K : Nat) (l : List Run) : List Run := shrB l K
theorem shrF_nil (K : Nat) : shrF K [] = [] := by unfold shrF shrB shrK; simp
theorem shrF_eq {l : List Run} (h : rvalid l = true) {K : Nat} (hK : K ≤ 64) : shrF K l = shrK K l := by
  unfold shrF shrB
  rw [if_pos (by rw [h]; simp; omega)]
theorem rowOf_apart {R : List Row} (hv : validR R = true) (y : Int) : Apart (rowOf R y) ∧ ∀ r ∈ rowOf R y, -4096 ≤ r.a ∧ r.b ≤ 4096 := by
  rcases rowOf_cases hv y with ⟨w, hw, _, e⟩ | ⟨_, e⟩
  · rw [e]; exact (fine_apart.1 (row_fine hv hw).2).2
  · rw [e]; exact ⟨⟨by simp, by simp⟩, by simp⟩
theorem eroM_get {R : List Row} (hv : validR R = true) {K : Nat} (hK : K ≤ 64) (y : Int) : mget (rowMap (shrF K) R) y = shrK K (rowOf R y) := by
  rw [rowMap_get (shrF_nil K) (validR_pw.1 hv).2, shrF_eq (rowOf_rv hv y) hK]
theorem eroM_ok {R : List Row} (hv : validR R = true) {K : Nat} (hK : K ≤ 64) : OkM (rowMap (shrF K) R) := fun y => by
  rw [eroM_get hv hK]
  exact shrK_ok (by omega) (rowOf_apart hv y).1 (rowOf_apart hv y).2

def eroF (R : List Row) (K : Nat) (w : Row) : List Run := rowW fI (rowMap (shrF K) R) w.y K
def eroR (R : List Row) (k : Int) : List Row := if reachB R k then mapR (eroF R k.toNat) R else []
def aroundC (R : List Row) (K : Nat) (c : Cell) : Prop := ∀ dx dy : Int, -K ≤ dx → dx ≤ K → -K ≤ dy → dy ≤ K → (⟨c.x + dx, c.y + dy⟩ : Cell) ∈ regCells R
theorem eroF_in {R : List Row} (hv : validR R = true) {K : Nat} (hK : K ≤ 64) (w : Row) (x : Int) : inR (eroF R K w) x = true ↔ aroundC R K ⟨x, w.y⟩ := by
  unfold eroF rowW
  rw [wj_I (eroM_ok hv hK)]
  constructor
  · intro h dx dy h1 h2 h3 h4
    have h5 := h (dy + K).toNat (by omega)
    rw [show w.y - (K : Int) + ((dy + K).toNat : Int) = w.y + dy by omega, eroM_get hv hK, shrK_all (rowOf_apart hv _).1] at h5
    exact (rowOf_in hv ⟨x + dx, w.y + dy⟩).2 (h5 dx h1 h2)
  · intro h i hi
    rw [eroM_get hv hK, shrK_all (rowOf_apart hv _).1]
    intro d h1 h2
    have h5 := h d (i - K) h1 h2 (by omega) (by omega)
    have h6 := (rowOf_in hv _).1 h5
    rw [show w.y - (K : Int) + (i : Int) = w.y + ((i : Int) - K) by omega]
    exact h6
theorem eroF_ok {R : List Row} (hv : validR R = true) {K : Nat} (hK : K ≤ 64) (w : Row) : OkL (eroF R K w) := wj_ok rfl (eroM_ok hv hK) _ _
theorem ero_facts {R : List Row} {k : Int} (h : reachB R k = true) : validR (eroR R k) = true ∧ ∀ c, c ∈ regCells (eroR R k) ↔ aroundC R k.toNat c := by
  have e : eroR R k = mapR (eroF R k.toNat) R := by unfold eroR; rw [if_pos h]
  simp only [reachB, Bool.and_eq_true, decide_eq_true_eq] at h
  obtain ⟨⟨k1, k2⟩, hv⟩ := h
  have hK : k.toNat ≤ 64 := by omega
  rw [e]
  refine ⟨mapR_valid hv fun w hw hne => fine_apart.2 ⟨hne, (eroF_ok hv hK w).1, apart_bounds (eroF_ok hv hK w).1 fun x hx => ?_⟩, fun c => ?_⟩
  · have := (eroF_in hv hK w x).1 hx 0 0 (by omega) (by omega) (by omega) (by omega)
    have := onG_bd (cells_on hv this)
    simp only at this; omega
  · rw [mapR_cells]
    constructor
    · rintro ⟨w, hw, hy, hr⟩
      have := (eroF_in hv hK w c.x).1 hr
      rw [← hy] at this; exact this
    · intro hc
      have h0 := hc 0 0 (by omega) (by omega) (by omega) (by omega)
      obtain ⟨w, hw, hy, _⟩ := mem_regCells.1 h0
      simp only [Int.add_zero] at hy
      refine ⟨w, hw, hy, (eroF_in hv hK w c.x).2 ?_⟩
      rw [← hy]; exact hc
theorem ero_valid (R : List Row) (k : Int) : validR (eroR R k) = true := by
  cases h : reachB R k with
  | true => exact (ero_facts h).1
  | false => unfold eroR; rw [h]; rfl

set_option maxHeartbeats 4000000 in
theorem erode_ok (R : List Row) (k : Int) (hR : bigR R) : PC Try.prog 57 [.agg (regRow R), .int .i64 k] (.p (.agg (regRow (eroR R k)))) := by
  have c0 := mvalid_big R k hR
  have hE : eroR R k = if reachB R k then mapR (eroF R k.toNat) R else [] := rfl
  cases hq : reachB R k with
  | false =>
    rw [hq] at c0 hE
    rw [hE]
    refine pc_of_awp cx (fn := Try.f57) (c := _) Try.func57 rfl rfl (Nat.le_of_ble_eq_true rfl) ?_
    rw [Try.ntmps57]; refine Nav.imp ?_
    refine awp_region cx [] fun K hK => ?_
    simp [push_cast]
    repeat (refine And.intro (by clear hK; intros; first | omega | (simp_all; done) | (simp_all <;> omega)) ?_)
    refine hK _ ?_; clear hK K; refine Nav.imp ?_
    refine awp_region cx [] fun K hK => ?_
    simp [push_cast]
    repeat (refine And.intro (by clear hK; intros; first | omega | (simp_all; done) | (simp_all <;> omega)) ?_)
    refine hK _ ?_; clear hK K; refine Nav.imp ?_
    refine awp_region cx [(2, .p (.bool false))] fun K hK => ?_
    simp [push_cast, c0]
    repeat (refine And.intro (by clear hK; intros; first | omega | (simp_all; done) | (simp_all <;> omega)) ?_)
    refine hK _ ?_; clear hK K; refine Nav.imp ?_
    refine awp_cond (b := true) (by simp [push_cast]) (fun hb => ?_) (fun hb => ?_) <;> (refine Nav.imp ?_)
    · refine awp_region cx [] fun K hK => ?_
      simp [push_cast]
      repeat (refine And.intro (by clear hK; intros; first | omega | (simp_all; done) | (simp_all <;> omega)) ?_)
      refine hK _ ?_; clear hK K; refine Nav.imp ?_
      simp [push_cast]
    · simp at hb
  | true =>
    rw [hq] at c0 hE
    rw [if_pos rfl] at hE
    simp only [reachB, Bool.and_eq_true, decide_eq_true_eq] at hq
    obtain ⟨⟨k1, k2⟩, hv⟩ := hq
    replace hR := small_valid hv
    have hl := hR.1
    obtain ⟨K, rfl⟩ : ∃ K : Nat, k = K := ⟨k.toNat, by omega⟩
    have hK : K ≤ 64 := by omega
    rw [Int.toNat_natCast] at hE
    rw [hE]
    clear hE
    have hFd : ∀ w : Row, eroF R K w = rowW fI (rowMap (shrF K) R) w.y K := fun w => rfl
    have hFok := fun w => eroF_ok hv hK w
    have hMok := eroM_ok hv hK
    have hMt := fun i w => @rowMap_take (shrF K) R i w
    have hM0 : rowMap (shrF K) (R.take 0) = [] := rfl
    have hMe : rowMap (shrF K) (R.take R.length) = rowMap (shrF K) R := by rw [List.take_length]
    have hFt := fun i w => @mapR_take (eroF R K) R i w
    have hFl := fun i => mapR_len (eroF R K) (R.take i)
    have hF0 : mapR (eroF R K) (R.take 0) = [] := rfl
    have hFe : mapR (eroF R K) (R.take R.length) = mapR (eroF R K) R := by rw [List.take_length]
    have hFr : ∀ w, mapRow (eroF R K) w = if eroF R K w = [] then [] else [⟨w.y, eroF R K w⟩] := fun w => rfl
    generalize eroF R K = F at *
    generalize hMM : rowMap (shrF K) R = MM at *
    refine pc_of_awp cx (fn := Try.f57) (c := _) Try.func57 rfl rfl (Nat.le_of_ble_eq_true rfl) ?_
    rw [Try.ntmps57]; refine Nav.imp ?_
    refine awp_region cx [] fun K hK => ?_
    simp [push_cast]
    repeat (refine And.intro (by clear hK; intros; first | omega | (simp_all; done) | (simp_all <;> omega)) ?_)
    refine hK _ ?_; clear hK K; refine Nav.imp ?_
    refine awp_region cx [] fun K hK => ?_
    simp [push_cast]
    repeat (refine And.intro (by clear hK; intros; first | omega | (simp_all; done) | (simp_all <;> omega)) ?_)
    refine hK _ ?_; clear hK K; refine Nav.imp ?_
    refine awp_region cx [(2, .p (.bool true))] fun K hK => ?_
    simp [push_cast, c0]
    repeat (refine And.intro (by clear hK; intros; first | omega | (simp_all; done) | (simp_all <;> omega)) ?_)
    refine hK _ ?_; clear hK K; refine Nav.imp ?_
    refine awp_cond (b := false) (by simp [push_cast]) (fun hb => ?_) (fun hb => ?_) <;> (refine Nav.imp ?_)
    · simp at hb
    · refine awp_region cx [] fun K hK => ?_
      simp [push_cast, mp_nil]
      repeat (refine And.intro (by clear hK; intros; first | omega | (simp_all; done) | (simp_all <;> omega)) ?_)
      refine hK _ ?_; clear hK K; refine Nav.imp ?_
      refine awp_region cx [] fun K hK => ?_
      simp [push_cast]
      repeat (refine And.intro (by clear hK; intros; first | omega | (simp_all; done) | (simp_all <;> omega)) ?_)
      refine hK _ ?_; clear hK K; refine Nav.imp ?_
      refine awp_loop (β := Nat × List (Int × List Run)) (fun b => ⟨63, [(1, .d (.int .i64 K)), (2, .ptr 0 0 0), (4, .ptr 1 0 0), (5, .ptr 2 0 0), (6, .ptr 4 0 0), (20, .d (encRows R)), (21, .d (.int .i64 R.length)), (22, .d (.int .i64 b.1))], [(0, some ⟨24, 1, [(regRow R).map .d]⟩), (1, some ⟨24, 1, [[.nl]]⟩), (2, some ⟨24, 1, [[.nl]]⟩), (3, some ⟨103, mapM, dr (mpRows b.2)⟩), (4, some ⟨105, 2, [[.hm 3, .d (.fn (.func 40) [])]]⟩)], 5⟩) (fun b => b.1 ≤ R.length ∧ b.2 = rowMap (shrF K) (R.take b.1)) (fun b => R.length - b.1) (0, []) ?_ ⟨Nat.zero_le _, hM0.symm⟩ ?_
      · refine weak_of [(0, some 0), (1, some 1), (2, some 2), (3, some 7), (4, some 9)] rfl (by simp [upT, up, upL, push_cast, mp_nil]) (by simp [upH, upR, upL, up, push_cast, mp_nil]) (by simp [namesOk, push_cast]) (by simp [olds])
      · rintro ⟨i, M⟩ ⟨hi, hM⟩
        simp only at hi hM
        refine Nav.imp ?_
        refine awp_region cx [] fun K hK => ?_
        simp [push_cast]
        repeat (refine And.intro (by clear hK; intros; first | omega | (simp_all; done) | (simp_all <;> omega)) ?_)
        refine hK _ ?_; clear hK K; refine Nav.imp ?_
        refine awp_cond (b := decide ((i : Int) < R.length)) (by simp [push_cast]) (fun hb => ?_) (fun hb => ?_) <;> (refine Nav.imp ?_)
        · have hlt : i < R.length := by simpa using hb
          obtain ⟨w, hw⟩ := getq hlt
          have e0 := wrap_i64 (n := (i : Int) + 1) (by omega) (by omega)
          have hwl := hR.2 w (List.mem_of_getElem? hw)
          have c1 := shrink_ok w.runs K hwl
          have hsf : shrB w.runs K = shrF K w.runs := rfl
          rw [hsf] at c1
          have hnx := hMt i w hw
          rw [← hM] at hnx
          clear hsf
          generalize shrF K w.runs = s at *
          have hput := putR_mp w.y s M
          refine awp_region cx [] fun K hK => ?_
          simp [push_cast, hw, Row.row]
          repeat (refine And.intro (by clear hK; intros; first | omega | (simp_all; done) | (simp_all <;> omega)) ?_)
          refine hK _ ?_; clear hK K; refine Nav.imp ?_
          refine awp_region_draw cx mixed [(7, .p (encRuns s))] fun K hK => ?_
          simp [push_cast, c1, hput, Row.row]
          repeat (refine And.intro (by clear hK; intros; first | omega | (simp_all; done) | (simp_all <;> omega)) ?_)
          refine hK _ _ (by kernel_rfl) ?_; clear hK K; refine Nav.imp ?_
          refine awp_region cx [] fun K hK => ?_
          simp [push_cast, e0]
          repeat (refine And.intro (by clear hK; intros; first | omega | (simp_all; done) | (simp_all <;> omega)) ?_)
          refine hK _ ?_; clear hK K; refine Nav.imp ?_
          refine ⟨(i + 1, putL M w.y s), ⟨hlt, hnx.symm⟩, by simp only; omega, ?_⟩
          refine weak_of [(0, some 0), (1, some 1), (2, some 2), (3, some 3), (4, some 4)] rfl (by simp [upT, up, upL, push_cast]) (by simp [upH, upR, upL, up, push_cast]) (by simp [namesOk, push_cast]) (by simp [olds])
        · have hge : i = R.length := by simp at hb; omega
          subst hge
          rw [hMe] at hM
          subst hM
          refine awp_freeze 3 (mpRows M) rfl (by simp [push_cast]) fun K hK => ?_
          simp [push_cast, St.fz, fzT, fzH, fzO, fz, fzL, fzR, fzR_dr, fzR_app, fzR_set, fzL_map]
          refine hK _ ?_; clear hK K; refine Nav.imp ?_
          refine awp_region cx [] fun K hK => ?_
          simp [push_cast]
          repeat (refine And.intro (by clear hK; intros; first | omega | (simp_all; done) | (simp_all <;> omega)) ?_)
          refine hK _ ?_; clear hK K; refine Nav.imp ?_
          refine awp_loop (β := Nat × List Row) (fun s => ⟨63, [(1, .d (.int .i64 K)), (4, .ptr 1 0 0), (5, .ptr 2 0 0), (6, .ptr 4 0 0), (36, .d (encRows R)), (37, .d (.int .i64 R.length)), (38, .d (.int .i64 s.1))], [(1, some ⟨24, 1, [[.nl]]⟩), (2, some ⟨24, 1, [[.hs 3 0 s.2.length]]⟩), (3, some ⟨48, 2, dr (s.2.map Row.row)⟩), (4, some ⟨105, 2, [[.d (.mp (mpRows M)), .d (.fn (.func 40) [])]]⟩)], 5⟩) (fun s => s.1 ≤ R.length ∧ s.2 = mapR F (R.take s.1)) (fun s => R.length - s.1) (0, []) ?_ ⟨Nat.zero_le _, hF0.symm⟩ ?_
          · refine weak_of [(1, some 1), (2, some 2), (3, none), (4, some 4)] rfl (by simp [upT, up, upL, push_cast]) (by simp [upH, upR, upL, up, push_cast]) (by simp [namesOk, push_cast]) (by simp [olds])
          · rintro ⟨i, Z⟩ ⟨hi, hZ⟩
            simp only at hi hZ
            refine Nav.imp ?_
            refine awp_region cx [] fun K hK => ?_
            simp [push_cast]
            repeat (refine And.intro (by clear hK; intros; first | omega | (simp_all; done) | (simp_all <;> omega)) ?_)
            refine hK _ ?_; clear hK K; refine Nav.imp ?_
            refine awp_cond (b := decide ((i : Int) < R.length)) (by simp [push_cast]) (fun hb => ?_) (fun hb => ?_) <;> (refine Nav.imp ?_)
            · have hlt : i < R.length := by simpa using hb
              obtain ⟨w, hw⟩ := getq hlt
              have hwm := List.mem_of_getElem? hw
              have e0 := wrap_i64 (n := (i : Int) + 1) (by omega) (by omega)
              have hwb := (validR_at hv hw).1
              have c2 := wrow_ok fI rfl 40 (fun a b h1 h2 h3 h4 => intersect_ok a b h1 h2 h3 h4) M hMok w.y K (by omega) hK
              rw [← hFd w] at c2
              have hul := (hFok w).len
              have hnx := hFt i w hw
              rw [hFr, ← hZ] at hnx
              have hZl : Z.length ≤ 1000000 := by have := hFl i; rw [← hZ] at this; simp at this; omega
              have hZ32 : (Z.length + 1) * 32 ≤ 140737488355328 := by omega
              have hu16 : (0 + (F w).length) * 16 ≤ 140737488355328 := by omega
              generalize F w = u at *
              refine awp_region cx [] fun K hK => ?_
              simp [push_cast, hw, Row.row]
              repeat (refine And.intro (by clear hK; intros; first | omega | (simp_all; done) | (simp_all <;> omega)) ?_)
              refine hK _ ?_; clear hK K; refine Nav.imp ?_
              refine awp_region cx [(4, .p (encRuns u))] fun K hK => ?_
              simp [push_cast, c2, Row.row]
              repeat (refine And.intro (by clear hK; intros; first | omega | (simp_all; done) | (simp_all <;> omega)) ?_)
              refine hK _ ?_; clear hK K; refine Nav.imp ?_
              refine awp_region cx [] fun K hK => ?_
              simp [push_cast]
              repeat (refine And.intro (by clear hK; intros; first | omega | (simp_all; done) | (simp_all <;> omega)) ?_)
              refine hK _ ?_; clear hK K; refine Nav.imp ?_
              cases hu : u with
              | nil =>
                rw [hu] at hnx
                simp only [if_true, List.append_nil] at hnx
                refine awp_cond (b := false) (by simp [push_cast, hu]) (fun hb => ?_) (fun hb => ?_) <;> (refine Nav.imp ?_)
                · simp at hb
                · refine awp_region cx [] fun K hK => ?_
                  simp [push_cast, e0]
                  repeat (refine And.intro (by clear hK; intros; first | omega | (simp_all; done) | (simp_all <;> omega)) ?_)
                  refine hK _ ?_; clear hK K; refine Nav.imp ?_
                  refine ⟨(i + 1, Z), ⟨hlt, hnx.symm⟩, by simp only; omega, ?_⟩
                  refine weak_of [(1, some 1), (2, some 2), (3, some 3), (4, some 4)] rfl (by simp [upT, up, upL, push_cast]) (by simp [upH, upR, upL, up, push_cast]) (by simp [namesOk, push_cast]) (by simp [olds])
              | cons q u' =>
                have hne : ¬ u = [] := by rw [hu]; simp
                have hpos : 0 < u.length := by rw [hu]; simp
                rw [if_neg hne] at hnx
                rw [← hu]
                clear hu
                refine awp_cond (b := true) (by simp [push_cast, hpos]) (fun hb => ?_) (fun hb => ?_) <;> (refine Nav.imp ?_)
                · refine awp_region_draw cx mixed [] fun K hK => ?_
                  simp [push_cast, hZ32, hu16, Row.row]
                  repeat (refine And.intro (by clear hK; intros; first | omega | (simp_all; done) | (simp_all <;> omega)) ?_)
                  refine hK _ _ (by kernel_rfl) ?_; clear hK K; refine Nav.imp ?_
                  refine awp_freeze 25 (u.map Run.row) rfl (by simp [push_cast]) fun K hK => ?_
                  simp [push_cast, St.fz, fzT, fzH, fzO, fz, fzL, fzR, fzR_dr, fzR_app, fzR_set, fzL_map]
                  refine hK _ ?_; clear hK K; refine Nav.imp ?_
                  refine awp_region cx [] fun K hK => ?_
                  simp [push_cast, e0]
                  repeat (refine And.intro (by clear hK; intros; first | omega | (simp_all; done) | (simp_all <;> omega)) ?_)
                  refine hK _ ?_; clear hK K; refine Nav.imp ?_
                  refine ⟨(i + 1, Z ++ [⟨w.y, u⟩]), ⟨hlt, hnx.symm⟩, by simp only; omega, ?_⟩
                  refine weak_of [(1, some 1), (2, some 2), (3, some 28), (4, some 4)] rfl (by simp [upT, up, upL, push_cast, Row.row]) (by simp [upH, upR, upL, up, push_cast, Row.row]) (by simp [namesOk, push_cast]) (by simp [olds])
                · simp at hb
            · have hge : i = R.length := by simp at hb; omega
              subst hge
              rw [hFe] at hZ
              rw [← hZ]
              have ht2 : List.take Z.length (Z.map Row.row) = Z.map Row.row := List.take_of_length_le (by simp)
              refine awp_freeze 3 (Z.map Row.row) rfl (by simp [push_cast, Row.row, ht2]) fun K hK => ?_
              simp [push_cast, St.fz, fzT, fzH, fzO, fz, fzL, fzR, fzR_dr, fzR_app, fzR_set, fzL_map, Row.row, ht2]
              refine hK _ ?_; clear hK K; refine Nav.imp ?_
              refine awp_region cx [] fun K hK => ?_
              simp [push_cast]
              repeat (refine And.intro (by clear hK; intros; first | omega | (simp_all; done) | (simp_all <;> omega)) ?_)
              refine hK _ ?_; clear hK K; refine Nav.imp ?_
              simp [push_cast]
end Go.Proofs.Ytknelhiejjdioaa

set_option linter.unusedVariables false
set_option linter.unusedSimpArgs false
namespace Go.Proofs.Ytknelhiejjdioaa
open Go.Abs

/-! What the sort of package region compares; the copy of a list. -/
def cmpI (a b : Int) : Int := if a < b then -1 else if b < a then 1 else 0
def intRow (x : Int) : List D := [.int .i64 x]
abbrev encInts (l : List Int) : D := .sl (l.map intRow)
def orI (a b : Int) : Int := if a ≠ 0 then a else b

theorem isNaN_ok (a : Int) : PC Try.prog 99 [.int .i64 a] (.p (.bool false)) := by
  refine pc_of_awp cx (fn := Try.f99) (c := _) Try.func99 rfl rfl (Nat.le_of_ble_eq_true rfl) ?_
  rw [Try.ntmps99]; refine Nav.imp ?_
  refine awp_region cx [] fun K hK => ?_
  simp [push_cast]
  repeat (refine And.intro (by clear hK; intros; first | omega | (simp_all; done) | (simp_all <;> omega)) ?_)
  refine hK _ ?_; clear hK K; refine Nav.imp ?_
  refine awp_region cx [] fun K hK => ?_
  simp [push_cast]
  repeat (refine And.intro (by clear hK; intros; first | omega | (simp_all; done) | (simp_all <;> omega)) ?_)
  refine hK _ ?_; clear hK K; refine Nav.imp ?_
  simp [push_cast]

theorem compare_ok (a b : Int) : PC Try.prog 77 [.int .i64 a, .int .i64 b] (.p (.int .i64 (cmpI a b))) := by
  have c1 := isNaN_ok a
  have c2 := isNaN_ok b
  refine pc_of_awp cx (fn := Try.f77) (c := _) Try.func77 rfl rfl (Nat.le_of_ble_eq_true rfl) ?_
  rw [Try.ntmps77]; refine Nav.imp ?_
  refine awp_region cx [] fun K hK => ?_
  simp [push_cast]
  repeat (refine And.intro (by clear hK; intros; first | omega | (simp_all; done) | (simp_all <;> omega)) ?_)
  refine hK _ ?_; clear hK K; refine Nav.imp ?_
  refine awp_region cx [(1, .p (.bool false))] fun K hK => ?_
  simp [push_cast, c1]
  repeat (refine And.intro (by clear hK; intros; first | omega | (simp_all; done) | (simp_all <;> omega)) ?_)
  refine hK _ ?_; clear hK K; refine Nav.imp ?_
  refine awp_region cx [(1, .p (.bool false))] fun K hK => ?_
  simp [push_cast, c2]
  repeat (refine And.intro (by clear hK; intros; first | omega | (simp_all; done) | (simp_all <;> omega)) ?_)
  refine hK _ ?_; clear hK K; refine Nav.imp ?_
  refine awp_region cx [] fun K hK => ?_
  simp [push_cast]
  repeat (refine And.intro (by clear hK; intros; first | omega | (simp_all; done) | (simp_all <;> omega)) ?_)
  refine hK _ ?_; clear hK K; refine Nav.imp ?_
  refine awp_cond (b := false) (by simp [push_cast]) (fun hb => ?_) (fun hb => ?_) <;> (refine Nav.imp ?_)
  · simp at hb
  · refine awp_region cx [] fun K hK => ?_
    simp [push_cast]
    repeat (refine And.intro (by clear hK; intros; first | omega | (simp_all; done) | (simp_all <;> omega)) ?_)
    refine hK _ ?_; clear hK K; refine Nav.imp ?_
    refine awp_cond (b := false) (by simp [push_cast]) (fun hb => ?_) (fun hb => ?_) <;> (refine Nav.imp ?_)
    · simp at hb
    · refine awp_region cx [] fun K hK => ?_
      simp [push_cast]
      repeat (refine And.intro (by clear hK; intros; first | omega | (simp_all; done) | (simp_all <;> omega)) ?_)
      refine hK _ ?_; clear hK K; refine Nav.imp ?_
      refine awp_cond (b := decide (a < b)) (by simp [push_cast]) (fun hb => ?_) (fun hb => ?_) <;> (refine Nav.imp ?_)
      · have hb : a < b := by simpa using hb
        refine awp_region cx [] fun K hK => ?_
        simp [push_cast]
        repeat (refine And.intro (by clear hK; intros; first | omega | (simp_all; done) | (simp_all <;> omega)) ?_)
        refine hK _ ?_; clear hK K; refine Nav.imp ?_
        simp [push_cast, cmpI, hb]
      · have hb : ¬ a < b := by simpa using hb
        refine awp_region cx [] fun K hK => ?_
        simp [push_cast]
        repeat (refine And.intro (by clear hK; intros; first | omega | (simp_all; done) | (simp_all <;> omega)) ?_)
        refine hK _ ?_; clear hK K; refine Nav.imp ?_
        refine awp_cond (b := decide (b < a)) (by simp [push_cast]) (fun hb => ?_) (fun hb => ?_) <;> (refine Nav.imp ?_)
        · have hb2 : b < a := by simpa using hb
          refine awp_region cx [] fun K hK => ?_
          simp [push_cast]
          repeat (refine And.intro (by clear hK; intros; first | omega | (simp_all; done) | (simp_all <;> omega)) ?_)
          refine hK _ ?_; clear hK K; refine Nav.imp ?_
          simp [push_cast, cmpI, hb, hb2]
          try omega
        · have hb2 : ¬ b < a := by simp at hb; omega
          refine awp_region cx [] fun K hK => ?_
          simp [push_cast]
          repeat (refine And.intro (by clear hK; intros; first | omega | (simp_all; done) | (simp_all <;> omega)) ?_)
          refine hK _ ?_; clear hK K; refine Nav.imp ?_
          simp [push_cast, cmpI, hb, hb2]
          try omega

theorem or_ok (a b : Int) : PC Try.prog 80 [encInts [a, b]] (.p (.int .i64 (orI a b))) := by
  have hlen : (encInts [a, b]) = .sl [[.int .i64 a], [.int .i64 b]] := rfl
  refine pc_of_awp cx (fn := Try.f80) (c := _) Try.func80 rfl rfl (Nat.le_of_ble_eq_true rfl) ?_
  rw [Try.ntmps80]; refine Nav.imp ?_
  refine awp_region cx [] fun K hK => ?_
  simp [push_cast]
  repeat (refine And.intro (by clear hK; intros; first | omega | (simp_all; done) | (simp_all <;> omega)) ?_)
  refine hK _ ?_; clear hK K; refine Nav.imp ?_
  refine awp_region cx [] fun K hK => ?_
  simp [push_cast]
  repeat (refine And.intro (by clear hK; intros; first | omega | (simp_all; done) | (simp_all <;> omega)) ?_)
  refine hK _ ?_; clear hK K; refine Nav.imp ?_
  refine awp_region cx [] fun K hK => ?_
  simp [push_cast]
  repeat (refine And.intro (by clear hK; intros; first | omega | (simp_all; done) | (simp_all <;> omega)) ?_)
  refine hK _ ?_; clear hK K; refine Nav.imp ?_
  refine awp_loop (β := Nat) (fun k => ⟨18, [(3, .d (.int .i64 0)), (6, .d (encInts [a, b])), (7, .d (.int .i64 2)), (8, .d (.int .i64 k))], [], 0⟩) (fun k => k ≤ 2 ∧ (0 < k → a = 0) ∧ (1 < k → b = 0)) (fun k => 2 - k) 0 ?_ ⟨by omega, by omega, by omega⟩ ?_
  · refine weak_of [] rfl (by simp [upT, up, upL, push_cast]) (by simp [upH, upR, upL, up, push_cast]) (by simp [namesOk, push_cast]) (by simp [olds])
  · rintro k ⟨hk, h1, h2⟩
    refine Nav.imp ?_
    by_cases e0 : k = 0
    · subst e0
      refine awp_region cx [] fun K hK => ?_
      simp [push_cast]
      repeat (refine And.intro (by clear hK; intros; first | omega | (simp_all; done) | (simp_all <;> omega)) ?_)
      refine hK _ ?_; clear hK K; refine Nav.imp ?_
      refine awp_cond (b := true) (by simp [push_cast]) (fun hb => ?_) (fun hb => ?_) <;> (refine Nav.imp ?_)
      · refine awp_region cx [] fun K hK => ?_
        simp [push_cast, intRow]
        repeat (refine And.intro (by clear hK; intros; first | omega | (simp_all; done) | (simp_all <;> omega)) ?_)
        refine hK _ ?_; clear hK K; refine Nav.imp ?_
        refine awp_region cx [] fun K hK => ?_
        simp [push_cast]
        repeat (refine And.intro (by clear hK; intros; first | omega | (simp_all; done) | (simp_all <;> omega)) ?_)
        refine hK _ ?_; clear hK K; refine Nav.imp ?_
        refine awp_cond (by simp [push_cast] <;> exact rfl) (fun hb => ?_) (fun hb => ?_) <;> (refine Nav.imp ?_)
        · simp at hb
          refine awp_region cx [] fun K hK => ?_
          simp [push_cast]
          repeat (refine And.intro (by clear hK; intros; first | omega | (simp_all; done) | (simp_all <;> omega)) ?_)
          refine hK _ ?_; clear hK K; refine Nav.imp ?_
          simp [push_cast, orI, hb]
        · simp at hb
          refine awp_region cx [] fun K hK => ?_
          simp [push_cast]
          repeat (refine And.intro (by clear hK; intros; first | omega | (simp_all; done) | (simp_all <;> omega)) ?_)
          refine hK _ ?_; clear hK K; refine Nav.imp ?_
          refine ⟨1, ⟨by omega, fun _ => hb, by omega⟩, by omega, ?_⟩
          refine weak_of [] rfl (by simp [upT, up, upL, push_cast]) (by simp [upH, upR, upL, up, push_cast]) (by simp [namesOk, push_cast]) (by simp [olds])
      · simp at hb
    · by_cases e1 : k = 1
      · subst e1
        have h1 := h1 (by omega)
        refine awp_region cx [] fun K hK => ?_
        simp [push_cast]
        repeat (refine And.intro (by clear hK; intros; first | omega | (simp_all; done) | (simp_all <;> omega)) ?_)
        refine hK _ ?_; clear hK K; refine Nav.imp ?_
        refine awp_cond (b := true) (by simp [push_cast]) (fun hb => ?_) (fun hb => ?_) <;> (refine Nav.imp ?_)
        · refine awp_region cx [] fun K hK => ?_
          simp [push_cast, intRow]
          repeat (refine And.intro (by clear hK; intros; first | omega | (simp_all; done) | (simp_all <;> omega)) ?_)
          refine hK _ ?_; clear hK K; refine Nav.imp ?_
          refine awp_region cx [] fun K hK => ?_
          simp [push_cast]
          repeat (refine And.intro (by clear hK; intros; first | omega | (simp_all; done) | (simp_all <;> omega)) ?_)
          refine hK _ ?_; clear hK K; refine Nav.imp ?_
          refine awp_cond (by simp [push_cast] <;> exact rfl) (fun hb => ?_) (fun hb => ?_) <;> (refine Nav.imp ?_)
          · simp at hb
            refine awp_region cx [] fun K hK => ?_
            simp [push_cast]
            repeat (refine And.intro (by clear hK; intros; first | omega | (simp_all; done) | (simp_all <;> omega)) ?_)
            refine hK _ ?_; clear hK K; refine Nav.imp ?_
            simp [push_cast, orI, hb, h1]
          · simp at hb
            refine awp_region cx [] fun K hK => ?_
            simp [push_cast]
            repeat (refine And.intro (by clear hK; intros; first | omega | (simp_all; done) | (simp_all <;> omega)) ?_)
            refine hK _ ?_; clear hK K; refine Nav.imp ?_
            refine ⟨2, ⟨by omega, fun _ => h1, fun _ => hb⟩, by omega, ?_⟩
            refine weak_of [] rfl (by simp [upT, up, upL, push_cast]) (by simp [upH, upR, upL, up, push_cast]) (by simp [namesOk, push_cast]) (by simp [olds])
        · simp at hb
      · have e2 : k = 2 := by omega
        subst e2
        have h1 := h1 (by omega)
        have h2 := h2 (by omega)
        refine awp_region cx [] fun K hK => ?_
        simp [push_cast]
        repeat (refine And.intro (by clear hK; intros; first | omega | (simp_all; done) | (simp_all <;> omega)) ?_)
        refine hK _ ?_; clear hK K; refine Nav.imp ?_
        refine awp_cond (b := false) (by simp [push_cast]) (fun hb => ?_) (fun hb => ?_) <;> (refine Nav.imp ?_)
        · simp at hb
        · refine awp_region cx [] fun K hK => ?_
          simp [push_cast]
          repeat (refine And.intro (by clear hK; intros; first | omega | (simp_all; done) | (simp_all <;> omega)) ?_)
          refine hK _ ?_; clear hK K; refine Nav.imp ?_
          simp [push_cast, orI, h1, h2]

def cfO (a b : Cell) : Int := orI (cmpI a.y b.y) (cmpI a.x b.x)
theorem ofCmp_ok (a b : Cell) : PC Try.prog 79 [.agg a.row, .agg b.row] (.p (.int .i64 (cfO a b))) := by
  have c1 := compare_ok a.y b.y
  have c2 := compare_ok a.x b.x
  have c3 := or_ok (cmpI a.y b.y) (cmpI a.x b.x)
  have hc : cfO a b = orI (cmpI a.y b.y) (cmpI a.x b.x) := rfl
  rw [hc]
  generalize orI (cmpI a.y b.y) (cmpI a.x b.x) = z at *
  generalize cmpI a.y b.y = x at *
  generalize cmpI a.x b.x = y at *
  refine pc_of_awp cx (fn := Try.f79) (c := _) Try.func79 rfl rfl (Nat.le_of_ble_eq_true rfl) ?_
  rw [Try.ntmps79]; refine Nav.imp ?_
  refine awp_region cx [] fun K hK => ?_
  simp [push_cast]
  repeat (refine And.intro (by clear hK; intros; first | omega | (simp_all; done) | (simp_all <;> omega)) ?_)
  refine hK _ ?_; clear hK K; refine Nav.imp ?_
  refine awp_region_draw cx mixed [(4, .p (.int .i64 x)), (9, .p (.int .i64 y)), (10, .f (encInts [x, y])), (11, .p (.int .i64 z))] fun K hK => ?_
  simp [push_cast, c1, c2, c3, intRow]
  repeat (refine And.intro (by clear hK; intros; first | omega | (simp_all; done) | (simp_all <;> omega)) ?_)
  refine hK _ _ (by kernel_rfl) ?_; clear hK K; refine Nav.imp ?_
  simp [push_cast]

theorem clone_ok (l : List Cell) (hl : l.length ≤ 1000000) : PC Try.prog 78 [encCells l] (.o 31 2 (l.map Cell.row)) := by
  have h16 : l.length * 16 ≤ 140737488355328 := by omega
  refine pc_of_awp cx (fn := Try.f78) (c := _) Try.func78 rfl rfl (Nat.le_of_ble_eq_true rfl) ?_
  rw [Try.ntmps78]; refine Nav.imp ?_
  refine awp_region cx [] fun K hK => ?_
  simp [push_cast]
  repeat (refine And.intro (by clear hK; intros; first | omega | (simp_all; done) | (simp_all <;> omega)) ?_)
  refine hK _ ?_; clear hK K; refine Nav.imp ?_
  refine awp_region cx [] fun K hK => ?_
  simp [push_cast]
  repeat (refine And.intro (by clear hK; intros; first | omega | (simp_all; done) | (simp_all <;> omega)) ?_)
  refine hK _ ?_; clear hK K; refine Nav.imp ?_
  refine awp_ub 4 (by simp [push_cast]; exact ⟨rfl, rfl⟩) fun bu hu1 hu2 => ?_
  refine awp_cond (b := bu) (by simp [push_cast]) (fun hb => ?_) (fun hb => ?_) <;> (refine Nav.imp ?_)
  · have hl0 : l = [] := by simpa using hu1 hb
    subst hl0
    refine awp_region cx [] fun K hK => ?_
    simp [push_cast]
    repeat (refine And.intro (by clear hK; intros; first | omega | (simp_all; done) | (simp_all <;> omega)) ?_)
    refine hK _ ?_; clear hK K; refine Nav.imp ?_
    simp [push_cast]
  · refine awp_region cx [] fun K hK => ?_
    simp [push_cast, h16]
    repeat (refine And.intro (by clear hK; intros; first | omega | (simp_all; done) | (simp_all <;> omega)) ?_)
    refine hK _ ?_; clear hK K; refine Nav.imp ?_
    simp [push_cast]
end Go.Proofs.Ytknelhiejjdioaa

set_option linter.unusedVariables false
set_option linter.unusedSimpArgs false
namespace Go.Proofs.Ytknelhiejjdioaa
open Go.Abs

/-! The reference: cells in their order. -/
def bef (a b : Cell) : Bool := decide (a.y < b.y) || (decide (a.y = b.y) && decide (a.x < b.x))
theorem bef_leY {a b : Cell} (h : bef a b = false) : leY b a = true := by simp [bef, leY] at *; omega
theorem leY_bef {a b : Cell} (h : bef a b = true) : leY a b = true := by simp [bef, leY] at *; omega
theorem leY_trans {a b c : Cell} (h1 : leY a b = true) (h2 : leY b c = true) : leY a c = true := by simp [leY] at *; omega

theorem inRange_ok (c : Cell) : PC Try.prog 53 [.agg c.row] (.p (.bool (onG c))) := by
  obtain ⟨x, y⟩ := c
  refine pc_of_awp cx (fn := Try.f53) (c := _) Try.func53 rfl rfl (Nat.le_of_ble_eq_true rfl) ?_
  rw [Try.ntmps53]; refine Nav.imp ?_
  refine awp_region cx [] fun K hK => ?_
  simp [push_cast]
  repeat (refine And.intro (by clear hK; intros; first | omega | (simp_all; done) | (simp_all <;> omega)) ?_)
  refine hK _ ?_; clear hK K; refine Nav.imp ?_
  refine awp_region cx [] fun K hK => ?_
  simp [push_cast]
  repeat (refine And.intro (by clear hK; intros; first | omega | (simp_all; done) | (simp_all <;> omega)) ?_)
  refine hK _ ?_; clear hK K; refine Nav.imp ?_
  simp [push_cast, onG, Bool.and_assoc]

theorem before_ok (a b : Cell) : PC Try.prog 82 [.agg a.row, .agg b.row] (.p (.bool (bef a b))) := by
  obtain ⟨x, y⟩ := a
  obtain ⟨x', y'⟩ := b
  refine pc_of_awp cx (fn := Try.f82) (c := _) Try.func82 rfl rfl (Nat.le_of_ble_eq_true rfl) ?_
  rw [Try.ntmps82]; refine Nav.imp ?_
  refine awp_region cx [] fun K hK => ?_
  simp [push_cast]
  repeat (refine And.intro (by clear hK; intros; first | omega | (simp_all; done) | (simp_all <;> omega)) ?_)
  refine hK _ ?_; clear hK K; refine Nav.imp ?_
  refine awp_region cx [] fun K hK => ?_
  simp [push_cast]
  repeat (refine And.intro (by clear hK; intros; first | omega | (simp_all; done) | (simp_all <;> omega)) ?_)
  refine hK _ ?_; clear hK K; refine Nav.imp ?_
  simp [push_cast, bef]
  rfl

/-- Cell c, at place k, is on its way down into the first i cells. -/
def InsAt (l : List Cell) (i : Nat) (Z : List Cell) (k : Nat) : Prop :=
  ∃ (P : List Cell) (c : Cell) (Q T : List Cell), Z = P ++ c :: (Q ++ T) ∧ P.length = k ∧ P.length + Q.length = i ∧ Z.Perm l ∧ ((P ++ Q).Pairwise fun a b => leY a b = true) ∧ ∀ q ∈ Q, leY c q = true
def UpTo (l : List Cell) (i : Nat) (Z : List Cell) : Prop := Z.Perm l ∧ ((Z.take i).Pairwise fun a b => leY a b = true)

theorem insAt_start {l Z : List Cell} {i : Nat} (h : UpTo l i Z) (hi : i < Z.length) : InsAt l i Z i := by
  refine ⟨Z.take i, Z[i], [], Z.drop (i + 1), ?_, by simp; omega, by simp; omega, h.1, by simpa using h.2, by simp⟩
  conv => lhs; rw [← List.take_append_drop i Z, List.drop_eq_getElem_cons hi]
  simp
theorem insAt_end {l Z : List Cell} {i k : Nat} (h : InsAt l i Z k) (hk : k = 0 ∨ ∃ c p, Z[k]? = some c ∧ Z[k - 1]? = some p ∧ bef c p = false) : UpTo l (i + 1) Z := by
  obtain ⟨P, c, Q, T, rfl, hP, hQ, hp, hs, hq⟩ := h
  refine ⟨hp, ?_⟩
  have e : (P ++ c :: (Q ++ T)).take (i + 1) = P ++ c :: Q := by
    rw [show P ++ c :: (Q ++ T) = (P ++ c :: Q) ++ T from by simp, List.take_left' (by simp; omega)]
  rw [e]
  rw [List.pairwise_append] at hs ⊢
  refine ⟨hs.1, List.pairwise_cons.2 ⟨hq, hs.2.1⟩, fun a ha b hb => ?_⟩
  rcases List.mem_cons.1 hb with rfl | hb
  · rcases hk with hk | ⟨c', p, h1, h2, h3⟩
    · rw [hk] at hP
      rw [List.length_eq_zero_iff.1 hP] at ha
      cases ha
    · have hc : c' = b := by
        rw [List.getElem?_append_right (by omega), hP, Nat.sub_self] at h1
        exact (Option.some.inj h1).symm
      subst hc
      rcases List.eq_nil_or_concat P with rfl | ⟨P', p', rfl⟩
      · cases ha
      · rw [List.concat_eq_append] at *
        have hpp : p' = p := by
          rw [List.append_assoc, List.getElem?_append_right (by simp at hP; omega)] at h2
          simp at hP
          rw [show k - 1 - P'.length = 0 from by omega] at h2
          exact Option.some.inj h2
        subst hpp
        have h4 := bef_leY h3
        rcases List.mem_append.1 ha with ha | ha
        · exact leY_trans ((List.pairwise_append.1 hs.1).2.2 a ha p' (by simp)) h4
        · simp at ha; subst ha; exact h4
  · exact hs.2.2 a ha b hb
theorem insAt_next {l Z : List Cell} {i k : Nat} {c p : Cell} (h : InsAt l i Z (k + 1)) (hc : Z[k + 1]? = some c) (hp : Z[k]? = some p) (hb : bef c p = true) : InsAt l i ((Z.set (k + 1) p).set k c) k := by
  obtain ⟨P, c', Q, T, rfl, hP, hQ, hperm, hs, hq⟩ := h
  rcases List.eq_nil_or_concat P with rfl | ⟨P', p', rfl⟩
  · simp at hP
  · rw [List.concat_eq_append] at *
    simp at hP
    have hcc : c' = c := by
      rw [List.getElem?_append_right (by simp; omega)] at hc
      simp [hP] at hc
      exact hc
    have hpp : p' = p := by
      rw [List.append_assoc, List.getElem?_append_right (by omega)] at hp
      simp [hP] at hp
      exact hp
    subst hcc hpp
    have e : (((P' ++ [p']) ++ c' :: (Q ++ T)).set (k + 1) p').set k c' = P' ++ c' :: ((p' :: Q) ++ T) := by
      subst hP
      simp
    rw [e]
    refine ⟨P', c', p' :: Q, T, rfl, hP, by simp at hQ ⊢; omega, ?_, ?_, ?_⟩
    · refine List.Perm.trans ?_ hperm
      simp only [List.append_assoc, List.singleton_append, List.cons_append]
      exact List.Perm.append_left _ (List.Perm.swap _ _ _)
    · simpa using hs
    · intro q hqm
      rcases List.mem_cons.1 hqm with rfl | hqm
      · exact leY_bef hb
      · exact hq q hqm
theorem upTo_end {l Z : List Cell} {i : Nat} (h : UpTo l i Z) (hi : Z.length ≤ i) : Z = sortY l := by
  rw [show i = Z.length + (i - Z.length) from by omega] at h
  have h2 := h.2
  rw [List.take_of_length_le (by omega)] at h2
  exact sortedY_uniq (h.1.trans (sortY_perm l).symm) h2 (sortY_le l)
theorem upTo_start (l : List Cell) : UpTo l 1 l := by
  refine ⟨List.Perm.refl l, ?_⟩
  cases l with
  | nil => simp
  | cons a l => simp

set_option maxHeartbeats 1000000 in
theorem sorted_ok (l : List Cell) (hl : l.length ≤ 1000000) : PC Try.prog 54 [encCells l] (.p (encCells (sortY l))) := by
  have h16 : l.length * 16 ≤ 140737488355328 := by omega
  refine pc_of_awp cx (fn := Try.f54) (c := _) Try.func54 rfl rfl (Nat.le_of_ble_eq_true rfl) ?_
  rw [Try.ntmps54]; refine Nav.imp ?_
  refine awp_region cx [] fun K hK => ?_
  simp [push_cast]
  repeat (refine And.intro (by clear hK; intros; first | omega | (simp_all; done) | (simp_all <;> omega)) ?_)
  refine hK _ ?_; clear hK K; refine Nav.imp ?_
  refine awp_region cx [] fun K hK => ?_
  simp [push_cast, h16]
  repeat (refine And.intro (by clear hK; intros; first | omega | (simp_all; done) | (simp_all <;> omega)) ?_)
  refine hK _ ?_; clear hK K; refine Nav.imp ?_
  refine awp_region cx [] fun K hK => ?_
  simp [push_cast]
  repeat (refine And.intro (by clear hK; intros; first | omega | (simp_all; done) | (simp_all <;> omega)) ?_)
  refine hK _ ?_; clear hK K; refine Nav.imp ?_
  refine awp_loop (β := Nat × List Cell) (fun b => ⟨51, [(3, .hs 0 0 b.2.length), (4, .d (.int .i64 b.1))], [(0, some ⟨31, 2, dr (b.2.map Cell.row)⟩)], 1⟩) (fun b => UpTo l b.1 b.2 ∧ 0 < b.1 ∧ b.1 ≤ 1000001) (fun b => l.length - b.1) (1, l) ?_ ⟨upTo_start l, by omega, by omega⟩ ?_
  · refine weak_of [(0, some 3)] rfl (by simp [upT, up, upL, push_cast]) (by simp [upH, upR, upL, up, push_cast]) (by simp [namesOk, push_cast]) (by simp [olds])
  · rintro ⟨i, Z⟩ ⟨hZ, hi, hib⟩
    simp only at hZ hi hib
    have hZl : Z.length = l.length := hZ.1.length_eq
    refine Nav.imp ?_
    refine awp_region cx [] fun K hK => ?_
    simp [push_cast]
    repeat (refine And.intro (by clear hK; intros; first | omega | (simp_all; done) | (simp_all <;> omega)) ?_)
    refine hK _ ?_; clear hK K; refine Nav.imp ?_
    refine awp_cond (b := decide ((i : Int) < Z.length)) (by simp [push_cast]) (fun hb => ?_) (fun hb => ?_) <;> (refine Nav.imp ?_)
    · have hlt : i < Z.length := by simpa using hb
      have e0 := wrap_i64 (n := (i : Int) + 1) (by omega) (by omega)
      refine awp_region cx [] fun K hK => ?_
      simp [push_cast]
      repeat (refine And.intro (by clear hK; intros; first | omega | (simp_all; done) | (simp_all <;> omega)) ?_)
      refine hK _ ?_; clear hK K; refine Nav.imp ?_
      refine awp_loop (β := Nat × List Cell) (fun b => ⟨51, [(3, .hs 0 0 b.2.length), (4, .d (.int .i64 i)), (5, .d (.int .i64 b.1))], [(0, some ⟨31, 2, dr (b.2.map Cell.row)⟩)], 1⟩) (fun b => InsAt l i b.2 b.1) (fun b => b.1) (i, Z) ?_ (insAt_start hZ hlt) ?_
      · refine weak_of [(0, some 0)] rfl (by simp [upT, up, upL, push_cast]) (by simp [upH, upR, upL, up, push_cast]) (by simp [namesOk, push_cast]) (by simp [olds])
      · rintro ⟨k, Y⟩ hY
        simp only at hY
        have hYl : Y.length = l.length := by obtain ⟨P, c, Q, T, _, _, _, h, _⟩ := hY; exact h.length_eq
        have hki : k ≤ i := by obtain ⟨P, c, Q, T, _, h1, h2, _⟩ := hY; omega
        refine Nav.imp ?_
        obtain ⟨c, hc⟩ : ∃ c, Y[k]? = some c := getq (by omega)
        cases k with
        | zero =>
          refine awp_region_draw cx mixed [(12, .skip)] fun K hK => ?_
          simp [push_cast, hc]
          repeat (refine And.intro (by clear hK; intros; first | omega | (simp_all; done) | (simp_all <;> omega)) ?_)
          refine hK _ _ (by kernel_rfl) ?_; clear hK K; refine Nav.imp ?_
          refine awp_cond (b := false) (by simp [push_cast]) (fun hb => ?_) (fun hb => ?_) <;> (refine Nav.imp ?_)
          · simp at hb
          · refine awp_region cx [] fun K hK => ?_
            simp [push_cast, e0]
            repeat (refine And.intro (by clear hK; intros; first | omega | (simp_all; done) | (simp_all <;> omega)) ?_)
            refine hK _ ?_; clear hK K; refine Nav.imp ?_
            refine ⟨(i + 1, Y), ⟨insAt_end hY (.inl rfl), by simp only; omega, by simp only; omega⟩, by simp only; omega, ?_⟩
            refine weak_of [(0, some 0)] rfl (by simp [upT, up, upL, push_cast]) (by simp [upH, upR, upL, up, push_cast]) (by simp [namesOk, push_cast]) (by simp [olds])
        | succ k =>
          obtain ⟨p, hp⟩ : ∃ c, Y[k]? = some c := getq (by omega)
          have c1 := before_ok c p
          generalize hbf : bef c p = bb at c1
          have e1 := wrap_i64 (n := ((k + 1 : Nat) : Int) - 1) (by omega) (by omega)
          have e2 : (((k + 1 : Nat) : Int) - 1) = k := by omega
          rw [e2] at e1
          have e3 : (((k + 1 : Nat) : Int) - 1).toNat = k := by omega
          have e4 : (0 : Int) < (k : Int) + 1 := by omega
          refine awp_region_draw cx mixed [(12, .p (.bool bb))] fun K hK => ?_
          simp [push_cast, hc, hp, c1, e1, e2, e3, e4]
          repeat (refine And.intro (by clear hK; intros; first | omega | (simp_all; done) | (simp_all <;> omega)) ?_)
          refine hK _ _ (by kernel_rfl) ?_; clear hK K; refine Nav.imp ?_
          refine awp_cond (b := bb) (by simp [push_cast]) (fun hb => ?_) (fun hb => ?_) <;> (refine Nav.imp ?_)
          · rw [hb] at hbf
            have hnx := insAt_next hY hc hp hbf
            obtain ⟨Y1, hY1⟩ : ∃ Y1, Y1 = Y.set (k + 1) p := ⟨_, rfl⟩
            have hr1 : (dr (Y.map Cell.row)).set (k + 1) [.d (.int .i64 p.x), .d (.int .i64 p.y)] = dr (Y1.map Cell.row) := by rw [hY1]; simp [dr, List.map_set]
            have hk1 : Y1[k]? = some p := by rw [hY1, List.getElem?_set_ne (by omega)]; exact hp
            rw [← hY1] at hnx
            have hl1 : Y1.length = Y.length := by rw [hY1]; simp
            obtain ⟨Y2, hY2⟩ : ∃ Y2, Y2 = Y1.set k c := ⟨_, rfl⟩
            have hr2 : (dr (Y1.map Cell.row)).set k [.d (.int .i64 c.x), .d (.int .i64 c.y)] = dr (Y2.map Cell.row) := by rw [hY2]; simp [dr, List.map_set]
            rw [← hY2] at hnx
            have hl2 : Y2.length = Y.length := by rw [hY2]; simp [hl1]
            clear hY1 hY2
            refine awp_region cx [] fun K hK => ?_
            simp [push_cast, hc]
            repeat (refine And.intro (by clear hK; intros; first | omega | (simp_all; done) | (simp_all <;> omega)) ?_)
            refine hK _ ?_; clear hK K; refine Nav.imp ?_
            refine awp_region cx [] fun K hK => ?_
            simp [push_cast, hp, hc, e1, e2, e3, hr1]
            repeat (refine And.intro (by clear hK; intros; first | omega | (simp_all; done) | (simp_all <;> omega)) ?_)
            refine hK _ ?_; clear hK K; refine Nav.imp ?_
            rw [← hl1]
            refine awp_region cx [] fun K hK => ?_
            simp [push_cast, e1, e2, hk1, hr2]
            repeat (refine And.intro (by clear hK; intros; first | omega | (simp_all; done) | (simp_all <;> omega)) ?_)
            refine hK _ ?_; clear hK K; refine Nav.imp ?_
            rw [hl1, ← hl2]
            refine awp_region cx [] fun K hK => ?_
            simp [push_cast, e1, e2]
            repeat (refine And.intro (by clear hK; intros; first | omega | (simp_all; done) | (simp_all <;> omega)) ?_)
            refine hK _ ?_; clear hK K; refine Nav.imp ?_
            refine ⟨(k, Y2), hnx, by simp only; omega, ?_⟩
            refine weak_of [(0, some 0)] rfl (by simp [upT, up, upL, push_cast]) (by simp [upH, upR, upL, up, push_cast]) (by simp [namesOk, push_cast]) (by simp [olds])
          · rw [hb] at hbf
            refine awp_region cx [] fun K hK => ?_
            simp [push_cast, e0]
            repeat (refine And.intro (by clear hK; intros; first | omega | (simp_all; done) | (simp_all <;> omega)) ?_)
            refine hK _ ?_; clear hK K; refine Nav.imp ?_
            refine ⟨(i + 1, Y), ⟨insAt_end hY (.inr ⟨c, p, hc, hp, hbf⟩), by simp only; omega, by simp only; omega⟩, by simp only; omega, ?_⟩
            refine weak_of [(0, some 0)] rfl (by simp [upT, up, upL, push_cast]) (by simp [upH, upR, upL, up, push_cast]) (by simp [namesOk, push_cast]) (by simp [olds])
    · have hge : l.length ≤ i := by simp at hb; omega
      have hs := upTo_end hZ (by omega)
      subst hs
      generalize sortY l = Z at *
      refine awp_region cx [] fun K hK => ?_
      simp [push_cast]
      repeat (refine And.intro (by clear hK; intros; first | omega | (simp_all; done) | (simp_all <;> omega)) ?_)
      refine hK _ ?_; clear hK K; refine Nav.imp ?_
      have ht : List.take Z.length (Z.map Cell.row) = Z.map Cell.row := List.take_of_length_le (by simp)
      simp [push_cast, ht]
end Go.Proofs.Ytknelhiejjdioaa

set_option linter.unusedVariables false
set_option linter.unusedSimpArgs false
namespace Go.Proofs.Ytknelhiejjdioaa
open Go.Abs

theorem with_ok (l : List Run) (x : Int) (hl : l.length ≤ 1000000) (hx : -4096 ≤ x ∧ x < 4096) : PC Try.prog 55 [encRuns l, .int .i64 x] (.p (encRuns (addRun l x))) := by
  have h16 : (l.length + 1) * 16 ≤ 140737488355328 := by omega
  have ex := wrap_i64 (n := x + 1) (by omega) (by omega)
  refine pc_of_awp cx (fn := Try.f55) (c := _) Try.func55 rfl rfl (Nat.le_of_ble_eq_true rfl) ?_
  rw [Try.ntmps55]; refine Nav.imp ?_
  refine awp_region cx [] fun K hK => ?_
  simp [push_cast]
  repeat (refine And.intro (by clear hK; intros; first | omega | (simp_all; done) | (simp_all <;> omega)) ?_)
  refine hK _ ?_; clear hK K; refine Nav.imp ?_
  refine awp_region cx [] fun K hK => ?_
  simp [push_cast]
  repeat (refine And.intro (by clear hK; intros; first | omega | (simp_all; done) | (simp_all <;> omega)) ?_)
  refine hK _ ?_; clear hK K; refine Nav.imp ?_
  rcases List.eq_nil_or_concat l with rfl | ⟨L, r, rfl⟩
  · rw [addRun_nil]
    refine awp_region cx [] fun K hK => ?_
    simp [push_cast]
    repeat (refine And.intro (by clear hK; intros; first | omega | (simp_all; done) | (simp_all <;> omega)) ?_)
    refine hK _ ?_; clear hK K; refine Nav.imp ?_
    refine awp_cond (b := false) (by simp [push_cast]) (fun hb => ?_) (fun hb => ?_) <;> (refine Nav.imp ?_)
    · simp at hb
    · refine awp_region cx [] fun K hK => ?_
      simp [push_cast]
      repeat (refine And.intro (by clear hK; intros; first | omega | (simp_all; done) | (simp_all <;> omega)) ?_)
      refine hK _ ?_; clear hK K; refine Nav.imp ?_
      refine awp_cond (b := false) (by simp [push_cast]) (fun hb => ?_) (fun hb => ?_) <;> (refine Nav.imp ?_)
      · simp at hb
      · refine awp_region cx [] fun K hK => ?_
        simp [push_cast, ex]
        repeat (refine And.intro (by clear hK; intros; first | omega | (simp_all; done) | (simp_all <;> omega)) ?_)
        refine hK _ ?_; clear hK K; refine Nav.imp ?_
        simp [push_cast]
  · rw [List.concat_eq_append] at *
    have hz : (L ++ [r])[L.length]? = some r := by simp
    have hlen : (L ++ [r]).length = L.length + 1 := by simp
    have hadd := addRun_end L r x
    have htk : ((L ++ [r]).map Run.row).take L.length = L.map Run.row := by simp
    obtain ⟨ra, rb⟩ := r
    simp only at hadd
    generalize hA : L ++ [⟨ra, rb⟩] = A at *
    have e1 := wrap_i64 (n := ((L.length + 1 : Nat) : Int) - 1) (by omega) (by omega)
    have e2 : (((L.length + 1 : Nat) : Int) - 1) = L.length := by omega
    rw [e2] at e1
    have e3 : (0 : Int) < (L.length : Int) + 1 := by omega
    have hle : L.length ≤ A.length := by omega
    have hL16 : L.length * 16 ≤ 140737488355328 := by omega
    have hL17 : (L.length + 1) * 16 ≤ 140737488355328 := by omega
    have hA16 : A.length * 16 ≤ 140737488355328 := by omega
    rw [hlen]
    refine awp_region cx [] fun K hK => ?_
    simp [push_cast, hz, e1, e2, e3, Run.row]
    repeat (refine And.intro (by clear hK; intros; first | omega | (simp_all; done) | (simp_all <;> omega)) ?_)
    refine hK _ ?_; clear hK K; refine Nav.imp ?_
    refine awp_cond (b := decide (x < rb)) (by simp [push_cast, e3]) (fun hb => ?_) (fun hb => ?_) <;> (refine Nav.imp ?_)
    · have hb : x < rb := by simpa using hb
      have hm : max rb (x + 1) = rb := by omega
      rw [hadd, if_neg (by omega), hm, hA]
      refine awp_region cx [] fun K hK => ?_
      simp [push_cast]
      repeat (refine And.intro (by clear hK; intros; first | omega | (simp_all; done) | (simp_all <;> omega)) ?_)
      refine hK _ ?_; clear hK K; refine Nav.imp ?_
      simp [push_cast]
    · have hb : ¬ x < rb := by simpa using hb
      refine awp_region cx [] fun K hK => ?_
      simp [push_cast, hz, e1, e2, e3, Run.row]
      repeat (refine And.intro (by clear hK; intros; first | omega | (simp_all; done) | (simp_all <;> omega)) ?_)
      refine hK _ ?_; clear hK K; refine Nav.imp ?_
      refine awp_cond (b := x == rb) (by simp [push_cast, e3]) (fun hb => ?_) (fun hb => ?_) <;> (refine Nav.imp ?_)
      · have hb2 : x = rb := by simpa using hb
        subst hb2
        have hm : max x (x + 1) = x + 1 := by omega
        rw [hadd, if_neg (by omega), hm]
        refine awp_region_draw cx mixed [] fun K hK => ?_
        simp [push_cast, hz, e1, e2, e3, Run.row, htk, ex, hle, hL16, hL17]
        repeat (refine And.intro (by clear hK; intros; first | omega | (simp_all; done) | (simp_all <;> omega)) ?_)
        refine hK _ _ (by kernel_rfl) ?_; clear hK K; refine Nav.imp ?_
        have ht : List.take (L.length + 1) (L.map Run.row ++ [[D.int IntKind.i64 ra, D.int IntKind.i64 (x + 1)]]) = L.map Run.row ++ [[D.int IntKind.i64 ra, D.int IntKind.i64 (x + 1)]] := List.take_of_length_le (by simp)
        have ht2 : List.take L.length (L.map Run.row) = L.map Run.row := List.take_of_length_le (by simp)
        simp [push_cast, ht, ht2]
      · have hb2 : ¬ x = rb := by simpa using hb
        rw [hadd, if_pos (by omega)]
        refine awp_region cx [] fun K hK => ?_
        simp [push_cast, ex, hA16, h16]
        repeat (refine And.intro (by clear hK; intros; first | omega | (simp_all; done) | (simp_all <;> omega)) ?_)
        refine hK _ ?_; clear hK K; refine Nav.imp ?_
        have ht : List.take (A.length + 1) (A.map Run.row ++ [[D.int IntKind.i64 x, D.int IntKind.i64 (x + 1)]]) = A.map Run.row ++ [[D.int IntKind.i64 x, D.int IntKind.i64 (x + 1)]] := List.take_of_length_le (by simp)
        simp [push_cast, ht, Run.row]
end Go.Proofs.Ytknelhiejjdioaa
