/-
  Texts of this seat put together: X4, X5, AbsD, B3, B4, A6, U1, U2.
-/
import Derived.Test.YtagakfaiimaifaaI6
import Derived.Test.YtagakfaiimaifaaI8
import Derived.Test.YtagakfaiimaifaaI5
import Derived.Test.YtagakfaiimaifaaI4
import Derived.Test.YtagakfaiimaifaaI7
import Derived.Test.YtagakfaiimaifaaChecked
set_option linter.unusedVariables false
set_option linter.unusedSimpArgs false
set_option maxRecDepth 100000
namespace Go.Proofs.Ytagakfaiimaifaa
open Go.Abs Go.Shelf

def sortInt_ren : Go.Shelf.Ren := ⟨fun | 189 => 71 | 125 => 84 | 257 => 89 | 128 => 104 | 129 => 105 | 294 => 108 | 295 => 109 | 296 => 110 | 297 => 111 | 298 => 112 | 299 => 113 | 216 => 114 | 300 => 115 | 301 => 116 | 328 => 122 | 329 => 118 | 330 => 119 | 331 => 123 | 332 => 124 | 215 => 85 | 343 => 126 | n => n, fun | 28 => 88 | 3 => 3 | 46 => 102 | 0 => 0 | 51 => 120 | 53 => 122 | 4 => 4 | 183 => 114 | 182 => 113 | 131 => 97 | 5 => 5 | 9 => 9 | 218 => 131 | 222 => 135 | 228 => 139 | 229 => 140 | n => n, fun n => n⟩
theorem sortInt_lays : Lays.n189 Try.prog sortInt_ren where
  mixed := by kernel_rfl
  f125 := Try.func84.trans (congrArg some (by kernel_rfl))
  f128 := Try.func104.trans (congrArg some (by kernel_rfl))
  f129 := Try.func105.trans (congrArg some (by kernel_rfl))
  f189 := Try.func71.trans (congrArg some (by kernel_rfl))
  f215 := Try.func85.trans (congrArg some (by kernel_rfl))
  f216 := Try.func114.trans (congrArg some (by kernel_rfl))
  f257 := Try.func89.trans (congrArg some (by kernel_rfl))
  f294 := Try.func108.trans (congrArg some (by kernel_rfl))
  f295 := Try.func109.trans (congrArg some (by kernel_rfl))
  f296 := Try.func110.trans (congrArg some (by kernel_rfl))
  f297 := Try.func111.trans (congrArg some (by kernel_rfl))
  f298 := Try.func112.trans (congrArg some (by kernel_rfl))
  f299 := Try.func113.trans (congrArg some (by kernel_rfl))
  f300 := Try.func115.trans (congrArg some (by kernel_rfl))
  f301 := Try.func116.trans (congrArg some (by kernel_rfl))
  f328 := Try.func122.trans (congrArg some (by kernel_rfl))
  f329 := Try.func118.trans (congrArg some (by kernel_rfl))
  f330 := Try.func119.trans (congrArg some (by kernel_rfl))
  f331 := Try.func123.trans (congrArg some (by kernel_rfl))
  f332 := Try.func124.trans (congrArg some (by kernel_rfl))
  f343 := Try.func126.trans (congrArg some (by kernel_rfl))
  t0 := Try.underlying0
  a0 := Try.isAgg0
  z0 := Try.sizeOf0
  v0 := Try.zeroValue0
  t3 := Try.underlying3
  a3 := Try.isAgg3
  z3 := Try.sizeOf3
  v3 := Try.zeroValue3
  t4 := Try.underlying4
  a4 := Try.isAgg4
  z4 := Try.sizeOf4
  v4 := Try.zeroValue4
  t5 := Try.underlying5
  a5 := Try.isAgg5
  z5 := Try.sizeOf5
  v5 := Try.zeroValue5
  t9 := Try.underlying9
  a9 := Try.isAgg9
  z9 := Try.sizeOf9
  v9 := Try.zeroValue9
  t28 := Try.underlying88
  a28 := Try.isAgg88
  z28 := Try.sizeOf88
  v28 := Try.zeroValue88
  t46 := Try.underlying102
  a46 := Try.isAgg102
  z46 := Try.sizeOf102
  v46 := Try.zeroValue102
  t51 := Try.underlying120
  a51 := Try.isAgg120
  z51 := Try.sizeOf120
  v51 := Try.zeroValue120
  t53 := Try.underlying122
  a53 := Try.isAgg122
  z53 := Try.sizeOf122
  v53 := Try.zeroValue122
  t131 := Try.underlying97
  a131 := Try.isAgg97
  z131 := Try.sizeOf97
  v131 := Try.zeroValue97
  t182 := Try.underlying113
  a182 := Try.isAgg113
  z182 := Try.sizeOf113
  v182 := Try.zeroValue113
  t183 := Try.underlying114
  a183 := Try.isAgg114
  z183 := Try.sizeOf114
  v183 := Try.zeroValue114
  t218 := Try.underlying131
  a218 := Try.isAgg131
  z218 := Try.sizeOf131
  v218 := Try.zeroValue131
  t222 := Try.underlying135
  a222 := Try.isAgg135
  z222 := Try.sizeOf135
  v222 := Try.zeroValue135
  t228 := Try.underlying139
  a228 := Try.isAgg139
  z228 := Try.sizeOf139
  v228 := Try.zeroValue139
  t229 := Try.underlying140
  a229 := Try.isAgg140
  z229 := Try.sizeOf140
  v229 := Try.zeroValue140
def compactInt_ren : Go.Shelf.Ren := ⟨fun | 20 => 72 | n => n, fun | 22 => 88 | 3 => 3 | 4 => 4 | 0 => 0 | n => n, fun n => n⟩
theorem compactInt_lays : Lays2.n20 Try.prog compactInt_ren where
  mixed := by kernel_rfl
  f20 := Try.func72.trans (congrArg some (by kernel_rfl))
  t0 := Try.underlying0
  a0 := Try.isAgg0
  z0 := Try.sizeOf0
  v0 := Try.zeroValue0
  t3 := Try.underlying3
  a3 := Try.isAgg3
  z3 := Try.sizeOf3
  v3 := Try.zeroValue3
  t4 := Try.underlying4
  a4 := Try.isAgg4
  z4 := Try.sizeOf4
  v4 := Try.zeroValue4
  t22 := Try.underlying88
  a22 := Try.isAgg88
  z22 := Try.sizeOf88
  v22 := Try.zeroValue88
  i3 := by kernel_rfl

theorem sortInts_px (l : List Int) (hl : l.length ≤ 1000000000) : PX Try.prog 71 [.hs 0 0 l.length] [(0, ⟨3, 1, dr (l.map iRow)⟩)] [(0, 0)] [(0, ⟨3, 1, dr ((l.mergeSort fun x y => decide (x ≤ y)).map iRow)⟩)] (.tup []) :=
  sortI_px sortInt_lays ⟨_, Try.func71, by kernel_rfl, by kernel_rfl⟩ 3 l (by omega)
theorem compactInts_px (l : List Int) (hl : l.length ≤ 1000000000) : PX Try.prog 72 [.hs 0 0 l.length] [(0, ⟨3, 1, dr (l.map iRow)⟩)] [(0, 0)] [(0, ⟨3, 1, dr ((Go.Lib.compact l ++ List.replicate (l.length - (Go.Lib.compact l).length) 0).map iRow)⟩)] (.hs 0 0 (Go.Lib.compact l).length) :=
  compactI_px compactInt_lays ⟨_, Try.func72, by kernel_rfl, by kernel_rfl⟩ 3 l (by omega)

theorem free_runs : ∀ l : List Run, D.freess (l.map Run.row) = true
  | [] => rfl
  | c :: l => by simp [D.freess, D.frees, D.free, free_runs l]
theorem cloneR_ok (l : List Run) (hl : l.length ≤ 100000000) : PC Try.prog 73 [encRuns l] (.f (encRuns l)) := by
  have h16 : l.length * 16 ≤ 140737488355328 := by omega
  refine pc_of_awp cx (fn := Try.f73) (c := _) Try.func73 rfl rfl (Nat.le_of_ble_eq_true rfl) ?_
  rw [Try.ntmps73]; refine Nav.imp ?_
  refine awp_region cx [] fun K hK => ?_
  simp [push_cast]
  repeat (refine And.intro (by clear hK; intros; first | omega | (simp_all; done) | (simp_all <;> omega)) ?_)
  refine hK _ ?_; clear hK K; refine Nav.imp ?_
  refine awp_region cx [] fun K hK => ?_
  simp [push_cast]
  repeat (refine And.intro (by clear hK; intros; first | omega | (simp_all; done) | (simp_all <;> omega)) ?_)
  refine hK _ ?_; clear hK K; refine Nav.imp ?_
  refine awp_ub 4 (by simp [push_cast]; exact ⟨rfl, rfl⟩) fun bu hu1 hu2 => ?_
  refine awp_cond (b := bu) (by simp [push_cast]) (fun hb => ?_) (fun hb => ?_) <;> (refine Nav.imp ?_)
  · have hl0 : l = [] := by simpa using hu1 hb
    subst hl0
    refine awp_region cx [] fun K hK => ?_
    simp [push_cast]
    repeat (refine And.intro (by clear hK; intros; first | omega | (simp_all; done) | (simp_all <;> omega)) ?_)
    refine hK _ ?_; clear hK K; refine Nav.imp ?_
    simp [push_cast]
  · refine awp_region cx [] fun K hK => ?_
    simp [push_cast, h16]
    repeat (refine And.intro (by clear hK; intros; first | omega | (simp_all; done) | (simp_all <;> omega)) ?_)
    refine hK _ ?_; clear hK K; refine Nav.imp ?_
    have ht : List.take l.length (l.map Run.row) = l.map Run.row := List.take_of_length_le (by simp)
    simp [push_cast, ht, free_runs]
end Go.Proofs.Ytagakfaiimaifaa

set_option linter.unusedVariables false
set_option linter.unusedSimpArgs false
set_option maxRecDepth 100000
namespace Go.Proofs.Ytagakfaiimaifaa
open Go.Abs

theorem take_flat_one' {α β : Type} {f : α → List β} (h : ∀ x, (f x).length ≤ 1) (l : List α) (k : Nat) : ((l.take k).flatMap f).length ≤ l.length := by
  have key : ∀ m : List α, (m.flatMap f).length ≤ m.length := by
    intro m
    induction m with
    | nil => simp
    | cons x m ih => have := h x; rw [List.flatMap_cons, List.length_append, List.length_cons]; omega
  have := key (l.take k)
  simp at this ⊢; omega
theorem swOut_len (now o : Bool) (out : List Run) (x : Int) : (swOut now o out x).length ≤ out.length + 1 := by
  unfold swOut
  split
  · simp
  · split
    · simp
      try omega
    · omega
theorem swF_len (f : Bool → Bool → Bool) (a b : List Run) : ∀ (n p q : Nat) (out : List Run) (o : Bool), (swF f a b n p q out o).length ≤ out.length + n
  | 0, _, _, out, _ => by simp [swF]
  | n + 1, p, q, out, o => by
    unfold swF
    split
    · omega
    · refine Nat.le_trans (swF_len f a b n _ _ _ _) ?_
      have := swOut_len (f (swP a (swX a b p q) p % 2 == 1) (swP b (swX a b p q) q % 2 == 1)) o out (swX a b p q)
      omega
theorem sweep_len (f : Bool → Bool → Bool) (a b : List Run) : (sweep f a b).length ≤ 2 * a.length + 2 * b.length := by
  unfold sweep
  split
  · simpa using swF_len f a b (2 * a.length + 2 * b.length) 0 0 [] false
  · simp
theorem rowOf_len {R : List Row} (hR : smallR R) (y : Int) : (rowOf R y).length ≤ 1000000 := by
  unfold rowOf
  split
  · rename_i w h; exact hR.2 w (List.mem_of_find?_eq_some h)
  · simp
theorem opRow_len (f : Bool → Bool → Bool) (a b : List Row) (y : Int) : (opRow f a b y).length ≤ 1 := by unfold opRow; split <;> simp
/-- The rows' numbers that the first k regions give. -/
def ysK (a b : List Row) (k : Nat) : List Int := if k = 0 then [] else if k = 1 then a.map Row.y else a.map Row.y ++ b.map Row.y

set_option maxHeartbeats 4000000 in
theorem combine_big (f : Bool → Bool → Bool) (hf : f false false = false) (g : FuncId) (hg : ∀ x y : List Run, x.length ≤ 1000000 → y.length ≤ 1000000 → rvalid x = true → rvalid y = true → PC Try.prog g [encRuns x, encRuns y] (.p (encRuns (sweep f x y)))) (a b : List Row) (hA : bigR a) (hB : bigR b) :
    PC Try.prog 45 [.agg (regRow a), .agg (regRow b), .fn (.func g) []] (.p (.agg (regRow (opR f a b)))) := by
  have c1 := valid_big a hA
  have c2 := valid_big b hB
  have hop : opR f a b = if validR a && validR b then opOn f a b (dedup (allY a b)) else [] := rfl
  cases ha : validR a with
  | false =>
    rw [ha] at c1
    have h0 : opR f a b = [] := by rw [hop, ha]; simp
    rw [h0]
    refine pc_of_awp cx (fn := Try.f45) (c := _) Try.func45 rfl rfl (Nat.le_of_ble_eq_true rfl) ?_
    rw [Try.ntmps45]; refine Nav.imp ?_
    refine awp_region cx [] fun K hK => ?_
    simp [push_cast]
    repeat (refine And.intro (by clear hK; intros; first | omega | (simp_all; done) | (simp_all <;> omega)) ?_)
    refine hK _ ?_; clear hK K; refine Nav.imp ?_
    refine awp_region cx [(1, .p (.bool false)), (5, .skip)] fun K hK => ?_
    simp [push_cast, c1]
    repeat (refine And.intro (by clear hK; intros; first | omega | (simp_all; done) | (simp_all <;> omega)) ?_)
    refine hK _ ?_; clear hK K; refine Nav.imp ?_
    refine awp_cond (b := true) (by simp [push_cast]) (fun hb => ?_) (fun hb => ?_) <;> (refine Nav.imp ?_)
    · refine awp_region cx [] fun K hK => ?_
      simp [push_cast]
      repeat (refine And.intro (by clear hK; intros; first | omega | (simp_all; done) | (simp_all <;> omega)) ?_)
      refine hK _ ?_; clear hK K; refine Nav.imp ?_
      simp [push_cast]
    · simp at hb
  | true =>
    rw [ha] at c1
    cases hb0 : validR b with
    | false =>
      rw [hb0] at c2
      have h0 : opR f a b = [] := by rw [hop, ha, hb0]; simp
      rw [h0]
      refine pc_of_awp cx (fn := Try.f45) (c := _) Try.func45 rfl rfl (Nat.le_of_ble_eq_true rfl) ?_
      rw [Try.ntmps45]; refine Nav.imp ?_
      refine awp_region cx [] fun K hK => ?_
      simp [push_cast]
      repeat (refine And.intro (by clear hK; intros; first | omega | (simp_all; done) | (simp_all <;> omega)) ?_)
      refine hK _ ?_; clear hK K; refine Nav.imp ?_
      refine awp_region cx [(1, .p (.bool true)), (5, .p (.bool false))] fun K hK => ?_
      simp [push_cast, c1, c2]
      repeat (refine And.intro (by clear hK; intros; first | omega | (simp_all; done) | (simp_all <;> omega)) ?_)
      refine hK _ ?_; clear hK K; refine Nav.imp ?_
      refine awp_cond (b := true) (by simp [push_cast]) (fun hb => ?_) (fun hb => ?_) <;> (refine Nav.imp ?_)
      · refine awp_region cx [] fun K hK => ?_
        simp [push_cast]
        repeat (refine And.intro (by clear hK; intros; first | omega | (simp_all; done) | (simp_all <;> omega)) ?_)
        refine hK _ ?_; clear hK K; refine Nav.imp ?_
        simp [push_cast]
      · simp at hb
    | true =>
      rw [hb0] at c2
      replace hA := small_valid ha
      replace hB := small_valid hb0
      have hal := hA.1
      have hbl := hB.1
      have hon := fun ys hp hys => @opR_on f hf a b ha hb0 ys hp hys
      clear hop
      generalize opR f a b = res at *
      refine pc_of_awp cx (fn := Try.f45) (c := _) Try.func45 rfl rfl (Nat.le_of_ble_eq_true rfl) ?_
      rw [Try.ntmps45]; refine Nav.imp ?_
      refine awp_region cx [] fun K hK => ?_
      simp [push_cast]
      repeat (refine And.intro (by clear hK; intros; first | omega | (simp_all; done) | (simp_all <;> omega)) ?_)
      refine hK _ ?_; clear hK K; refine Nav.imp ?_
      refine awp_region cx [(1, .p (.bool true)), (5, .p (.bool true))] fun K hK => ?_
      simp [push_cast, c1, c2]
      repeat (refine And.intro (by clear hK; intros; first | omega | (simp_all; done) | (simp_all <;> omega)) ?_)
      refine hK _ ?_; clear hK K; refine Nav.imp ?_
      refine awp_cond (b := false) (by simp [push_cast]) (fun hb => ?_) (fun hb => ?_) <;> (refine Nav.imp ?_)
      · simp at hb
      · refine awp_region cx [] fun K hK => ?_
        simp [push_cast]
        repeat (refine And.intro (by clear hK; intros; first | omega | (simp_all; done) | (simp_all <;> omega)) ?_)
        refine hK _ ?_; clear hK K; refine Nav.imp ?_
        refine awp_region cx [] fun K hK => ?_
        simp [push_cast]
        repeat (refine And.intro (by clear hK; intros; first | omega | (simp_all; done) | (simp_all <;> omega)) ?_)
        refine hK _ ?_; clear hK K; refine Nav.imp ?_
        refine awp_loop (β := Nat × List Int) (fun s => ⟨76, [(2, .d (.fn (.func g) [])), (3, .ptr 0 0 0), (4, .ptr 1 0 0), (6, .ptr 2 0 0), (7, .hs 3 0 s.2.length), (27, .d (.agg [encRows a, encRows b])), (28, .d (.int .i64 s.1))], [(0, some ⟨24, 1, [(regRow a).map .d]⟩), (1, some ⟨24, 1, [(regRow b).map .d]⟩), (2, some ⟨24, 1, [[.nl]]⟩), (3, some ⟨3, 1, dr (s.2.map iRow)⟩)], 4⟩) (fun s => s.1 ≤ 2 ∧ s.2 = ysK a b s.1) (fun s => 2 - s.1) (0, []) ?_ ⟨by simp only; omega, by simp [ysK]⟩ ?_
        · refine weak_of [(0, some 0), (1, some 1), (2, some 2), (3, none)] rfl (by simp [upT, up, upL, push_cast]) (by simp [upH, upR, upL, up, push_cast]) (by simp [namesOk, push_cast]) (by simp [olds])
        · rintro ⟨k, Y⟩ ⟨hk, hY⟩
          simp only at hk hY
          refine Nav.imp ?_
          have hYl : Y.length ≤ 2000000 := by
            rw [hY]; unfold ysK; split <;> (try split) <;> simp <;> omega
          by_cases hk2 : k < 2
          · obtain ⟨R, hR⟩ : ∃ R, R = if k = 0 then a else b := ⟨_, rfl⟩
            have hRl : R.length ≤ 1000000 := by rw [hR]; split <;> omega
            have hnx : ysK a b (k + 1) = Y ++ R.map Row.y := by
              rw [hY, hR]
              rcases (by omega : k = 0 ∨ k = 1) with rfl | rfl <;> simp [ysK]
            have hYK : Y.length + R.length ≤ 2000000 := by
              have : (Y ++ R.map Row.y).length ≤ a.length + b.length := by
                rw [← hnx]; unfold ysK; split <;> (try split) <;> simp <;> omega
              simp at this; omega
            have e0 := wrap_i64 (n := (k : Int) + 1) (by omega) (by omega)
            have hk2' : (k : Int) < 2 := by omega
            clear hY
            apply cut_
            · intro key
              rcases (by omega : k = 0 ∨ k = 1) with hk0 | hk0
              · have hR : R = a := by rw [hR, hk0]; rfl
                refine awp_region cx [] fun K hK => ?_
                simp [push_cast, hk0]
                repeat (refine And.intro (by clear hK; intros; first | omega | (simp_all; done) | (simp_all <;> omega)) ?_)
                refine hK _ ?_; clear hK K; refine Nav.imp ?_
                refine awp_cond (b := true) (by simp [push_cast, hk0]) (fun hb => ?_) (fun hb => ?_) <;> (refine Nav.imp ?_)
                · refine awp_region cx [] fun K hK => ?_
                  simp [push_cast, hk0]
                  repeat (refine And.intro (by clear hK; intros; first | omega | (simp_all; done) | (simp_all <;> omega)) ?_)
                  refine hK _ ?_; clear hK K; refine Nav.imp ?_
                  refine awp_weak (s' := ⟨76, [(2, .d (.fn (.func g) [])), (3, .ptr 0 0 0), (4, .ptr 1 0 0), (6, .ptr 2 0 0), (7, .hs 3 0 Y.length), (9, .ptr 4 0 0), (27, .d (.agg [encRows a, encRows b])), (28, .d (.int .i64 k))], [(0, some ⟨24, 1, [(regRow a).map .d]⟩), (1, some ⟨24, 1, [(regRow b).map .d]⟩), (2, some ⟨24, 1, [[.nl]]⟩), (3, some ⟨3, 1, dr (Y.map iRow)⟩), (4, some ⟨24, 1, [(regRow R).map .d]⟩)], 5⟩) ?_ key.h
                  refine weak_of [(0, some 0), (1, some 1), (2, some 2), (3, some 3), (4, some 6)] rfl (by simp [upT, up, upL, push_cast, hk0, hR]) (by simp [upH, upR, upL, up, push_cast, hk0, hR]) (by simp [namesOk, push_cast]) (by simp [olds])
                · simp at hb
              · have hR : R = b := by rw [hR, hk0]; rfl
                refine awp_region cx [] fun K hK => ?_
                simp [push_cast, hk0]
                repeat (refine And.intro (by clear hK; intros; first | omega | (simp_all; done) | (simp_all <;> omega)) ?_)
                refine hK _ ?_; clear hK K; refine Nav.imp ?_
                refine awp_cond (b := true) (by simp [push_cast, hk0]) (fun hb => ?_) (fun hb => ?_) <;> (refine Nav.imp ?_)
                · refine awp_region cx [] fun K hK => ?_
                  simp [push_cast, hk0]
                  repeat (refine And.intro (by clear hK; intros; first | omega | (simp_all; done) | (simp_all <;> omega)) ?_)
                  refine hK _ ?_; clear hK K; refine Nav.imp ?_
                  refine awp_weak (s' := ⟨76, [(2, .d (.fn (.func g) [])), (3, .ptr 0 0 0), (4, .ptr 1 0 0), (6, .ptr 2 0 0), (7, .hs 3 0 Y.length), (9, .ptr 4 0 0), (27, .d (.agg [encRows a, encRows b])), (28, .d (.int .i64 k))], [(0, some ⟨24, 1, [(regRow a).map .d]⟩), (1, some ⟨24, 1, [(regRow b).map .d]⟩), (2, some ⟨24, 1, [[.nl]]⟩), (3, some ⟨3, 1, dr (Y.map iRow)⟩), (4, some ⟨24, 1, [(regRow R).map .d]⟩)], 5⟩) ?_ key.h
                  refine weak_of [(0, some 0), (1, some 1), (2, some 2), (3, some 3), (4, some 6)] rfl (by simp [upT, up, upL, push_cast, hk0, hR]) (by simp [upH, upR, upL, up, push_cast, hk0, hR]) (by simp [namesOk, push_cast]) (by simp [olds])
                · simp at hb
            · refine Nav.imp ?_
              refine awp_region cx [] fun K hK => ?_
              simp [push_cast]
              repeat (refine And.intro (by clear hK; intros; first | omega | (simp_all; done) | (simp_all <;> omega)) ?_)
              refine hK _ ?_; clear hK K; refine Nav.imp ?_
              refine awp_loop (β := Nat × List Int) (fun s => ⟨76, [(2, .d (.fn (.func g) [])), (3, .ptr 0 0 0), (4, .ptr 1 0 0), (6, .ptr 2 0 0), (7, .hs 3 0 s.2.length), (27, .d (.agg [encRows a, encRows b])), (28, .d (.int .i64 k)), (32, .d (encRows R)), (33, .d (.int .i64 R.length)), (34, .d (.int .i64 s.1))], [(0, some ⟨24, 1, [(regRow a).map .d]⟩), (1, some ⟨24, 1, [(regRow b).map .d]⟩), (2, some ⟨24, 1, [[.nl]]⟩), (3, some ⟨3, 1, dr (s.2.map iRow)⟩)], 4⟩) (fun s => s.1 ≤ R.length ∧ s.2 = Y ++ (R.take s.1).map Row.y) (fun s => R.length - s.1) (0, Y) ?_ ⟨Nat.zero_le _, by simp⟩ ?_
              · refine weak_of [(0, some 0), (1, some 1), (2, some 2), (3, some 3)] rfl (by simp [upT, up, upL, push_cast]) (by simp [upH, upR, upL, up, push_cast]) (by simp [namesOk, push_cast]) (by simp [olds])
              · rintro ⟨j, Z⟩ ⟨hj, hZ⟩
                simp only at hj hZ
                refine Nav.imp ?_
                refine awp_region cx [] fun K hK => ?_
                simp [push_cast]
                repeat (refine And.intro (by clear hK; intros; first | omega | (simp_all; done) | (simp_all <;> omega)) ?_)
                refine hK _ ?_; clear hK K; refine Nav.imp ?_
                refine awp_cond (b := decide ((j : Int) < R.length)) (by simp [push_cast]) (fun hb => ?_) (fun hb => ?_) <;> (refine Nav.imp ?_)
                · have hjl : j < R.length := by simpa using hb
                  obtain ⟨w, hw⟩ := getq hjl
                  have e1 := wrap_i64 (n := (j : Int) + 1) (by omega) (by omega)
                  have hZl : Z.length ≤ 2000000 := by rw [hZ]; simp; omega
                  have hZ8 : (Z.length + 1) * 8 ≤ 140737488355328 := by omega
                  have hnz : Y ++ (R.take (j + 1)).map Row.y = Z ++ [w.y] := by rw [take_get hw, List.map_append, hZ]; simp
                  obtain ⟨wy, wr⟩ := w
                  simp only at hnz
                  refine awp_region cx [] fun K hK => ?_
                  simp [push_cast, hw, Row.row]
                  repeat (refine And.intro (by clear hK; intros; first | omega | (simp_all; done) | (simp_all <;> omega)) ?_)
                  refine hK _ ?_; clear hK K; refine Nav.imp ?_
                  refine awp_region cx [] fun K hK => ?_
                  simp [push_cast, hZ8, Row.row]
                  repeat (refine And.intro (by clear hK; intros; first | omega | (simp_all; done) | (simp_all <;> omega)) ?_)
                  refine hK _ ?_; clear hK K; refine Nav.imp ?_
                  refine awp_region cx [] fun K hK => ?_
                  simp [push_cast, e1]
                  repeat (refine And.intro (by clear hK; intros; first | omega | (simp_all; done) | (simp_all <;> omega)) ?_)
                  refine hK _ ?_; clear hK K; refine Nav.imp ?_
                  refine ⟨(j + 1, Z ++ [wy]), ⟨hjl, hnz.symm⟩, by simp only; omega, ?_⟩
                  refine weak_of [(0, some 0), (1, some 1), (2, some 2), (3, some 13)] rfl (by simp [upT, up, upL, push_cast]) (by simp [upH, upR, upL, up, push_cast]) (by simp [namesOk, push_cast]) (by simp [olds])
                · have hjn : j = R.length := by simp at hb; omega
                  subst hjn
                  rw [List.take_length, ← hnx] at hZ
                  refine awp_region cx [] fun K hK => ?_
                  simp [push_cast, e0]
                  repeat (refine And.intro (by clear hK; intros; first | omega | (simp_all; done) | (simp_all <;> omega)) ?_)
                  refine hK _ ?_; clear hK K; refine Nav.imp ?_
                  refine ⟨(k + 1, Z), ⟨by simp only; omega, hZ⟩, by simp only; omega, ?_⟩
                  refine weak_of [(0, some 0), (1, some 1), (2, some 2), (3, some 3)] rfl (by simp [upT, up, upL, push_cast]) (by simp [upH, upR, upL, up, push_cast]) (by simp [namesOk, push_cast]) (by simp [olds])
          · have hk2 : k = 2 := by omega
            subst hk2
            have hY : Y = a.map Row.y ++ b.map Row.y := by rw [hY]; simp [ysK]
            have d1 := sortInts_px Y (by omega)
            have hsrt : (Y.mergeSort fun x y => decide (x ≤ y)) = allY a b := by rw [hY]; rfl
            rw [hsrt] at d1
            have hsl : (allY a b).length = Y.length := by rw [← hsrt]; exact List.length_mergeSort Y
            have d2 := compactInts_px (allY a b) (by omega)
            obtain ⟨q1, q2⟩ := compact_sorted (allY_le a b)
            have hcl := Go.Lib.compact_length_le (allY a b)
            have hres := hon (Go.Lib.compact (allY a b)) q1 (fun w hw => by
              rw [q2, (allY_perm a b).mem_iff, List.mem_append]
              rcases hw with h | h
              · exact .inl (List.mem_map_of_mem h)
              · exact .inr (List.mem_map_of_mem h))
            clear hon q1 q2 hsrt hY
            generalize allY a b = S at *
            generalize hC : Go.Lib.compact S = C at *
            generalize hZs : List.replicate (S.length - C.length) (0 : Int) = Zs at *
            have htk : List.take C.length ((C ++ Zs).map iRow) = C.map iRow := by rw [List.map_append, List.take_left' (by simp)]
            have hCl : C.length ≤ 2000000 := by omega
            have hCle : C.length ≤ (C ++ Zs).length := by simp
            generalize hE : C ++ Zs = E at *
            refine awp_region cx [] fun K hK => ?_
            simp [push_cast]
            repeat (refine And.intro (by clear hK; intros; first | omega | (simp_all; done) | (simp_all <;> omega)) ?_)
            refine hK _ ?_; clear hK K; refine Nav.imp ?_
            refine awp_cond (b := false) (by simp [push_cast]) (fun hb => ?_) (fun hb => ?_) <;> (refine Nav.imp ?_)
            · simp at hb
            · refine awp_region cx [(1, .x ⟨[(0, 3)], [.hs 0 0 Y.length], [(0, ⟨3, 1, dr (Y.map iRow)⟩)], [(0, 0)], none, [(0, ⟨3, 1, dr (S.map iRow)⟩)], .tup []⟩)] fun K hK => ?_
              simp [push_cast, d1]
              repeat (refine And.intro (by clear hK; intros; first | omega | (simp_all; done) | (simp_all <;> omega)) ?_)
              refine hK _ ?_; clear hK K; refine Nav.imp ?_
              rw [← hsl]
              refine awp_region cx [] fun K hK => ?_
              simp [push_cast]
              repeat (refine And.intro (by clear hK; intros; first | omega | (simp_all; done) | (simp_all <;> omega)) ?_)
              refine hK _ ?_; clear hK K; refine Nav.imp ?_
              refine awp_region cx [(1, .x ⟨[(0, 3)], [.hs 0 0 S.length], [(0, ⟨3, 1, dr (S.map iRow)⟩)], [(0, 0)], none, [(0, ⟨3, 1, dr (E.map iRow)⟩)], .hs 0 0 C.length⟩)] fun K hK => ?_
              simp [push_cast, d2]
              repeat (refine And.intro (by clear hK; intros; first | omega | (simp_all; done) | (simp_all <;> omega)) ?_)
              refine hK _ ?_; clear hK K; refine Nav.imp ?_
              refine awp_freeze 3 (E.map iRow) rfl (by simp [push_cast, htk]) fun K hK => ?_
              simp [push_cast, St.fz, fzT, fzH, fzO, fz, fzL, fzR, fzR_dr, fzR_app, fzR_set, fzL_map, htk]
              refine hK _ ?_; clear hK K; refine Nav.imp ?_
              refine awp_loop (β := Nat × List Row) (fun s => ⟨76, [(2, .d (.fn (.func g) [])), (3, .ptr 0 0 0), (4, .ptr 1 0 0), (6, .ptr 2 0 0), (12, .ptr 3 0 0), (48, .d (.sl (C.map iRow))), (49, .d (.int .i64 C.length)), (50, .d (.int .i64 s.1))], [(0, some ⟨24, 1, [(regRow a).map .d]⟩), (1, some ⟨24, 1, [(regRow b).map .d]⟩), (2, some ⟨24, 1, [[.nl]]⟩), (3, some ⟨24, 1, [[.hs 4 0 s.2.length]]⟩), (4, some ⟨42, 2, dr (s.2.map Row.row)⟩)], 5⟩) (fun s => s.1 ≤ C.length ∧ s.2 = opOn f a b (C.take s.1)) (fun s => C.length - s.1) (0, []) ?_ ⟨Nat.zero_le _, by simp [opOn]⟩ ?_
              · refine weak_of [(0, some 0), (1, some 1), (2, some 2), (3, some 7), (4, none)] rfl (by simp [upT, up, upL, push_cast, hCle]) (by simp [upH, upR, upL, up, push_cast, hCle]) (by simp [namesOk, push_cast]) (by simp [olds])
              · rintro ⟨k, Z⟩ ⟨hk, hZ⟩
                simp only at hk hZ
                refine Nav.imp ?_
                refine awp_region cx [] fun K hK => ?_
                simp [push_cast]
                repeat (refine And.intro (by clear hK; intros; first | omega | (simp_all; done) | (simp_all <;> omega)) ?_)
                refine hK _ ?_; clear hK K; refine Nav.imp ?_
                refine awp_cond (b := decide ((k : Int) < C.length)) (by simp [push_cast]) (fun hb => ?_) (fun hb => ?_) <;> (refine Nav.imp ?_)
                · have hlt : k < C.length := by simpa using hb
                  obtain ⟨y, hy⟩ := getq hlt
                  have e0 := wrap_i64 (n := (k : Int) + 1) (by omega) (by omega)
                  have hnx : opOn f a b (C.take (k + 1)) = Z ++ opRow f a b y := by rw [hZ]; unfold opOn; rw [flat_take _ hy]
                  have hZl : Z.length ≤ 2000000 := by
                    have : Z.length ≤ C.length := by rw [hZ]; exact take_flat_one' (opRow_len f a b) C k
                    omega
                  have hZ32 : (Z.length + 1) * 32 ≤ 140737488355328 := by omega
                  have g1 := row_ok a y hA ha
                  have g2 := row_ok b y hB hb0
                  have g3 := hg (rowOf a y) (rowOf b y) (rowOf_len hA y) (rowOf_len hB y) (rowOf_rv ha y) (rowOf_rv hb0 y)
                  have hl1 := rowOf_len hA y
                  have hl2 := rowOf_len hB y
                  have hsl2 := sweep_len f (rowOf a y) (rowOf b y)
                  have g4 := cloneR_ok (sweep f (rowOf a y) (rowOf b y)) (by omega)
                  have hor : opRow f a b y = if sweep f (rowOf a y) (rowOf b y) = [] then [] else [⟨y, sweep f (rowOf a y) (rowOf b y)⟩] := rfl
                  rw [hor] at hnx
                  clear hor hl1 hl2 hsl2
                  generalize sweep f (rowOf a y) (rowOf b y) = r at *
                  generalize rowOf a y = ra at *
                  generalize rowOf b y = rb at *
                  refine awp_region cx [] fun K hK => ?_
                  simp [push_cast, hy]
                  repeat (refine And.intro (by clear hK; intros; first | omega | (simp_all; done) | (simp_all <;> omega)) ?_)
                  refine hK _ ?_; clear hK K; refine Nav.imp ?_
                  refine awp_region_draw cx mixed [(3, .p (encRuns ra)), (6, .p (encRuns rb)), (7, .p (encRuns r))] fun K hK => ?_
                  simp [push_cast, g1, g2, g3]
                  repeat (refine And.intro (by clear hK; intros; first | omega | (simp_all; done) | (simp_all <;> omega)) ?_)
                  refine hK _ _ (by kernel_rfl) ?_; clear hK K; refine Nav.imp ?_
                  refine awp_region cx [] fun K hK => ?_
                  simp [push_cast]
                  repeat (refine And.intro (by clear hK; intros; first | omega | (simp_all; done) | (simp_all <;> omega)) ?_)
                  refine hK _ ?_; clear hK K; refine Nav.imp ?_
                  refine awp_cond (b := decide (0 < (r.length : Int))) (by simp [push_cast]) (fun hb => ?_) (fun hb => ?_) <;> (refine Nav.imp ?_)
                  · have hb : 0 < r.length := by simp at hb; omega
                    have hne : r ≠ [] := List.length_pos_iff.1 hb
                    rw [if_neg hne] at hnx
                    refine awp_region_draw cx mixed [(4, .f (encRuns r))] fun K hK => ?_
                    simp [push_cast, g4, hZ32]
                    repeat (refine And.intro (by clear hK; intros; first | omega | (simp_all; done) | (simp_all <;> omega)) ?_)
                    refine hK _ _ (by kernel_rfl) ?_; clear hK K; refine Nav.imp ?_
                    refine awp_region cx [] fun K hK => ?_
                    simp [push_cast, e0]
                    repeat (refine And.intro (by clear hK; intros; first | omega | (simp_all; done) | (simp_all <;> omega)) ?_)
                    refine hK _ ?_; clear hK K; refine Nav.imp ?_
                    refine ⟨(k + 1, Z ++ [⟨y, r⟩]), ⟨hlt, hnx.symm⟩, by simp only; omega, ?_⟩
                    refine weak_of [(0, some 0), (1, some 1), (2, some 2), (3, some 3), (4, some 28)] rfl (by simp [upT, up, upL, push_cast, Row.row]) (by simp [upH, upR, upL, up, push_cast, Row.row]) (by simp [namesOk, push_cast]) (by simp [olds])
                  · have hb : r = [] := by simpa using hb
                    rw [if_pos hb, List.append_nil] at hnx
                    refine awp_region cx [] fun K hK => ?_
                    simp [push_cast, e0]
                    repeat (refine And.intro (by clear hK; intros; first | omega | (simp_all; done) | (simp_all <;> omega)) ?_)
                    refine hK _ ?_; clear hK K; refine Nav.imp ?_
                    refine ⟨(k + 1, Z), ⟨hlt, hnx.symm⟩, by simp only; omega, ?_⟩
                    refine weak_of [(0, some 0), (1, some 1), (2, some 2), (3, some 3), (4, some 4)] rfl (by simp [upT, up, upL, push_cast, Row.row]) (by simp [upH, upR, upL, up, push_cast, Row.row]) (by simp [namesOk, push_cast]) (by simp [olds])
                · have hge : k = C.length := by simp at hb; omega
                  subst hge
                  rw [List.take_length, hres] at hZ
                  subst hZ
                  refine awp_freeze 4 (Z.map Row.row) rfl (by simp [push_cast, Row.row]) fun K hK => ?_
                  simp [push_cast, St.fz, fzT, fzH, fzO, fz, fzL, fzR, fzR_dr, fzR_app, fzR_set, fzL_map, Row.row]
                  refine hK _ ?_; clear hK K; refine Nav.imp ?_
                  refine awp_region cx [] fun K hK => ?_
                  simp [push_cast]
                  repeat (refine And.intro (by clear hK; intros; first | omega | (simp_all; done) | (simp_all <;> omega)) ?_)
                  refine hK _ ?_; clear hK K; refine Nav.imp ?_
                  simp [push_cast]

theorem unionR_big (a b : List Row) (hA : bigR a) (hB : bigR b) : PC Try.prog 22 [.agg (regRow a), .agg (regRow b)] (.p (.agg (regRow (opR fU a b)))) := by
  have c1 := combine_big fU rfl 46 (fun x y h1 h2 h3 h4 => union_ok x y h1 h2 h3 h4) a b hA hB
  generalize opR fU a b = r at *
  refine pc_of_awp cx (fn := Try.f22) (c := _) Try.func22 rfl rfl (Nat.le_of_ble_eq_true rfl) ?_
  rw [Try.ntmps22]; refine Nav.imp ?_
  refine awp_region cx [] fun K hK => ?_
  simp [push_cast]
  repeat (refine And.intro (by clear hK; intros; first | omega | (simp_all; done) | (simp_all <;> omega)) ?_)
  refine hK _ ?_; clear hK K; refine Nav.imp ?_
  refine awp_region cx [(2, .p (.agg (regRow r)))] fun K hK => ?_
  simp [push_cast, c1]
  repeat (refine And.intro (by clear hK; intros; first | omega | (simp_all; done) | (simp_all <;> omega)) ?_)
  refine hK _ ?_; clear hK K; refine Nav.imp ?_
  simp [push_cast]
theorem intersectR_big (a b : List Row) (hA : bigR a) (hB : bigR b) : PC Try.prog 24 [.agg (regRow a), .agg (regRow b)] (.p (.agg (regRow (opR fI a b)))) := by
  have c1 := combine_big fI rfl 48 (fun x y h1 h2 h3 h4 => intersect_ok x y h1 h2 h3 h4) a b hA hB
  generalize opR fI a b = r at *
  refine pc_of_awp cx (fn := Try.f24) (c := _) Try.func24 rfl rfl (Nat.le_of_ble_eq_true rfl) ?_
  rw [Try.ntmps24]; refine Nav.imp ?_
  refine awp_region cx [] fun K hK => ?_
  simp [push_cast]
  repeat (refine And.intro (by clear hK; intros; first | omega | (simp_all; done) | (simp_all <;> omega)) ?_)
  refine hK _ ?_; clear hK K; refine Nav.imp ?_
  refine awp_region cx [(2, .p (.agg (regRow r)))] fun K hK => ?_
  simp [push_cast, c1]
  repeat (refine And.intro (by clear hK; intros; first | omega | (simp_all; done) | (simp_all <;> omega)) ?_)
  refine hK _ ?_; clear hK K; refine Nav.imp ?_
  simp [push_cast]
theorem subtractR_big (a b : List Row) (hA : bigR a) (hB : bigR b) : PC Try.prog 49 [.agg (regRow a), .agg (regRow b)] (.p (.agg (regRow (opR fD a b)))) := by
  have c1 := combine_big fD rfl 77 (fun x y h1 h2 h3 h4 => subtract_ok x y h1 h2 h3 h4) a b hA hB
  generalize opR fD a b = r at *
  refine pc_of_awp cx (fn := Try.f49) (c := _) Try.func49 rfl rfl (Nat.le_of_ble_eq_true rfl) ?_
  rw [Try.ntmps49]; refine Nav.imp ?_
  refine awp_region cx [] fun K hK => ?_
  simp [push_cast]
  repeat (refine And.intro (by clear hK; intros; first | omega | (simp_all; done) | (simp_all <;> omega)) ?_)
  refine hK _ ?_; clear hK K; refine Nav.imp ?_
  refine awp_region cx [(2, .p (.agg (regRow r)))] fun K hK => ?_
  simp [push_cast, c1]
  repeat (refine And.intro (by clear hK; intros; first | omega | (simp_all; done) | (simp_all <;> omega)) ?_)
  refine hK _ ?_; clear hK K; refine Nav.imp ?_
  simp [push_cast]
theorem unionR_ok (a b : List Row) (hA : smallR a) (hB : smallR b) : PC Try.prog 22 [.agg (regRow a), .agg (regRow b)] (.p (.agg (regRow (opR fU a b)))) := unionR_big a b (big_of hA) (big_of hB)
theorem intersectR_ok (a b : List Row) (hA : smallR a) (hB : smallR b) : PC Try.prog 24 [.agg (regRow a), .agg (regRow b)] (.p (.agg (regRow (opR fI a b)))) := intersectR_big a b (big_of hA) (big_of hB)
end Go.Proofs.Ytagakfaiimaifaa

set_option linter.unusedVariables false
set_option linter.unusedSimpArgs false
namespace Go.Abs
open Go.RowKit

/-- The inner slices' objects: elements of type e, m cells each; the k-th is called 1000000 + k. -/
def dyn (e : TypeId) (m : Nat) : Nat → List (List (List D)) → List (Nat × Option Ob)
  | _, [] => []
  | k, r :: S => (1000000 + k, some ⟨e, m, dr r⟩) :: dyn e m (k + 1) S
def dynP (e : TypeId) (m : Nat) : Nat → List (List (List D)) → List (Nat × Ob)
  | _, [] => []
  | k, r :: S => (1000000 + k, ⟨e, m, dr r⟩) :: dynP e m (k + 1) S
def dynN : Nat → List Nat → List (Nat × Option Nat)
  | _, [] => []
  | k, x :: r => (1000000 + k, some x) :: dynN (k + 1) r
def dynI : Nat → Nat → List (Nat × Nat)
  | _, 0 => []
  | k, n + 1 => (1000000 + k, 1000000 + k) :: dynI (k + 1) n
/-- The outer slice's rows: a slice each, over the objects called ids. -/
def rowsAt (ids lens : List Nat) : List (List AV) := List.zipWith (fun x l => [AV.hs x 0 l]) ids lens
def idsN (n : Nat) : List Nat := (List.range n).map fun k => 1000000 + k

section
variable {e : TypeId} {m : Nat}
theorem find_dyn : ∀ (S : List (List (List D))) (k i : Nat), find (dyn e m k S) i = if 1000000 + k ≤ i then (S[i - (1000000 + k)]?).map (fun r => some ⟨e, m, dr r⟩) else none
  | [], k, i => by simp [dyn, find]
  | r :: S, k, i => by
    simp only [dyn, find]
    by_cases h : 1000000 + k = i
    · subst h; simp
    · rw [if_neg h, find_dyn S (k + 1) i]
      by_cases h2 : 1000000 + k ≤ i
      · rw [if_pos h2, if_pos (by omega), show i - (1000000 + k) = (i - (1000000 + (k + 1))) + 1 by omega, List.getElem?_cons_succ]
      · rw [if_neg h2, if_neg (by omega)]
theorem find_dyn0 (S : List (List (List D))) (j : Nat) : find (dyn e m 0 S) (1000000 + j) = (S[j]?).map (fun r => some ⟨e, m, dr r⟩) := by
  rw [find_dyn, if_pos (by omega), show 1000000 + j - (1000000 + 0) = j by omega]
theorem find_dynN : ∀ (S : List Nat) (k i : Nat), find (dynN k S) i = if 1000000 + k ≤ i then (S[i - (1000000 + k)]?).map some else none
  | [], k, i => by simp [dynN, find]
  | r :: S, k, i => by
    simp only [dynN, find]
    by_cases h : 1000000 + k = i
    · subst h; simp
    · rw [if_neg h, find_dynN S (k + 1) i]
      by_cases h2 : 1000000 + k ≤ i
      · rw [if_pos h2, if_pos (by omega), show i - (1000000 + k) = (i - (1000000 + (k + 1))) + 1 by omega, List.getElem?_cons_succ]
      · rw [if_neg h2, if_neg (by omega)]
theorem find_dynN0 (S : List Nat) (j : Nat) : find (dynN 0 S) (1000000 + j) = (S[j]?).map some := by
  rw [find_dynN, if_pos (by omega), show 1000000 + j - (1000000 + 0) = j by omega]
end

theorem find_app {α : Type} (x : Nat) : ∀ (a b : List (Nat × α)), find (a ++ b) x = (find a x).or (find b x) := find_append' x
theorem find_lowN {α : Type} {x b : Nat} : ∀ {l : List (Nat × α)}, (l.all fun y => Nat.blt y.1 b) = true → b ≤ x → find l x = none
  | [], _, _ => rfl
  | (k, v) :: r, h, hx => by
    simp only [List.all_cons, Bool.and_eq_true] at h
    have h1 : k < b := Nat.le_of_ble_eq_true h.1
    simp only [find]
    rw [if_neg (by omega)]
    exact find_lowN h.2 hx

theorem idsN_length (n : Nat) : (idsN n).length = n := by simp [idsN]
theorem idsN_get {n k : Nat} (h : k < n) : (idsN n)[k]? = some (1000000 + k) := by simp [idsN, h]
theorem idsN_get' {n k x : Nat} (h : (idsN n)[k]? = some x) : k < n ∧ x = 1000000 + k := by
  have hk : k < n := by have := (List.getElem?_eq_some_iff.1 h).1; simpa [idsN] using this
  rw [idsN_get hk] at h
  exact ⟨hk, by cases h; rfl⟩
theorem idsN_succ (n : Nat) : idsN (n + 1) = idsN n ++ [1000000 + n] := by simp [idsN, List.range_succ]
theorem idsN_mem {n x : Nat} : x ∈ idsN n ↔ 1000000 ≤ x ∧ x < 1000000 + n := by
  simp only [idsN, List.mem_map, List.mem_range]
  constructor
  · rintro ⟨k, hk, rfl⟩; omega
  · intro h; exact ⟨x - 1000000, by omega, by omega⟩
theorem idsN_nodup (n : Nat) : (idsN n).Nodup := by
  induction n with
  | zero => simp [idsN]
  | succ n ih =>
    rw [idsN_succ, List.nodup_append]
    exact ⟨ih, by simp, fun a ha b hb => by have := idsN_mem.1 ha; simp at hb; omega⟩
theorem rowsAt_length {ids lens : List Nat} (h : ids.length = lens.length) : (rowsAt ids lens).length = lens.length := by simp [rowsAt, h]
theorem rowsAt_get {ids lens : List Nat} {k x l : Nat} (h1 : ids[k]? = some x) (h2 : lens[k]? = some l) : (rowsAt ids lens)[k]? = some [.hs x 0 l] := by
  simp [rowsAt, List.getElem?_zipWith, h1, h2]
theorem rowsAt_get' {ids lens : List Nat} {k : Nat} {r : List AV} (h : (rowsAt ids lens)[k]? = some r) : ∃ x l, ids[k]? = some x ∧ lens[k]? = some l ∧ r = [.hs x 0 l] := by
  simp only [rowsAt, List.getElem?_zipWith] at h
  cases h1 : ids[k]? <;> cases h2 : lens[k]? <;> simp [h1, h2] at h
  exact ⟨_, _, rfl, rfl, h.symm⟩
theorem rowsAt_app {ids lens : List Nat} (h : ids.length = lens.length) (x l : Nat) : rowsAt ids lens ++ [[.hs x 0 l]] = rowsAt (ids ++ [x]) (lens ++ [l]) := by
  simp only [rowsAt]
  rw [List.zipWith_append h]; rfl

theorem upR_of {σ : List (Nat × Option Nat)} : ∀ {x y : List (List AV)}, x.length = y.length → (∀ (i : Nat) (r q : List AV), x[i]? = some r → y[i]? = some q → upL σ r = some q) → upR σ x = some y
  | [], [], _, _ => rfl
  | [], _ :: _, h, _ => by simp at h
  | _ :: _, [], h, _ => by simp at h
  | a :: x, b :: y, h, hg => by
    have h1 := hg 0 a b rfl rfl
    have h2 := upR_of (x := x) (y := y) (by simpa using h) fun i r q hr hq => hg (i + 1) r q (by simpa using hr) (by simpa using hq)
    simp [upR, h1, h2]
theorem upR_rows {σ0 : List (Nat × Option Nat)} (hlow : (σ0.all fun x => Nat.blt x.1 1000000) = true) {ns lens : List Nat} (h : ns.length = lens.length) : upR (σ0 ++ dynN 0 ns) (rowsAt (idsN lens.length) lens) = some (rowsAt ns lens) := by
  refine upR_of (by rw [rowsAt_length (by rw [idsN_length]), rowsAt_length h]) fun i r q hr hq => ?_
  obtain ⟨x, l, h1, h2, rfl⟩ := rowsAt_get' hr
  obtain ⟨y, l', h3, h4, rfl⟩ := rowsAt_get' hq
  obtain ⟨hk, rfl⟩ := idsN_get' h1
  rw [h2] at h4
  cases h4
  simp [upL, up, find_app, find_lowN hlow (show 1000000 ≤ 1000000 + i by omega), find_dynN0, h3]
theorem upH_app {σ : List (Nat × Option Nat)} {s : St} : ∀ {a b : List (Nat × Option Ob)}, upH σ s a → upH σ s b → upH σ s (a ++ b)
  | [], b, _, h => h
  | (k, some o) :: a, b, ha, hb => by
    simp only [List.cons_append, upH] at ha ⊢
    exact ⟨ha.1, upH_app ha.2 hb⟩
  | (k, none) :: a, b, ha, hb => by
    simp only [List.cons_append, upH] at ha ⊢
    exact upH_app ha hb
theorem upH_dyn {σ : List (Nat × Option Nat)} {s : St} {e : TypeId} {m : Nat} : ∀ {S : List (List (List D))} {k : Nat}, (∀ (j : Nat) (r : List (List D)), S[j]? = some r → ∃ x o0, find σ (1000000 + (k + j)) = some (some x) ∧ s.obj x = some o0 ∧ o0.elem = e ∧ o0.m = m ∧ o0.rows = dr r) → upH σ s (dyn e m k S)
  | [], k, _ => trivial
  | r :: S, k, h => by
    simp only [dyn, upH]
    obtain ⟨x, o0, h1, h2, h3, h4, h5⟩ := h 0 r rfl
    refine ⟨?_, upH_dyn fun j r' hr => ?_⟩
    · rw [Nat.add_zero] at h1
      rw [h1]
      exact ⟨o0, h2, h3, h4, by rw [h5]; exact upR_dr σ r⟩
    · have := h (j + 1) r' (by simpa using hr)
      rwa [show k + (j + 1) = k + 1 + j by omega] at this
theorem namesOk_app {s' : St} : ∀ {a b : List (Nat × Option Nat)}, namesOk s' a → namesOk s' b → namesOk s' (a ++ b)
  | [], b, _, h => h
  | (k, v) :: a, b, ha, hb => by
    simp only [List.cons_append, namesOk] at ha ⊢
    exact ⟨ha.1, ha.2.1, namesOk_app ha.2.2 hb⟩
theorem namesOk_dyn {s' : St} : ∀ {ns : List Nat} {k : Nat}, (∀ j, j < ns.length → (s'.obj (1000000 + (k + j))).isSome = true ∧ 1000000 + (k + j) < s'.nxt) → namesOk s' (dynN k ns)
  | [], k, _ => trivial
  | x :: r, k, h => by
    simp only [dynN, namesOk]
    have h0 := h 0 (by simp)
    refine ⟨h0.1, h0.2, namesOk_dyn fun j hj => ?_⟩
    have := h (j + 1) (by simpa using hj)
    rwa [show k + (j + 1) = k + 1 + j by omega] at this
theorem olds_app : ∀ (a b : List (Nat × Option Nat)), olds (a ++ b) = olds a ++ olds b
  | [], b => rfl
  | (k, some x) :: a, b => by simp [olds, olds_app a b]
  | (k, none) :: a, b => by simp [olds, olds_app a b]
theorem olds_dyn : ∀ (ns : List Nat) (k : Nat), olds (dynN k ns) = ns
  | [], k => rfl
  | x :: r, k => by simp [dynN, olds, olds_dyn r]

/-- A STATE SEEN AS ANOTHER, with inner slices: ns are the names that they had. -/
theorem weak_dyn {s : St} {n : Nat} {tm : List (Nat × AV)} {nxt : Nat} {e : TypeId} {m : Nat} (σ0 : List (Nat × Option Nat)) (ns : List Nat) (H0 : List (Nat × Option Ob)) (S : List (List (List D)))
    (hlow : (σ0.all fun x => Nat.blt x.1 1000000) = true) (hlow2 : (H0.all fun x => Nat.blt x.1 1000000) = true) (hnx : 1000000 + S.length ≤ nxt) (hlen : ns.length = S.length)
    (hn : n = s.n) (htm : upT (σ0 ++ dynN 0 ns) s tm) (hh : upH (σ0 ++ dynN 0 ns) s H0) (hnm : namesOk ⟨n, tm, H0, nxt⟩ σ0)
    (ho : (olds σ0).Nodup) (hns : ns.Nodup) (hd : ∀ x ∈ ns, x ∉ olds σ0)
    (hS : ∀ (j : Nat) (r : List (List D)) (x : Nat), S[j]? = some r → ns[j]? = some x → s.obj x = some ⟨e, m, dr r⟩) : Weak s ⟨n, tm, H0 ++ dyn e m 0 S, nxt⟩ := by
  have hget : ∀ x, find (σ0 ++ dynN 0 ns) x = (find σ0 x).or (find (dynN 0 ns) x) := fun x => find_app x _ _
  refine weak_of (σ0 ++ dynN 0 ns) hn htm (upH_app hh (upH_dyn fun j r hr => ?_)) (namesOk_app ?_ (namesOk_dyn fun j hj => ?_)) ?_
  · have hj : j < ns.length := by rw [hlen]; exact (List.getElem?_eq_some_iff.1 hr).1
    have hx : ns[j]? = some ns[j] := List.getElem?_eq_getElem hj
    refine ⟨ns[j], _, ?_, hS j r _ hr hx, rfl, rfl, rfl⟩
    rw [hget, find_lowN hlow (by omega), Nat.zero_add, find_dynN0, hx]; rfl
  · have key : ∀ (σ : List (Nat × Option Nat)), namesOk ⟨n, tm, H0, nxt⟩ σ → namesOk ⟨n, tm, H0 ++ dyn e m 0 S, nxt⟩ σ := by
      intro σ
      induction σ with
      | nil => intro _; trivial
      | cons p r ih =>
        obtain ⟨k, v⟩ := p
        intro h
        simp only [namesOk] at h ⊢
        refine ⟨?_, h.2.1, ih h.2.2⟩
        have h1 := h.1
        simp only [St.obj] at h1 ⊢
        rw [find_app]
        cases hf : find H0 k with
        | none => rw [hf] at h1; simp at h1
        | some o => rw [hf] at h1; simpa using h1
    exact key σ0 hnm
  · have hj' : j < S.length := by omega
    refine ⟨?_, by simp only; omega⟩
    simp only [St.obj]
    rw [find_app, find_lowN hlow2 (by omega), Nat.zero_add, find_dyn0, List.getElem?_eq_getElem hj']; rfl
  · rw [olds_app, olds_dyn, List.nodup_append]
    exact ⟨ho, hns, fun a ha b hb hab => hd b hb (hab ▸ ha)⟩

/-- States that say the same. -/
theorem weak_ext {s s' : St} (hn : s'.n = s.n) (h1 : ∀ t, s'.get t = s.get t) (h2 : ∀ x, s'.obj x = s.obj x) (h3 : s.nxt ≤ s'.nxt) : Weak s s' := by
  intro g a w hr
  refine ⟨g, ?_, Step.refl g w⟩
  have := Rel.congr hr h1 h2
  exact ⟨this.defers, by rw [hn]; exact this.size, this.tmp, fun id hu => Nat.lt_of_lt_of_le (this.used id hu) h3, this.heap⟩

theorem fzH_dyn {e : TypeId} {m : Nat} (id : Nat) (rs : List (List D)) : ∀ (S : List (List (List D))) (k : Nat), fzH id rs (dyn e m k S) = dyn e m k S
  | [], k => rfl
  | r :: S, k => by
    have h := fzH_dyn (e := e) (m := m) id rs S (k + 1)
    simp only [dyn, fzH] at h ⊢
    rw [h, fzO, fzR_dr]

/-- The rows of the outer slice, the first k of them plain data. -/
def mixR (S : List (List (List D))) (k : Nat) : List (List AV) := dr ((S.take k).map fun r => [D.sl r]) ++ rowsAt ((idsN S.length).drop k) ((S.map List.length).drop k)
theorem mixR_all (S : List (List (List D))) : mixR S S.length = dr (S.map fun r => [D.sl r]) := by
  have : (idsN S.length).drop S.length = [] := by rw [List.drop_eq_nil_iff]; simp [idsN]
  simp only [mixR, List.take_length, this]
  simp [rowsAt]
theorem mixR_zero (S : List (List (List D))) : mixR S 0 = rowsAt (idsN S.length) (S.map List.length) := by simp [mixR, dr]
theorem fzR_appA (id : Nat) (rs : List (List D)) : ∀ (a b : List (List AV)), fzR id rs (a ++ b) = fzR id rs a ++ fzR id rs b
  | [], b => rfl
  | x :: a, b => by simp only [List.cons_append, fzR, fzR_appA id rs a b]
theorem fzR_keep (id : Nat) (rs : List (List D)) : ∀ {x : List (List AV)}, (∀ (i : Nat) (r : List AV), x[i]? = some r → fzL id rs r = r) → fzR id rs x = x
  | [], _ => rfl
  | a :: x, hg => by
    have h1 := hg 0 a rfl
    have h2 := fzR_keep id rs (x := x) fun i r hr => hg (i + 1) r (by simpa using hr)
    simp [fzR, h1, h2]
theorem mixR_step {S : List (List (List D))} {k : Nat} {r : List (List D)} (h : S[k]? = some r) : fzR (1000000 + k) r (mixR S k) = mixR S (k + 1) := by
  have hk : k < S.length := (List.getElem?_eq_some_iff.1 h).1
  have h1 : (idsN S.length).drop k = (1000000 + k) :: (idsN S.length).drop (k + 1) := by
    rw [List.drop_eq_getElem_cons (by rw [idsN_length]; exact hk)]
    congr 1
    have := idsN_get hk
    rw [List.getElem?_eq_getElem (by rw [idsN_length]; exact hk)] at this
    exact Option.some.inj this
  have h2 : (S.map List.length).drop k = r.length :: (S.map List.length).drop (k + 1) := by
    rw [List.drop_eq_getElem_cons (by simpa using hk)]
    congr 1
    rw [List.getElem_map]
    rw [List.getElem?_eq_getElem hk] at h
    rw [Option.some.inj h]
  have h3 : S.take (k + 1) = S.take k ++ [r] := by rw [List.take_add_one, h]; rfl
  unfold mixR
  rw [h1, h2, h3, fzR_appA, fzR_dr, List.map_append, List.map_cons, List.map_nil]
  rw [show rowsAt ((1000000 + k) :: (idsN S.length).drop (k + 1)) (r.length :: (S.map List.length).drop (k + 1)) = [AV.hs (1000000 + k) 0 r.length] :: rowsAt ((idsN S.length).drop (k + 1)) ((S.map List.length).drop (k + 1)) from rfl]
  simp only [fzR]
  rw [fzR_keep]
  · simp [fzL, fz, dr]
  · intro i q hq
    obtain ⟨x, l, q1, q2, rfl⟩ := rowsAt_get' hq
    rw [List.getElem?_drop] at q1
    obtain ⟨_, rfl⟩ := idsN_get' q1
    simp only [fzL, fz]
    rw [if_neg (by omega)]

/-- Nothing but data, the outer slice and what is not looked at. -/
def tmLow : List (Nat × AV) → Bool
  | [] => true
  | (_, .d _) :: r => tmLow r
  | (_, .any) :: r => tmLow r
  | (_, .nl) :: r => tmLow r
  | (_, .hs i _ _) :: r => Nat.blt i 1000000 && tmLow r
  | (_, .ptr i _ _) :: r => Nat.blt i 1000000 && tmLow r
  | _ :: _ => false
theorem fzT_low {id : Nat} (hid : 1000000 ≤ id) (rs : List (List D)) : ∀ {tm : List (Nat × AV)}, tmLow tm = true → fzT id rs tm = tm
  | [], _ => rfl
  | (t, v) :: r, h => by
    cases v <;> simp only [tmLow, Bool.and_eq_true] at h <;> try (cases h; done)
    all_goals simp only [fzT, fz]
    case any => rw [fzT_low hid rs h]
    case nl => rw [fzT_low hid rs h]
    case d => rw [fzT_low hid rs h]
    case hs =>
      have h1 : _ < 1000000 := Nat.le_of_ble_eq_true h.1
      rw [fzT_low hid rs h.2, if_neg (by omega)]
    case ptr =>
      have h1 : _ < 1000000 := Nat.le_of_ble_eq_true h.1
      rw [fzT_low hid rs h.2, if_neg (by omega)]

/-- All inner slices become plain data. -/
theorem weak_fzdyn {n : Nat} {tm : List (Nat × AV)} {nxt id eo mo : Nat} {e : TypeId} {m : Nat} (hid : id < 1000000) (htm : tmLow tm = true) (S : List (List (List D))) :
    Weak ⟨n, tm, (id, some ⟨eo, mo, rowsAt (idsN S.length) (S.map List.length)⟩) :: dyn e m 0 S, nxt⟩ ⟨n, tm, [(id, some ⟨eo, mo, dr (S.map fun r => [D.sl r])⟩)], nxt⟩ := by
  have step : ∀ k, k ≤ S.length → Weak ⟨n, tm, (id, some ⟨eo, mo, mixR S 0⟩) :: dyn e m 0 S, nxt⟩ ⟨n, tm, (id, some ⟨eo, mo, mixR S k⟩) :: dyn e m k (S.drop k), nxt⟩ := by
    intro k
    induction k with
    | zero => intro _; exact Weak.refl _
    | succ k ih =>
      intro hk
      refine Weak.trans (ih (by omega)) ?_
      have hr : S[k]? = some S[k] := List.getElem?_eq_getElem (by omega)
      have hdk : S.drop k = S[k] :: S.drop (k + 1) := List.drop_eq_getElem_cons (by omega)
      rw [hdk]
      simp only [dyn]
      refine Weak.trans (weak_freeze (1000000 + k) S[k] (o := ⟨e, m, dr S[k]⟩) (by simp only [St.obj, find]; rw [if_neg (by omega)]; simp) (rowsD_dr _)) ?_
      refine weak_ext rfl (fun t => ?_) (fun x => ?_) (Nat.le_refl _)
      · simp only [St.get, St.fz]; rw [fzT_low (by omega) _ htm]
      · simp only [St.obj, St.fz, fzH, fzO, find, mixR_step hr, fzH_dyn, find_dyn]
        by_cases h1 : id = x
        · subst h1; rw [if_pos rfl, if_neg (by omega), if_pos rfl]
        · rw [if_neg h1, if_neg h1]
          by_cases h2 : 1000000 + k = x
          · subst h2; rw [if_pos rfl, if_neg (by omega)]; rfl
          · rw [if_neg h2, if_neg h2]
  have h := step S.length (Nat.le_refl _)
  rw [mixR_zero, mixR_all, List.drop_length] at h
  exact h

/-! ### A region whose order is drawn, its orders gone through one by one; its last operations: a call that makes inner slices, and what follows it. -/
inductive Tr where
  | leaf
  | stop
  | alt (i : Nat) (t u : Tr)
def Tr.heads : Tr → List Nat
  | .alt i _ u => i :: u.heads
  | _ => []
def seqOk (ops : Array Oper) : Nat → Array Bool → Nat → Bool
  | 0, listed, k => (Region.ready .any ops listed).isEmpty
  | f + 1, listed, k => decide (Region.ready .any ops listed = [k]) && seqOk ops f (listed.setIfInBounds k true) (k + 1)
def trOk (ops : Array Oper) (d m : Nat) : Bool → Nat → Array Bool → Tr → Bool
  | top, fuel, listed, .leaf => top && decide (fuel = m) && seqOk ops m listed d
  | top, fuel, listed, .stop => !top
  | top, f + 1, listed, .alt i t u => (!top || decide (Region.ready .any ops listed = i :: u.heads)) && trOk ops d m true f (listed.setIfInBounds i true) t && trOk ops d m false (f + 1) listed u
  | _, 0, _, .alt _ _ _ => false

section
variable (ty : TypeId → Option TI) (P : Program) (orc : List (Nat × Res)) (l : List Oper)
def stepE (i : Nat) (s : St) (K : St → Prop) : Prop :=
  match l[i]? with
  | some o => o.guard = none ∧ (match eff ty P (find orc i) o.op s.obj s.nxt (o.op.operands.toList.map s.eval) with
    | some e => e.ob ∧ (match o.dst with | some d => d < s.n | none => True) ∧ K { s.app o.dst e with nxt := s.nxt + 1 }
    | none => False)
  | none => False
def wpTr : Tr → St → (St → Prop) → Prop
  | .leaf, s, K => K s
  | .stop, _, _ => True
  | .alt i t u, s, K => stepE ty P orc l i s (fun s' => wpTr t s' K) ∧ wpTr u s K
end

/-- The contract's objects: an outer slice and its inner ones. -/
def nestP (eo e m : Nat) (S : List (List (List D))) : List (Nat × Ob) := (0, ⟨eo, 1, rowsAt (idsN S.length) (S.map List.length)⟩) :: dynP e m 0 S
def nestH (eo e m : Nat) (S : List (List (List D))) : List (Nat × Option Ob) := (999999, some ⟨eo, 1, rowsAt (idsN S.length) (S.map List.length)⟩) :: dyn e m 0 S

section
variable {P : Program} {ty : TypeId → Option TI} {orc : List (Nat × Res)} {l pre post : List Oper} {o : Oper} {cl : Call} {fo : Operand} {I s1 : St} {f : FuncId} {caps av : List AV} {eo e m : Nat} {S : List (List (List D))} {Q : Exit → St → Prop} {g g1 : G} {w w1 : World} {a1 : Act}
end

end Go.Abs

set_option linter.unusedVariables false
set_option linter.unusedSimpArgs false
set_option maxRecDepth 100000
namespace Go.Proofs.Ytagakfaiimaifaa
open Go.Abs

def spD (L : List (List Cell)) : List (List (List D)) := L.map fun l => l.map Cell.row
theorem spD_length (L : List (List Cell)) : (spD L).length = L.length := by simp [spD]
theorem spD_lens (L : List (List Cell)) : (spD L).map List.length = L.map List.length := by simp [spD, Function.comp_def]
theorem spD_app (L K : List (List Cell)) : spD (L ++ K) = spD L ++ spD K := by simp [spD]
/-- The outer slice's rows. -/
def outR (L : List (List Cell)) : List (List AV) := rowsAt (idsN L.length) (L.map List.length)
theorem outR_length (L : List (List Cell)) : (outR L).length = L.length := by simp [outR, rowsAt_length, idsN_length]
theorem outR_nil : outR [] = [] := rfl
theorem outR_eq (L : List (List Cell)) : outR L = rowsAt (idsN (spD L).length) ((spD L).map List.length) := by rw [spD_length, spD_lens]; rfl
theorem upR_out {σ0 : List (Nat × Option Nat)} (hlow : (σ0.all fun x => Nat.blt x.1 1000000) = true) (L : List (List Cell)) : upR (σ0 ++ dynN 0 (idsN (spD L).length)) (outR L) = some (outR L) := by
  have := upR_rows (ns := idsN L.length) (lens := L.map List.length) hlow (by simp [idsN_length])
  rw [List.length_map] at this
  rw [spD_length]
  exact this

theorem upR_out1 {σ0 : List (Nat × Option Nat)} (hlow : (σ0.all fun x => Nat.blt x.1 1000000) = true) (L : List (List Cell)) (l : List Cell) (z : Nat) : upR (σ0 ++ dynN 0 (idsN L.length ++ [z])) (outR (L ++ [l])) = some (outR L ++ [[.hs z 0 l.length]]) := by
  have := upR_rows (ns := idsN L.length ++ [z]) (lens := (L ++ [l]).map List.length) hlow (by simp [idsN_length])
  rw [List.length_map] at this
  unfold outR
  rw [rowsAt_app (by simp [idsN_length]), this, List.map_append]; rfl


end Go.Proofs.Ytagakfaiimaifaa

set_option linter.unusedVariables false
set_option linter.unusedSimpArgs false
set_option maxRecDepth 100000
namespace Go.Proofs.Ytagakfaiimaifaa
open Go.Abs

abbrev encSpans (L : List (List Cell)) : D := .sl (L.map fun l => [encCells l])

theorem spD_get {X : List (List Cell)} {k : Nat} {l : List Cell} (h : X[k]? = some l) : (spD X)[k]? = some (l.map Cell.row) := by simp [spD, h]
theorem outR_get {X : List (List Cell)} {k : Nat} {l : List Cell} (h : X[k]? = some l) : (outR X)[k]? = some [.hs (1000000 + k) 0 l.length] := by
  have hk : k < X.length := (List.getElem?_eq_some_iff.1 h).1
  exact rowsAt_get (idsN_get hk) (by simp [h])
theorem weak_fzout {n : Nat} {tm : List (Nat × AV)} {nxt id eo : Nat} {e : TypeId} {m : Nat} (hid : id < 1000000) (htm : tmLow tm = true) (X : List (List Cell)) :
    Weak ⟨n, tm, (id, some ⟨eo, 1, outR X⟩) :: dyn e m 0 (spD X), nxt⟩ ⟨n, tm, [(id, some ⟨eo, 1, dr (X.map fun l => [encCells l])⟩)], nxt⟩ := by
  have h := weak_fzdyn (n := n) (nxt := nxt) (eo := eo) (mo := 1) (e := e) (m := m) hid htm (spD X)
  rw [← outR_eq] at h
  have e2 : (spD X).map (fun r => [D.sl r]) = X.map fun l => [encCells l] := by simp [spD, Function.comp_def]
  rw [e2] at h
  exact h
end Go.Proofs.Ytagakfaiimaifaa

set_option linter.unusedVariables false
set_option linter.unusedSimpArgs false
set_option maxRecDepth 100000
namespace Go.Proofs.Ytagakfaiimaifaa
open Go.Abs

/-! The program's groups: a map of labels, and slices that grow in turn. -/
def zeroL (l : List Cell) : Labs := l.foldl (fun M c => putL M c 0) []
theorem zeroL_next {l : List Cell} {k : Nat} {c : Cell} (h : l[k]? = some c) : zeroL (l.take (k + 1)) = putL (zeroL (l.take k)) c 0 := by
  unfold zeroL
  rw [take_get h, List.foldl_append]; rfl
theorem putL_len {M : Labs} {c : Cell} {v : Int} : (putL M c v).length ≤ M.length + 1 := by
  unfold putL
  split <;> simp
theorem zero_fold : ∀ (l : List Cell) (M : Labs), (∀ x, getL M x = none ∨ getL M x = some 0) → (∀ x, (getL (l.foldl (fun M c => putL M c 0) M) x = some 0 ↔ x ∈ l ∨ getL M x = some 0) ∧ (getL (l.foldl (fun M c => putL M c 0) M) x = none ∨ getL (l.foldl (fun M c => putL M c 0) M) x = some 0)) ∧ (l.foldl (fun M c => putL M c 0) M).length ≤ M.length + l.length
  | [], M, h => ⟨fun x => ⟨by simp, h x⟩, by simp⟩
  | c :: l, M, h => by
    have h1 : ∀ x, getL (putL M c 0) x = none ∨ getL (putL M c 0) x = some 0 := fun x => by
      rw [getL_putL]
      split
      · exact .inr rfl
      · exact h x
    obtain ⟨h2, h3⟩ := zero_fold l (putL M c 0) h1
    have h4 := @putL_len M c 0
    refine ⟨fun x => ⟨?_, (h2 x).2⟩, by simp only [List.foldl_cons, List.length_cons]; omega⟩
    simp only [List.foldl_cons]
    rw [(h2 x).1, getL_putL, List.mem_cons]
    by_cases e : x = c
    · simp [e]
    · simp [e]
theorem zero_get (l : List Cell) (x : Cell) : getL (zeroL l) x = if x ∈ l then some 0 else none := by
  obtain ⟨h1, _⟩ := zero_fold l [] (fun x => .inl rfl)
  obtain ⟨h2, h3⟩ := h1 x
  have h2' : getL (zeroL l) x = some 0 ↔ x ∈ l := by
    have := h2
    simp only [getL, reduceCtorEq, or_false] at this
    exact this
  split
  · rename_i h; exact h2'.2 h
  · rename_i h
    rcases h3 with h3 | h3
    · exact h3
    · exact absurd (h2'.1 h3) h
theorem zero_len (l : List Cell) : (zeroL l).length ≤ l.length := by
  have := (zero_fold l [] (fun x => .inl rfl)).2
  simp only [List.length_nil, Nat.zero_add] at this
  exact this

/-- The labels when k cells have been sorted in. -/
def labsAt (l : List Cell) (adj : Cell → Cell → Bool) (k : Nat) (M : Labs) : Prop := ∀ x, getL M x = if x ∈ l then some ((labN l adj (hdS l adj k) x : Nat) : Int) else none
section
variable {l : List Cell} {adj : Cell → Cell → Bool} {k : Nat} {c : Cell} {M : Labs}
theorem labs_zero (l : List Cell) (adj : Cell → Cell → Bool) : labsAt l adj 0 (zeroL l) := fun x => by
  rw [zero_get]
  split
  · have : labN l adj (hdS l adj 0) x = 0 := labN_zero.2 (by simp [hdS])
    rw [this]; rfl
  · rfl
/-- A cell that is in a group already. -/
theorem labs_old (hsym : ∀ x y, adj x y = true → adj y x = true) (hM : labsAt l adj k M) (hk : l[k]? = some c) {i : Nat} (hl : labN l adj (hdS l adj k) c = i + 1) :
    labsAt l adj (k + 1) M ∧ ∃ g, (grpTo l adj k)[i]? = some g ∧ grpTo l adj (k + 1) = (grpTo l adj k).set i (g ++ [c]) := by
  obtain ⟨h, h1, h2⟩ := (labN_succ (fun i j a b x => hdS_one hsym)).1 hl
  obtain ⟨e1, e2, e3⟩ := grpTo_old hsym hk h1 h2
  refine ⟨fun x => by rw [e1]; exact hM x, _, e3, e2⟩
/-- A cell that founds a group. -/
theorem labs_new {t : Bool} {moves : List Cell} (hadj : ∀ b x, b ≠ x → (adj b x = true ↔ ∃ d ∈ moves, moveC b d = x)) (hsym : ∀ x y, adj x y = true → adj y x = true) (hM : labsAt l adj k M) (hk : l[k]? = some c) (hl : labN l adj (hdS l adj k) c = 0) :
    labsAt l adj (k + 1) (spread M c (((grpTo l adj k).length + 1 : Nat) : Int) moves) ∧ grpTo l adj (k + 1) = grpTo l adj k ++ [[c]] ∧ labN l adj (hdS l adj (k + 1)) c = (grpTo l adj k).length + 1 := by
  have hno := labN_zero.1 hl
  obtain ⟨e1, e2⟩ := grpTo_new hsym hk hno
  have hcl := List.mem_of_getElem? hk
  have hlen : (grpTo l adj k).length = (hdS l adj k).length := grpTo_len k
  have hone := fun (k : Nat) (i j : Nat) (a b x : Cell) => hdS_one (l := l) (adj := adj) hsym (k := k) (i := i) (j := j) (a := a) (b := b) (x := x)
  have hle : ∀ x, labN l adj (hdS l adj k) x ≤ (hdS l adj k).length := fun x => by
    cases hq : labN l adj (hdS l adj k) x with
    | zero => omega
    | succ i =>
      obtain ⟨h, h1, _⟩ := (labN_succ (hone k)).1 hq
      have := (List.getElem?_eq_some_iff.1 h1).1
      omega
  have hnew : ∀ x, Conn l adj c x → labN l adj (hdS l adj (k + 1)) x = (hdS l adj k).length + 1 := fun x hx => by
    rw [labN_succ (hone (k + 1)), e1]
    exact ⟨c, by simp, hx⟩
  have hold : ∀ x, ¬ Conn l adj c x → labN l adj (hdS l adj (k + 1)) x = labN l adj (hdS l adj k) x := fun x hx => by
    cases hq : labN l adj (hdS l adj k) x with
    | zero =>
      rw [labN_zero] at hq ⊢
      intro h hh
      rw [e1] at hh
      rcases List.mem_append.1 hh with hh | hh
      · exact hq h hh
      · simp at hh; rw [hh]; exact hx
    | succ i =>
      rw [labN_succ (hone k)] at hq
      rw [labN_succ (hone (k + 1))]
      obtain ⟨h, h1, h2⟩ := hq
      refine ⟨h, ?_, h2⟩
      rw [e1, List.getElem?_append_left (List.getElem?_eq_some_iff.1 h1).1]
      exact h1
  have hsp := fun x => spread_get (l := l) (adj := adj) (moves := moves) (M0 := M) (first := c) (lab := (((grpTo l adj k).length + 1 : Nat) : Int)) (by omega) (fun x => by
      rw [hM x]
      split
      · rename_i h; simp [h]
      · rename_i h; simp [h]) hadj hsym (fun x => by
      rw [hM x]
      split
      · intro e
        have := hle x
        have := Option.some.inj e
        omega
      · simp) (by rw [hM c, if_pos hcl, hl]; rfl) (fun x y v hx hv hy ha => by
      rw [hM x] at hx
      split at hx
      · rename_i hxl
        have hx := Option.some.inj hx
        rw [hM y, if_pos hy]
        congr 1
        cases hq : labN l adj (hdS l adj k) x with
        | zero => rw [hq] at hx; exact absurd hx.symm hv
        | succ i =>
          have hq2 := hq
          rw [labN_succ (hone k)] at hq
          obtain ⟨h, h1, h2⟩ := hq
          have : labN l adj (hdS l adj k) y = i + 1 := (labN_succ (hone k)).2 ⟨h, h1, .step h2 hy ha⟩
          rw [this, ← hx, hq2]
      · cases hx) x
  refine ⟨fun x => ?_, e2, by rw [hlen]; exact hnew c (.refl hcl)⟩
  by_cases hx : Conn l adj c x
  · rw [(hsp x).1 hx, if_pos hx.right, hnew x hx, hlen]
  · rw [(hsp x).2 hx, hM x, hold x hx]
end
theorem spread_len {M : Labs} {c : Cell} {lab : Int} (hl : lab ≠ 0) (h : getL M c = some 0) (moves : List Cell) : (spread M c lab moves).length = M.length := by
  have step : ∀ (m : List Cell) (c : Cell) (s : Labs × List Cell), (m.foldl (spStep lab c) s).1.length = s.1.length := by
    intro m
    induction m with
    | nil => intro c s; rfl
    | cons d m ih =>
      intro c s
      rw [List.foldl_cons, ih]
      unfold spStep
      split
      · rename_i hz; exact put_len hz
      · rfl
  have key : ∀ (n : Nat) (s : Labs × List Cell), spMu s ≤ n → (spEnd lab moves s).length = s.1.length := by
    intro n
    induction n with
    | zero =>
      rintro ⟨M, q⟩ hn
      have hq : q = [] := by
        simp only [spMu] at hn
        exact List.eq_nil_of_length_eq_zero (by omega)
      subst hq
      rw [spEnd_nil]
    | succ n ih =>
      rintro ⟨M, q⟩ hn
      cases q with
      | nil => rw [spEnd_nil]
      | cons c q =>
        rw [spEnd_cons hl]
        have h2 : spMu (spRound lab moves c (M, q)) ≤ spMu (M, q) := spFold_mu hl c moves (M, q)
        have h3 : spMu (M, c :: q) = spMu (M, q) + 1 := by simp only [spMu, List.length_cons]; omega
        rw [ih _ (by omega)]
        exact step moves c (M, q)
  have := key _ (putL M c lab, [c]) (Nat.le_refl _)
  rw [show spEnd lab moves (putL M c lab, [c]) = spread M c lab moves from rfl] at this
  rw [this]
  exact put_len h

theorem rowsAt_set {ids lens : List Nat} (h : ids.length = lens.length) (i z l : Nat) : rowsAt (ids.set i z) (lens.set i l) = (rowsAt ids lens).set i [.hs z 0 l] := by
  refine List.ext_getElem? fun j => ?_
  simp only [rowsAt, List.getElem?_zipWith, List.getElem?_set, List.length_zipWith]
  by_cases e : i = j
  · subst e
    by_cases hi : i < ids.length
    · rw [if_pos rfl, if_pos hi, if_pos rfl, if_pos (by omega), if_pos rfl, if_pos (by omega)]
    · rw [if_pos rfl, if_neg hi, if_pos rfl, if_neg (by omega), if_pos rfl, if_neg (by omega)]
  · simp [e]
theorem upR_outS {σ0 : List (Nat × Option Nat)} (hlow : (σ0.all fun x => Nat.blt x.1 1000000) = true) (L : List (List Cell)) (i z : Nat) (g : List Cell) : upR (σ0 ++ dynN 0 ((idsN L.length).set i z)) (outR (L.set i g)) = some ((outR L).set i [.hs z 0 g.length]) := by
  have := upR_rows (ns := (idsN L.length).set i z) (lens := (L.set i g).map List.length) hlow (by simp [idsN_length])
  rw [List.length_map, List.length_set] at this
  unfold outR
  rw [List.length_set, this, List.map_set, rowsAt_set (by simp [idsN_length])]
theorem idsN_set_nodup {n i z : Nat} (hz : z < 1000000 ∨ 1000000 + n ≤ z) : ((idsN n).set i z).Nodup := by
  rw [List.Nodup, List.pairwise_iff_getElem]
  intro a b ha hb hab
  simp only [List.length_set, idsN_length] at ha hb
  have g : ∀ k (hk : k < n), (idsN n)[k]'(by rw [idsN_length]; exact hk) = 1000000 + k := fun k hk => by
    have := idsN_get hk
    rw [List.getElem?_eq_getElem (by rw [idsN_length]; exact hk)] at this
    exact Option.some.inj this
  rw [List.getElem_set, List.getElem_set, g a ha, g b hb]
  split <;> split <;> omega
theorem spD_setL (L : List (List Cell)) (i : Nat) (g : List Cell) : spD (L.set i g) = (spD L).set i (g.map Cell.row) := by simp [spD, List.map_set]

set_option maxHeartbeats 32000000 in
theorem split_ok21 (l : List Cell) (t : Bool) (moves : List Cell) (hl : l.length ≤ 100000) (hs : ∀ c ∈ l, smC c) (hml : moves.length ≤ 100) (hmv : ∀ d ∈ moves, -1 ≤ d.x ∧ d.x ≤ 1 ∧ -1 ≤ d.y ∧ d.y ≤ 1) (hadj : ∀ b x, b ≠ x → (adjR t b x = true ↔ ∃ d ∈ moves, moveC b d = x)) :
    PC Try.prog 30 [encCells l, encCells moves] (.p (encGs (grps l (adjR t)))) := by
  have hsym : ∀ x y, adjR t x y = true → adjR t y x = true := fun x y => adjR_symm
  have hzn := fun k c (h : l[k]? = some c) => zeroL_next h
  have hzl := fun k => zero_len (l.take k)
  have hzall : zeroL (l.take l.length) = zeroL l := by rw [List.take_length]
  have hlab0 := labs_zero l (adjR t)
  have hzl0 := zero_len l
  have hput := fun c v M => putR_lm c v M
  have hlook := fun c M => look_lm1 c M
  have hold := fun k c M (hM : labsAt l (adjR t) k M) (hk : l[k]? = some c) i => labs_old hsym hM hk (i := i)
  have hnew := fun k c M (hM : labsAt l (adjR t) k M) (hk : l[k]? = some c) => labs_new (t := t) (moves := moves) hadj hsym hM hk
  have hGl : ∀ k, (grpTo l (adjR t) k).length ≤ k := fun k => by rw [grpTo_len]; exact hdS_len k
  have hgl : ∀ (k i : Nat) (g : List Cell), (grpTo l (adjR t) k)[i]? = some g → g.length ≤ l.length := fun k i g h => by
    simp only [grpTo, List.getElem?_map, Option.map_eq_some_iff] at h
    obtain ⟨a, _, rfl⟩ := h
    have h1 : (cls l (adjR t) a (l.take k)).length ≤ (l.take k).length := List.length_filter_le _ _
    rw [List.length_take] at h1
    omega
  have hres : grpTo l (adjR t) l.length = grps l (adjR t) := grpTo_all
  rw [← hres]
  clear hres
  refine pc_of_awp cx (fn := Try.f30) (c := _) Try.func30 rfl rfl (Nat.le_of_ble_eq_true rfl) ?_
  rw [Try.ntmps30]; refine Nav.imp ?_
  refine awp_region cx [] fun K hK => ?_
  simp [push_cast]
  repeat (refine And.intro (by clear hK; intros; first | omega | (simp_all; done) | (simp_all <;> omega)) ?_)
  refine hK _ ?_; clear hK K; refine Nav.imp ?_
  refine awp_region cx [] fun K hK => ?_
  simp [push_cast, lm_nil]
  repeat (refine And.intro (by clear hK; intros; first | omega | (simp_all; done) | (simp_all <;> omega)) ?_)
  refine hK _ ?_; clear hK K; refine Nav.imp ?_
  refine awp_region cx [] fun K hK => ?_
  simp [push_cast]
  repeat (refine And.intro (by clear hK; intros; first | omega | (simp_all; done) | (simp_all <;> omega)) ?_)
  refine hK _ ?_; clear hK K; refine Nav.imp ?_
  have hz0 : zeroL [] = [] := rfl
  refine awp_loop (β := Nat) (fun k => ⟨57, [(0, .d (encCells l)), (1, .d (encCells moves)), (5, .hm 0), (13, .d (encCells l)), (14, .d (.int .i64 l.length)), (15, .d (.int .i64 k))], [(0, some ⟨71, mapM, dr (lmRows (zeroL (l.take k)))⟩)], 1⟩) (fun k => k ≤ l.length) (fun k => l.length - k) 0 ?_ (Nat.zero_le _) ?_
  · refine weak_of [(0, some 1)] rfl (by simp [upT, up, upL, push_cast, lm_nil, hz0]) (by simp [upH, upR, upL, up, push_cast, lm_nil, hz0]) (by simp [namesOk, push_cast]) (by simp [olds])
  · rintro k hk
    refine Nav.imp ?_
    refine awp_region cx [] fun K hK => ?_
    simp [push_cast]
    repeat (refine And.intro (by clear hK; intros; first | omega | (simp_all; done) | (simp_all <;> omega)) ?_)
    refine hK _ ?_; clear hK K; refine Nav.imp ?_
    refine awp_cond (b := decide ((k : Int) < l.length)) (by simp [push_cast]) (fun hb => ?_) (fun hb => ?_) <;> (refine Nav.imp ?_)
    · have hlt : k < l.length := by simpa using hb
      obtain ⟨c, hc⟩ := getq hlt
      have e0 := wrap_i64 (n := (k : Int) + 1) (by omega) (by omega)
      have hp := hput c 0 (zeroL (l.take k))
      rw [← hzn k c hc] at hp
      refine awp_region cx [] fun K hK => ?_
      simp [push_cast, hc, Cell.row]
      repeat (refine And.intro (by clear hK; intros; first | omega | (simp_all; done) | (simp_all <;> omega)) ?_)
      refine hK _ ?_; clear hK K; refine Nav.imp ?_
      refine awp_region cx [] fun K hK => ?_
      simp [push_cast, hp, Cell.row]
      repeat (refine And.intro (by clear hK; intros; first | omega | (simp_all; done) | (simp_all <;> omega)) ?_)
      refine hK _ ?_; clear hK K; refine Nav.imp ?_
      refine awp_region cx [] fun K hK => ?_
      simp [push_cast, e0]
      repeat (refine And.intro (by clear hK; intros; first | omega | (simp_all; done) | (simp_all <;> omega)) ?_)
      refine hK _ ?_; clear hK K; refine Nav.imp ?_
      refine ⟨k + 1, hlt, by omega, ?_⟩
      refine weak_of [(0, some 0)] rfl (by simp [upT, up, upL, push_cast]) (by simp [upH, upR, upL, up, push_cast]) (by simp [namesOk, push_cast]) (by simp [olds])
    · have hke : k = l.length := by simp at hb; omega
      subst hke
      rw [hzall]
      refine awp_region cx [] fun K hK => ?_
      simp [push_cast]
      repeat (refine And.intro (by clear hK; intros; first | omega | (simp_all; done) | (simp_all <;> omega)) ?_)
      refine hK _ ?_; clear hK K; refine Nav.imp ?_
      refine awp_region cx [] fun K hK => ?_
      simp [push_cast]
      repeat (refine And.intro (by clear hK; intros; first | omega | (simp_all; done) | (simp_all <;> omega)) ?_)
      refine hK _ ?_; clear hK K; refine Nav.imp ?_
      refine awp_loop (β := Nat × Labs × List (List Cell)) (fun s => ⟨57, [(0, .d (encCells l)), (1, .d (encCells moves)), (5, .hm 1), (8, .hs 0 0 s.2.2.length), (22, .d (encCells l)), (23, .d (.int .i64 l.length)), (24, .d (.int .i64 s.1))], [(0, some ⟨47, 1, outR s.2.2⟩), (1, some ⟨71, mapM, dr (lmRows s.2.1)⟩)] ++ dyn 33 2 0 (spD s.2.2), 1000000000000⟩) (fun s => s.1 ≤ l.length ∧ labsAt l (adjR t) s.1 s.2.1 ∧ s.2.1.length ≤ l.length ∧ s.2.2 = grpTo l (adjR t) s.1) (fun s => l.length - s.1) (0, zeroL l, []) ?_ ⟨Nat.zero_le _, hlab0, hzl0, rfl⟩ ?_
      · have hl0 : (spD []).length ≤ 1000000 := by simp [spD]
        refine weak_dyn [(0, none), (1, some 0)] (idsN (spD []).length) _ (spD []) rfl rfl ?_ (idsN_length _) rfl (by simp [upT, up, upL, upH, upR, namesOk, olds, find_app, find_dynN0, List.cons_append, List.nil_append, push_cast, outR_nil]) (by simp [upT, up, upL, upH, upR, namesOk, olds, find_app, find_dynN0, List.cons_append, List.nil_append, push_cast, outR_nil]) (by simp [upT, up, upL, upH, upR, namesOk, olds, find_app, find_dynN0, List.cons_append, List.nil_append, push_cast]) (by simp [olds]) (idsN_nodup _) (fun x hx => by have h1 := idsN_mem.1 hx; simp [olds]; omega) (fun j r_ x hr_ hx => by
          obtain ⟨hj, rfl⟩ := idsN_get' hx
          have hjN : ∀ m, (m < 1000000 ∨ 1000000000 < m) → (m = 1000000 + j) = False := fun m hm => by simp; omega
          first | (simp [spD] at hr_; done) | simp [push_cast, find_dyn0, hr_, hjN, outR_nil])
        omega
      · rintro ⟨k, M, G⟩ ⟨hk, hM, hMl, hG⟩
        simp only at hk hM hMl hG
        have hGk := hGl k
        rw [← hG] at hGk
        have hGs : (spD G).length ≤ 1000000 := by rw [spD_length]; omega
        refine Nav.imp ?_
        refine awp_region cx [] fun K hK => ?_
        simp [push_cast]
        repeat (refine And.intro (by clear hK; intros; first | omega | (simp_all; done) | (simp_all <;> omega)) ?_)
        refine hK _ ?_; clear hK K; refine Nav.imp ?_
        refine awp_cond (b := decide ((k : Int) < l.length)) (by simp [push_cast]) (fun hb => ?_) (fun hb => ?_) <;> (refine Nav.imp ?_)
        · have hlt : k < l.length := by simpa using hb
          obtain ⟨c, hc⟩ := getq hlt
          have e0 := wrap_i64 (n := (k : Int) + 1) (by omega) (by omega)
          have hcl := List.mem_of_getElem? hc
          have hMc := hM c
          rw [if_pos hcl] at hMc
          have lk := hlook c M
          rw [hMc] at lk
          simp only [Option.getD_some] at lk
          have ho := hold k c M hM hc
          have hn := hnew k c M hM hc
          rw [← hG] at ho hn
          have hGi := fun i g (h : G[i]? = some g) => hgl k i g (hG ▸ h)
          refine awp_region cx [] fun K hK => ?_
          simp [push_cast, hc, Cell.row]
          repeat (refine And.intro (by clear hK; intros; first | omega | (simp_all; done) | (simp_all <;> omega)) ?_)
          refine hK _ ?_; clear hK K; refine Nav.imp ?_
          generalize labN l (adjR t) (hdS l (adjR t) k) c = n at *
          refine awp_region cx [(2, .p (.int .i64 n))] fun K hK => ?_
          simp [push_cast, lk, Cell.row]
          repeat (refine And.intro (by clear hK; intros; first | omega | (simp_all; done) | (simp_all <;> omega)) ?_)
          refine hK _ ?_; clear hK K; refine Nav.imp ?_
          cases n with
          | succ i =>
            obtain ⟨hM1, g, hgi, hg1⟩ := ho i rfl
            have hgl1 := hGi i g hgi
            have hiG : i < G.length := (List.getElem?_eq_some_iff.1 hgi).1
            have e1 := wrap_i64 (n := (i : Int)) (by omega) (by omega)
            have hi1 : ¬ ((i : Int) + 1 = 0) := by omega
            refine awp_cond (b := false) (by simp [push_cast, hi1]) (fun hb => ?_) (fun hb => ?_) <;> (refine Nav.imp ?_)
            · simp at hb
            · refine awp_region cx [(2, .p (.int .i64 ((i + 1 : Nat) : Int)))] fun K hK => ?_
              simp [push_cast, lk, e1, Cell.row]
              repeat (refine And.intro (by clear hK; intros; first | omega | (simp_all; done) | (simp_all <;> omega)) ?_)
              refine hK _ ?_; clear hK K; refine Nav.imp ?_
              have hrow := outR_get hgi
              have hSg := spD_get hgi
              have hkN : ∀ m, (m < 1000000 ∨ 1000000000 < m) → (m = 1000000 + i) = False := fun m hm => by simp; omega
              have hg16 : (g.length + 1) * 16 ≤ 140737488355328 := by omega
              have hrl : i < (outR G).length := by rw [outR_length]; exact hiG
              have htg : List.take g.length (g.map Cell.row) = g.map Cell.row := List.take_of_length_le (by simp)
              have hkM : ∀ m, (m < 1000000 ∨ 1000000000 < m) → (1000000 + i = m) = False := fun m hm => by simp; omega
              refine awp_region_draw cx mixed [] fun K hK => ?_
              simp [push_cast, hrow, hSg, hkN, find_dyn0, hg16, htg, Cell.row]
              repeat (refine And.intro (by clear hK; intros; first | omega | (simp_all; done) | (simp_all <;> omega)) ?_)
              have z1 : ∀ m, (m < 2000000 ∨ 2000000002 < m) → (2 * (1000000 + i) = m) = False := fun m hm => by simp; omega
              have z2 : ∀ m, (m < 2000000 ∨ 2000000002 < m) → (m = 2 * (1000000 + i)) = False := fun m hm => by simp; omega
              have z3 : ∀ m, (m < 2000000 ∨ 2000000002 < m) → (2 * (1000000 + i) + 1 = m) = False := fun m hm => by simp; omega
              have z4 : ∀ m, (m < 2000000 ∨ 2000000002 < m) → (m = 2 * (1000000 + i) + 1) = False := fun m hm => by simp; omega
              refine hK _ _ (by simp [cfOf, confs, conflB, z1, z2, z3, z4]; kernel_rfl) ?_; clear hK K
              refine Nav.imp ?_
              refine awp_region cx [] fun K hK => ?_
              simp [push_cast, e0]
              repeat (refine And.intro (by clear hK; intros; first | omega | (simp_all; done) | (simp_all <;> omega)) ?_)
              refine hK _ ?_; clear hK K; refine Nav.imp ?_
              refine ⟨(k + 1, M, G.set i (g ++ [c])), ⟨hlt, hM1, hMl, hg1.symm⟩, by simp only; omega, ?_⟩
              have hup := upR_outS (σ0 := [(0, some 0), (1, some 1)]) rfl G i 1000000000022 (g ++ [c])
              simp only [List.cons_append, List.nil_append, List.length_append, List.length_cons, List.length_nil, Nat.zero_add] at hup
              refine weak_dyn [(0, some 0), (1, some 1)] ((idsN G.length).set i 1000000000022) _ (spD (G.set i (g ++ [c]))) rfl rfl (by rw [spD_length, List.length_set]; omega) (by simp [spD_length, idsN_length]) rfl (by simp [upT, up, upL, upH, upR, namesOk, olds, find_app, find_dynN0, List.cons_append, List.nil_append, hkM, hkN, push_cast]) (by simp [upT, up, upL, upH, upR, namesOk, olds, find_app, find_dynN0, List.cons_append, List.nil_append, push_cast, Cell.row, hup, hkM, hkN]) (by simp [namesOk, push_cast]) (by simp [olds]) (idsN_set_nodup (by omega)) (fun x hx => by
                rcases List.mem_or_eq_of_mem_set hx with hx | hx
                · have := idsN_mem.1 hx; simp [olds]; omega
                · subst hx; simp [olds]) (fun j r_ x hr_ hx => ?_)
              rw [spD_setL, List.getElem?_set, spD_length, if_pos hiG] at hr_
              rw [List.getElem?_set, idsN_length, if_pos hiG] at hx
              by_cases hij : i = j
              · subst hij
                rw [if_pos rfl] at hr_ hx
                cases hr_
                cases hx
                simp [push_cast, hkM, hkN]
              · rw [if_neg hij] at hr_ hx
                obtain ⟨hj, rfl⟩ := idsN_get' hx
                have hjN : ∀ m, (m < 1000000 ∨ 1000000000 < m) → (m = 1000000 + j) = False := fun m hm => by simp; omega
                simp [push_cast, find_dyn0, hr_, hjN, hkM, hkN, hij]
          | zero =>
            obtain ⟨hM1, hg1, hn1⟩ := hn rfl
            have c1 := spread_px M c ((G.length + 1 : Nat) : Int) moves (by omega) hml hmv (fun x v hx => by
              rw [hM x] at hx
              split at hx
              · rename_i h; exact hs x h
              · cases hx) (by omega) (by rw [hMc]; rfl)
            have hWl := spread_len (M := M) (c := c) (lab := ((G.length + 1 : Nat) : Int)) (by omega) (by rw [hMc]; rfl) moves
            have hWc := hM1 c
            rw [if_pos hcl, hn1] at hWc
            have lk2 := hlook c (spread M c ((G.length + 1 : Nat) : Int) moves)
            rw [hWc] at lk2
            simp only [Option.getD_some] at lk2
            generalize spread M c ((G.length + 1 : Nat) : Int) moves = W at *
            have hG24 : (G.length + 1) * 24 ≤ 140737488355328 := by omega
            have hto : List.take G.length (outR G) = outR G := List.take_of_length_le (by rw [outR_length]; omega)
            refine awp_cond (b := true) (by simp [push_cast]) (fun hb => ?_) (fun hb => ?_) <;> (refine Nav.imp ?_)
            · refine awp_region cx [] fun K hK => ?_
              simp [push_cast, hG24, hto, outR_length]
              repeat (refine And.intro (by clear hK; intros; first | omega | (simp_all; done) | (simp_all <;> omega)) ?_)
              refine hK _ ?_; clear hK K; refine Nav.imp ?_
              refine awp_region cx [(5, .x ⟨[(0, 1)], [.hm 0, .d (.agg c.row), .d (.int .i64 ((G.length + 1 : Nat) : Int)), .d (encCells moves)], [(0, ⟨71, mapM, dr (lmRows M)⟩)], [(0, 0)], none, [(0, ⟨71, mapM, dr (lmRows W)⟩)], .tup []⟩)] fun K hK => ?_
              simp [push_cast, c1, Cell.row]
              repeat (refine And.intro (by clear hK; intros; first | omega | (simp_all; done) | (simp_all <;> omega)) ?_)
              refine hK _ ?_; clear hK K; refine Nav.imp ?_
              have e5 := wrap_i64 (n := (G.length : Int)) (by omega) (by omega)
              have hrn : (outR G ++ [[AV.nl]])[G.length]? = some [.nl] := by
                rw [List.getElem?_append_right (by rw [outR_length]; omega), outR_length]; simp
              have hrs : ∀ v, (outR G ++ [[AV.nl]]).set G.length v = outR G ++ [v] := fun v => by
                rw [List.set_append_right _ _ (by rw [outR_length]; omega), outR_length]; simp
              refine awp_region cx [(2, .p (.int .i64 ((G.length + 1 : Nat) : Int)))] fun K hK => ?_
              simp [push_cast, lk2, e5, Cell.row]
              repeat (refine And.intro (by clear hK; intros; first | omega | (simp_all; done) | (simp_all <;> omega)) ?_)
              refine hK _ ?_; clear hK K; refine Nav.imp ?_
              refine awp_region_draw cx mixed [] fun K hK => ?_
              simp [push_cast, hrn, hrs, Cell.row]
              repeat (refine And.intro (by clear hK; intros; first | omega | (simp_all; done) | (simp_all <;> omega)) ?_)
              refine hK _ _ (by kernel_rfl) ?_; clear hK K; refine Nav.imp ?_
              refine awp_region cx [] fun K hK => ?_
              simp [push_cast, e0]
              repeat (refine And.intro (by clear hK; intros; first | omega | (simp_all; done) | (simp_all <;> omega)) ?_)
              refine hK _ ?_; clear hK K; refine Nav.imp ?_
              refine ⟨(k + 1, W, G ++ [[c]]), ⟨hlt, hM1, by simp only; omega, hg1.symm⟩, by simp only; omega, ?_⟩
              have hup := upR_out1 (σ0 := [(0, some 1000000000011), (1, some 1)]) rfl G [c] 1000000000032
              simp only [List.cons_append, List.nil_append, List.length_cons, List.length_nil, Nat.zero_add] at hup
              refine weak_dyn [(0, some 1000000000011), (1, some 1)] (idsN G.length ++ [1000000000032]) _ (spD (G ++ [[c]])) rfl rfl (by rw [spD_length]; simp; omega) (by simp [spD_length, idsN_length]) rfl (by simp [upT, up, upL, upH, upR, namesOk, olds, find_app, find_dynN0, List.cons_append, List.nil_append, push_cast]) (by simp [upT, up, upL, upH, upR, namesOk, olds, find_app, find_dynN0, List.cons_append, List.nil_append, push_cast, Cell.row, hup]) (by simp [namesOk, push_cast]) (by simp [olds]) (List.nodup_append.2 ⟨idsN_nodup _, by simp, fun a ha c hc => by have := idsN_mem.1 ha; simp at hc; omega⟩) (fun x hx => by
                rcases List.mem_append.1 hx with hx | hx
                · have := idsN_mem.1 hx; simp [olds]; omega
                · simp at hx; subst hx; simp [olds]) (fun j r_ x hr_ hx => ?_)
              have hjb : j < (spD (G ++ [[c]])).length := (List.getElem?_eq_some_iff.1 hr_).1
              rw [spD_length, List.length_append] at hjb
              simp only [List.length_cons, List.length_nil] at hjb
              rw [spD_app] at hr_
              by_cases hjY : j < G.length
              · rw [List.getElem?_append_left (by rw [spD_length]; exact hjY)] at hr_
                rw [List.getElem?_append_left (by rw [idsN_length]; exact hjY), idsN_get hjY] at hx
                cases hx
                have hjN : ∀ m, (m < 1000000 ∨ 1000000000 < m) → (m = 1000000 + j) = False := fun m hm => by simp; omega
                simp [push_cast, find_dyn0, hr_, hjN]
              · have hje2 : j = G.length := by omega
                subst hje2
                rw [List.getElem?_append_right (by rw [spD_length]; omega)] at hr_
                rw [List.getElem?_append_right (by rw [idsN_length]; omega)] at hx
                simp [spD_length, idsN_length, spD] at hr_ hx
                subst hr_ hx
                simp [push_cast]
            · simp at hb
        · have hke : k = l.length := by simp at hb; omega
          subst hke
          rw [← hG]
          refine awp_weak (s' := ⟨57, [(8, .hs 0 0 G.length)], [(0, some ⟨47, 1, outR G⟩)] ++ dyn 33 2 0 (spD G), 1000000000000⟩) ?_ ?_
          · have hup := upR_out (σ0 := [(0, some 0)]) rfl G
            simp only [List.cons_append, List.nil_append] at hup
            refine weak_dyn [(0, some 0)] (idsN (spD G).length) _ (spD G) rfl rfl ?_ (idsN_length _) rfl (by simp [upT, up, upL, upH, upR, namesOk, olds, find_app, find_dynN0, List.cons_append, List.nil_append, push_cast, hup]) (by simp [upT, up, upL, upH, upR, namesOk, olds, find_app, find_dynN0, List.cons_append, List.nil_append, push_cast, hup]) (by simp [upT, up, upL, upH, upR, namesOk, olds, find_app, find_dynN0, List.cons_append, List.nil_append, push_cast]) (by simp [olds]) (idsN_nodup _) (fun x hx => by have h1 := idsN_mem.1 hx; simp [olds]; omega) (fun j r_ x hr_ hx => by
              obtain ⟨hj, rfl⟩ := idsN_get' hx
              have hjN : ∀ m, (m < 1000000 ∨ 1000000000 < m) → (m = 1000000 + j) = False := fun m hm => by simp; omega
              first | (simp [spD] at hr_; done) | simp [push_cast, find_dyn0, hr_, hjN, hup])
            omega
          · refine awp_weak (weak_fzout (by decide) rfl G) ?_
            have ht : List.take G.length (G.map gRow) = G.map gRow := List.take_of_length_le (by simp)
            refine awp_region cx [] fun K hK => ?_
            simp [push_cast]
            repeat (refine And.intro (by clear hK; intros; first | omega | (simp_all; done) | (simp_all <;> omega)) ?_)
            refine hK _ ?_; clear hK K; refine Nav.imp ?_
            simp [push_cast, ht]
end Go.Proofs.Ytagakfaiimaifaa

set_option linter.unusedVariables false
set_option linter.unusedSimpArgs false
set_option maxRecDepth 100000
namespace Go.Proofs.Ytagakfaiimaifaa
open Go.Abs

/-! The number of cells. -/
def lenN (l : List Run) : Nat := (l.flatMap (runCells 0)).length
theorem lenN_take {l : List Run} {k : Nat} {r : Run} (h : l[k]? = some r) : lenN (l.take (k + 1)) = lenN (l.take k) + (r.b - r.a).toNat := by
  unfold lenN
  rw [flat_take _ h, List.length_append, runCells_len]
theorem rowCells_len (w : Row) : (rowCells w).length = lenN w.runs := by
  unfold rowCells lenN
  rw [List.length_flatMap, List.length_flatMap]
  simp only [runCells_len]
theorem lenN_bound {l : List Run} (h : rvalid l = true) : ∀ k, k ≤ l.length → lenN (l.take k) ≤ k * 2097152
  | 0, _ => by simp [lenN]
  | k + 1, hk => by
    obtain ⟨r, hr⟩ := getq (show k < l.length by omega)
    have h1 := lenN_bound h k (by omega)
    have h2 := fitsB_bd (rvalid_at h hr).2
    rw [lenN_take hr, Nat.succ_mul]
    omega

theorem length_ok (l : List Run) (hl : l.length ≤ 1000000) (hv : rvalid l = true) : PC Try.prog 47 [encRuns l] (.p (.int .i64 (lenN l))) := by
  have c1 := rvalid_ok l hl
  rw [hv] at c1
  refine pc_of_awp cx (fn := Try.f47) (c := _) Try.func47 rfl rfl (Nat.le_of_ble_eq_true rfl) ?_
  rw [Try.ntmps47]; refine Nav.imp ?_
  refine awp_region cx [] fun K hK => ?_
  simp [push_cast]
  repeat (refine And.intro (by clear hK; intros; first | omega | (simp_all; done) | (simp_all <;> omega)) ?_)
  refine hK _ ?_; clear hK K; refine Nav.imp ?_
  refine awp_region cx [(1, .p (.bool true))] fun K hK => ?_
  simp [push_cast, c1]
  repeat (refine And.intro (by clear hK; intros; first | omega | (simp_all; done) | (simp_all <;> omega)) ?_)
  refine hK _ ?_; clear hK K; refine Nav.imp ?_
  refine awp_cond (b := false) (by simp [push_cast]) (fun hb => ?_) (fun hb => ?_) <;> (refine Nav.imp ?_)
  · simp at hb
  · refine awp_region cx [] fun K hK => ?_
    simp [push_cast]
    repeat (refine And.intro (by clear hK; intros; first | omega | (simp_all; done) | (simp_all <;> omega)) ?_)
    refine hK _ ?_; clear hK K; refine Nav.imp ?_
    refine awp_region cx [] fun K hK => ?_
    simp [push_cast]
    repeat (refine And.intro (by clear hK; intros; first | omega | (simp_all; done) | (simp_all <;> omega)) ?_)
    refine hK _ ?_; clear hK K; refine Nav.imp ?_
    refine awp_loop (β := Nat × Nat) (fun b => ⟨24, [(3, .d (.int .i64 b.2)), (9, .d (encRuns l)), (10, .d (.int .i64 l.length)), (11, .d (.int .i64 b.1))], [], 0⟩) (fun b => b.1 ≤ l.length ∧ b.2 = lenN (l.take b.1)) (fun b => l.length - b.1) (0, 0) ?_ ⟨Nat.zero_le _, by simp [lenN]⟩ ?_
    · refine weak_of [] rfl (by simp [upT, up, upL, push_cast]) (by simp [upH, upR, upL, up, push_cast]) (by simp [namesOk, push_cast]) (by simp [olds])
    · rintro ⟨k, n0⟩ ⟨hk, hn⟩
      simp only at hk hn
      refine Nav.imp ?_
      refine awp_region cx [] fun K hK => ?_
      simp [push_cast]
      repeat (refine And.intro (by clear hK; intros; first | omega | (simp_all; done) | (simp_all <;> omega)) ?_)
      refine hK _ ?_; clear hK K; refine Nav.imp ?_
      refine awp_cond (b := decide ((k : Int) < l.length)) (by simp [push_cast]) (fun hb => ?_) (fun hb => ?_) <;> (refine Nav.imp ?_)
      · have hlt : k < l.length := by simpa using hb
        obtain ⟨r, hr⟩ := getq hlt
        have hs := lenN_take hr
        have hbd := lenN_bound hv k (by omega)
        rw [← hn] at hs hbd
        have hrf := rvalid_at hv hr
        have hf := fitsB_bd hrf.2
        obtain ⟨ra, rb⟩ := r
        simp only at hs hrf hf
        have e0 := wrap_i64 (n := (k : Int) + 1) (by omega) (by omega)
        have e1 := wrap_i64 (n := rb - ra) (by omega) (by omega)
        have e2 := wrap_i64 (n := (n0 : Int) + (rb - ra)) (by omega) (by omega)
        have e3 : (n0 : Int) + (rb - ra) = (lenN (l.take (k + 1)) : Nat) := by rw [hs]; omega
        rw [e3] at e2
        generalize hn1 : lenN (l.take (k + 1)) = n1 at *
        refine awp_region cx [] fun K hK => ?_
        simp [push_cast, hr, Run.row]
        repeat (refine And.intro (by clear hK; intros; first | omega | (simp_all; done) | (simp_all <;> omega)) ?_)
        refine hK _ ?_; clear hK K; refine Nav.imp ?_
        refine awp_region cx [] fun K hK => ?_
        simp [push_cast, e1, e2, e3, Run.row]
        repeat (refine And.intro (by clear hK; intros; first | omega | (simp_all; done) | (simp_all <;> omega)) ?_)
        refine hK _ ?_; clear hK K; refine Nav.imp ?_
        refine awp_region cx [] fun K hK => ?_
        simp [push_cast, e0]
        repeat (refine And.intro (by clear hK; intros; first | omega | (simp_all; done) | (simp_all <;> omega)) ?_)
        refine hK _ ?_; clear hK K; refine Nav.imp ?_
        refine ⟨(k + 1, n1), ⟨hlt, hn1.symm⟩, by simp only; omega, ?_⟩
        refine weak_of [] rfl (by simp [upT, up, upL, push_cast]) (by simp [upH, upR, upL, up, push_cast]) (by simp [namesOk, push_cast]) (by simp [olds])
      · have hge : k = l.length := by simp at hb; omega
        subst hge
        rw [List.take_length] at hn
        subst hn
        refine awp_region cx [] fun K hK => ?_
        simp [push_cast]
        repeat (refine And.intro (by clear hK; intros; first | omega | (simp_all; done) | (simp_all <;> omega)) ?_)
        refine hK _ ?_; clear hK K; refine Nav.imp ?_
        simp [push_cast]

def countR (R : List Row) : Nat := if validR R then (regCells R).length else 0
theorem rows_bound {R : List Row} (h : validR R = true) (hR : smallR R) : ∀ i, i ≤ R.length → (rowsTo R i).length ≤ i * 2097152000000
  | 0, _ => by simp [rowsTo]
  | i + 1, hi => by
    obtain ⟨w, hw⟩ := getq (show i < R.length by omega)
    have h1 := rows_bound h hR i (by omega)
    have h2 := lenN_bound (fine_rv (validR_at h hw).2) w.runs.length (Nat.le_refl _)
    have h3 := hR.2 w (List.mem_of_getElem? hw)
    rw [rowsTo_next hw, List.length_append, rowCells_len, Nat.succ_mul]
    rw [List.take_length] at h2
    have := Nat.mul_le_mul_right 2097152 h3
    omega
theorem rows_big {R : List Row} (h : validR R = true) (hR : smallR R) {i : Nat} (hi : i ≤ R.length) : (rowsTo R i).length ≤ 2097152000000000000 := by
  have h1 := rows_bound h hR i hi
  have h2 := hR.1
  have := Nat.mul_le_mul_right 2097152000000 (show i ≤ 1000000 by omega)
  omega

theorem count_ok (R : List Row) (hR : smallR R) : PC Try.prog 23 [.agg (regRow R)] (.p (.int .i64 (countR R))) := by
  have c1 := valid_ok R hR
  have hl := hR.1
  have hC : countR R = if validR R then (regCells R).length else 0 := rfl
  generalize hv : validR R = v at *
  refine pc_of_awp cx (fn := Try.f23) (c := _) Try.func23 rfl rfl (Nat.le_of_ble_eq_true rfl) ?_
  rw [Try.ntmps23]; refine Nav.imp ?_
  refine awp_region cx [] fun K hK => ?_
  simp [push_cast]
  repeat (refine And.intro (by clear hK; intros; first | omega | (simp_all; done) | (simp_all <;> omega)) ?_)
  refine hK _ ?_; clear hK K; refine Nav.imp ?_
  refine awp_region cx [(1, .p (.bool v))] fun K hK => ?_
  simp [push_cast, c1]
  repeat (refine And.intro (by clear hK; intros; first | omega | (simp_all; done) | (simp_all <;> omega)) ?_)
  refine hK _ ?_; clear hK K; refine Nav.imp ?_
  refine awp_cond (b := !v) (by simp [push_cast]) (fun hb => ?_) (fun hb => ?_) <;> (refine Nav.imp ?_)
  · simp at hb
    rw [hC, hb]
    refine awp_region cx [] fun K hK => ?_
    simp [push_cast]
    repeat (refine And.intro (by clear hK; intros; first | omega | (simp_all; done) | (simp_all <;> omega)) ?_)
    refine hK _ ?_; clear hK K; refine Nav.imp ?_
    simp [push_cast]
  · simp at hb
    rw [hb] at hv hC
    rw [hC, if_pos rfl]
    clear hC
    refine awp_region cx [] fun K hK => ?_
    simp [push_cast]
    repeat (refine And.intro (by clear hK; intros; first | omega | (simp_all; done) | (simp_all <;> omega)) ?_)
    refine hK _ ?_; clear hK K; refine Nav.imp ?_
    refine awp_region cx [] fun K hK => ?_
    simp [push_cast]
    repeat (refine And.intro (by clear hK; intros; first | omega | (simp_all; done) | (simp_all <;> omega)) ?_)
    refine hK _ ?_; clear hK K; refine Nav.imp ?_
    refine awp_loop (β := Nat × Nat) (fun b => ⟨23, [(3, .d (.int .i64 b.2)), (10, .d (encRows R)), (11, .d (.int .i64 R.length)), (12, .d (.int .i64 b.1))], [], 0⟩) (fun b => b.1 ≤ R.length ∧ b.2 = (rowsTo R b.1).length) (fun b => R.length - b.1) (0, 0) ?_ ⟨Nat.zero_le _, by simp [rowsTo]⟩ ?_
    · refine weak_of [] rfl (by simp [upT, up, upL, push_cast]) (by simp [upH, upR, upL, up, push_cast]) (by simp [namesOk, push_cast]) (by simp [olds])
    · rintro ⟨k, n0⟩ ⟨hk, hn⟩
      simp only at hk hn
      refine Nav.imp ?_
      refine awp_region cx [] fun K hK => ?_
      simp [push_cast]
      repeat (refine And.intro (by clear hK; intros; first | omega | (simp_all; done) | (simp_all <;> omega)) ?_)
      refine hK _ ?_; clear hK K; refine Nav.imp ?_
      refine awp_cond (b := decide ((k : Int) < R.length)) (by simp [push_cast]) (fun hb => ?_) (fun hb => ?_) <;> (refine Nav.imp ?_)
      · have hlt : k < R.length := by simpa using hb
        obtain ⟨w, hw⟩ := getq hlt
        have hs : (rowsTo R (k + 1)).length = n0 + lenN w.runs := by rw [rowsTo_next hw, List.length_append, rowCells_len, hn]
        have hbd := rows_big hv hR (i := k + 1) hlt
        have c2 := length_ok w.runs (hR.2 w (List.mem_of_getElem? hw)) (fine_rv (validR_at hv hw).2)
        have e0 := wrap_i64 (n := (k : Int) + 1) (by omega) (by omega)
        have e2 := wrap_i64 (n := (n0 : Int) + (lenN w.runs : Nat)) (by omega) (by omega)
        have e3 : (n0 : Int) + (lenN w.runs : Nat) = ((rowsTo R (k + 1)).length : Nat) := by rw [hs]; omega
        rw [e3] at e2
        generalize hn1 : (rowsTo R (k + 1)).length = n1 at *
        obtain ⟨y, ru⟩ := w
        simp only at c2 e3
        generalize lenN ru = m at *
        refine awp_region cx [] fun K hK => ?_
        simp [push_cast, hw, Row.row]
        repeat (refine And.intro (by clear hK; intros; first | omega | (simp_all; done) | (simp_all <;> omega)) ?_)
        refine hK _ ?_; clear hK K; refine Nav.imp ?_
        refine awp_region cx [(3, .p (.int .i64 m))] fun K hK => ?_
        simp [push_cast, c2, e2, e3, Row.row]
        repeat (refine And.intro (by clear hK; intros; first | omega | (simp_all; done) | (simp_all <;> omega)) ?_)
        refine hK _ ?_; clear hK K; refine Nav.imp ?_
        refine awp_region cx [] fun K hK => ?_
        simp [push_cast, e0]
        repeat (refine And.intro (by clear hK; intros; first | omega | (simp_all; done) | (simp_all <;> omega)) ?_)
        refine hK _ ?_; clear hK K; refine Nav.imp ?_
        refine ⟨(k + 1, n1), ⟨hlt, hn1.symm⟩, by simp only; omega, ?_⟩
        refine weak_of [] rfl (by simp [upT, up, upL, push_cast]) (by simp [upH, upR, upL, up, push_cast]) (by simp [namesOk, push_cast]) (by simp [olds])
      · have hge : k = R.length := by simp at hb; omega
        subst hge
        rw [rowsTo_all] at hn
        subst hn
        refine awp_region cx [] fun K hK => ?_
        simp [push_cast]
        repeat (refine And.intro (by clear hK; intros; first | omega | (simp_all; done) | (simp_all <;> omega)) ?_)
        refine hK _ ?_; clear hK K; refine Nav.imp ?_
        simp [push_cast]



def smallB (R : List Row) : Bool := decide (R.length ≤ 40) && R.all (fun w => decide (w.runs.length ≤ 40)) && decide (countR R ≤ 600)
end Go.Proofs.Ytagakfaiimaifaa

set_option linter.unusedVariables false
set_option linter.unusedSimpArgs false
set_option maxRecDepth 100000
namespace Go.Proofs.Ytagakfaiimaifaa
open Go.Abs

/-! The box of a region. -/
def fstA (w : Row) : Int := match w.runs[0]? with | some r => r.a | none => 0
def lstB (w : Row) : Int := match w.runs[w.runs.length - 1]? with | some r => r.b | none => 0
def lowX (R : List Row) : Int := R.foldl (fun m w => min m (fstA w)) 4096
def highX (R : List Row) : Int := R.foldl (fun m w => max m (lstB w - 1)) (-4096)
def fstY (R : List Row) : Int := match R[0]? with | some w => w.y | none => 0
def lstY (R : List Row) : Int := match R[R.length - 1]? with | some w => w.y | none => 0
def some? (R : List Row) : Bool := validR R && decide (0 < R.length)
def boxLo (R : List Row) : Cell := if some? R then ⟨lowX R, fstY R⟩ else ⟨0, 0⟩
def boxHi (R : List Row) : Cell := if some? R then ⟨highX R, lstY R⟩ else ⟨0, 0⟩
abbrev boxD (R : List Row) : D := .tup [.agg (boxLo R).row, .agg (boxHi R).row, .bool (some? R)]

theorem lowX_take {R : List Row} {k : Nat} {w : Row} (h : R[k]? = some w) : lowX (R.take (k + 1)) = min (lowX (R.take k)) (fstA w) := by simp [lowX, take_get h]
theorem highX_take {R : List Row} {k : Nat} {w : Row} (h : R[k]? = some w) : highX (R.take (k + 1)) = max (highX (R.take k)) (lstB w - 1) := by simp [highX, take_get h]
theorem foldMin {α : Type} (f : α → Int) : ∀ (l : List α) (m : Int), l.foldl (fun m w => min m (f w)) m ≤ m ∧ (∀ w ∈ l, l.foldl (fun m w => min m (f w)) m ≤ f w) ∧ ∀ b, b ≤ m → (∀ w ∈ l, b ≤ f w) → b ≤ l.foldl (fun m w => min m (f w)) m
  | [], m => by simp
  | x :: l, m => by
    obtain ⟨h1, h2, h3⟩ := foldMin f l (min m (f x))
    simp only [List.foldl_cons]
    refine ⟨by omega, fun w hw => ?_, fun b hb hl => ?_⟩
    · rcases List.mem_cons.1 hw with rfl | hw
      · omega
      · exact h2 w hw
    · have := hl x (by simp)
      exact h3 b (by omega) fun w hw => hl w (by simp [hw])
theorem foldMax {α : Type} (f : α → Int) : ∀ (l : List α) (m : Int), m ≤ l.foldl (fun m w => max m (f w)) m ∧ (∀ w ∈ l, f w ≤ l.foldl (fun m w => max m (f w)) m) ∧ ∀ b, m ≤ b → (∀ w ∈ l, f w ≤ b) → l.foldl (fun m w => max m (f w)) m ≤ b
  | [], m => by simp
  | x :: l, m => by
    obtain ⟨h1, h2, h3⟩ := foldMax f l (max m (f x))
    simp only [List.foldl_cons]
    refine ⟨by omega, fun w hw => ?_, fun b hb hl => ?_⟩
    · rcases List.mem_cons.1 hw with rfl | hw
      · omega
      · exact h2 w hw
    · have := hl x (by simp)
      exact h3 b (by omega) fun w hw => hl w (by simp [hw])
theorem row_ends0 {w : Row} (h : fine w.runs = true) : (∀ r ∈ w.runs, fstA w ≤ r.a ∧ r.b ≤ lstB w) ∧ -4096 ≤ fstA w ∧ fstA w < lstB w ∧ lstB w ≤ 4096 := by
  obtain ⟨f, z, hf, hz, hf1, hz1, hl⟩ := fine_ends h
  have e1 : fstA w = f.a := by simp [fstA, hf]
  have e2 : lstB w = z.b := by simp [lstB, hz]
  rw [e1, e2]
  have key : ∀ r ∈ w.runs, f.a ≤ r.a ∧ r.b ≤ z.b := fun r hr => by
    obtain ⟨k, hk, rfl⟩ := List.mem_iff_getElem.1 hr
    have hk' := List.getElem?_eq_getElem hk
    exact ⟨(rvalid_asc (fine_rv h) k 0 _ f (Nat.zero_le _) hf hk').1, (rvalid_asc (fine_rv h) (w.runs.length - 1) k z _ (by omega) hk' hz).2⟩
  have := key f (List.mem_of_getElem? hf)
  exact ⟨key, by omega, by omega, by omega⟩
theorem rows_ends {R : List Row} (hv : validR R = true) {w : Row} (hw : w ∈ R) : fstY R ≤ w.y ∧ w.y ≤ lstY R := by
  obtain ⟨k, hk, rfl⟩ := List.mem_iff_getElem.1 hw
  have hp := List.pairwise_iff_getElem.1 (rows_pw hv)
  have e1 : fstY R = R[0].y := by simp [fstY, List.getElem?_eq_getElem (show 0 < R.length by omega)]
  have e2 : lstY R = R[R.length - 1].y := by simp [lstY, List.getElem?_eq_getElem (show R.length - 1 < R.length by omega)]
  rw [e1, e2]
  constructor
  · rcases Nat.eq_zero_or_pos k with h | h
    · subst h; exact Int.le_refl _
    · exact Int.le_of_lt (hp 0 k (by omega) hk h)
  · rcases Nat.lt_or_eq_of_le (show k ≤ R.length - 1 by omega) with h | h
    · exact Int.le_of_lt (hp k (R.length - 1) hk (by omega) h)
    · subst h; exact Int.le_refl _


set_option maxHeartbeats 1000000 in
theorem box_ok (R : List Row) (hR : smallR R) : PC Try.prog 38 [.agg (regRow R)] (.p (boxD R)) := by
  have c1 := valid_ok R hR
  have hl := hR.1
  have hB : boxD R = .tup [.agg (boxLo R).row, .agg (boxHi R).row, .bool (some? R)] := rfl
  rw [hB]
  by_cases hsm : some? R = true
  · have hlo : boxLo R = ⟨lowX R, fstY R⟩ := by simp [boxLo, hsm]
    have hhi : boxHi R = ⟨highX R, lstY R⟩ := by simp [boxHi, hsm]
    rw [hlo, hhi, hsm]
    clear hlo hhi hB
    simp only [some?, Bool.and_eq_true, decide_eq_true_eq] at hsm
    obtain ⟨hv, hpos⟩ := hsm
    rw [hv] at c1
    obtain ⟨w0, hw0⟩ : ∃ w, R[0]? = some w := getq hpos
    obtain ⟨w1, hw1⟩ : ∃ w, R[R.length - 1]? = some w := getq (by omega)
    have hy0 : fstY R = w0.y := by simp [fstY, hw0]
    have hy1 : lstY R = w1.y := by simp [lstY, hw1]
    rw [hy0, hy1]
    clear hy0 hy1
    have e1 := wrap_i64 (n := (R.length : Int) - 1) (by omega) (by omega)
    have e2 : ((R.length : Int) - 1).toNat = R.length - 1 := by omega
    have e3 : (0 : Int) ≤ (R.length : Int) - 1 := by omega
    have e4 : ((R.length : Int) == 0) = false := by simp; rintro rfl; simp at hpos
    obtain ⟨y0, r0⟩ := w0
    obtain ⟨y1, r1⟩ := w1
    refine pc_of_awp cx (fn := Try.f38) (c := _) Try.func38 rfl rfl (Nat.le_of_ble_eq_true rfl) ?_
    rw [Try.ntmps38]; refine Nav.imp ?_
    refine awp_region cx [] fun K hK => ?_
    simp [push_cast]
    repeat (refine And.intro (by clear hK; intros; first | omega | (simp_all; done) | (simp_all <;> omega)) ?_)
    refine hK _ ?_; clear hK K; refine Nav.imp ?_
    refine awp_region cx [(1, .p (.bool true))] fun K hK => ?_
    simp [push_cast, c1]
    repeat (refine And.intro (by clear hK; intros; first | omega | (simp_all; done) | (simp_all <;> omega)) ?_)
    refine hK _ ?_; clear hK K; refine Nav.imp ?_
    refine awp_cond (b := false) (by simp [push_cast, e4]) (fun hb => ?_) (fun hb => ?_) <;> (refine Nav.imp ?_)
    · simp at hb
    · refine awp_region cx [] fun K hK => ?_
      simp [push_cast, hw0, Row.row]
      repeat (refine And.intro (by clear hK; intros; first | omega | (simp_all; done) | (simp_all <;> omega)) ?_)
      refine hK _ ?_; clear hK K; refine Nav.imp ?_
      refine awp_region cx [] fun K hK => ?_
      simp [push_cast, hw1, e1, e2, e3, Row.row]
      repeat (refine And.intro (by clear hK; intros; first | omega | (simp_all; done) | (simp_all <;> omega)) ?_)
      refine hK _ ?_; clear hK K; refine Nav.imp ?_
      refine awp_region cx [] fun K hK => ?_
      simp [push_cast]
      repeat (refine And.intro (by clear hK; intros; first | omega | (simp_all; done) | (simp_all <;> omega)) ?_)
      refine hK _ ?_; clear hK K; refine Nav.imp ?_
      refine awp_loop (β := Nat × Int × Int) (fun b => ⟨69, [(2, .ptr 0 0 0), (3, .ptr 1 0 0), (4, .d (.bool false)), (5, .ptr 2 0 0), (6, .ptr 3 0 0), (37, .d (encRows R)), (38, .d (.int .i64 R.length)), (39, .d (.int .i64 b.1))], [(0, some ⟨33, 2, [[.d (.int .i64 0), .d (.int .i64 0)]]⟩), (1, some ⟨33, 2, [[.d (.int .i64 0), .d (.int .i64 0)]]⟩), (2, some ⟨33, 2, [[.d (.int .i64 b.2.1), .d (.int .i64 y0)]]⟩), (3, some ⟨33, 2, [[.d (.int .i64 b.2.2), .d (.int .i64 y1)]]⟩)], 4⟩) (fun b => b.1 ≤ R.length ∧ b.2.1 = lowX (R.take b.1) ∧ b.2.2 = highX (R.take b.1)) (fun b => R.length - b.1) (0, 4096, -4096) ?_ ⟨Nat.zero_le _, by simp [lowX], by simp [highX]⟩ ?_
      · refine weak_of [(0, some 1), (1, some 2), (2, some 19), (3, some 31)] rfl (by simp [upT, up, upL, push_cast]) (by simp [upH, upR, upL, up, push_cast]) (by simp [namesOk, push_cast]) (by simp [olds])
      · rintro ⟨k, a, b⟩ ⟨hk, ha, hb'⟩
        simp only at hk ha hb'
        refine Nav.imp ?_
        refine awp_region cx [] fun K hK => ?_
        simp [push_cast]
        repeat (refine And.intro (by clear hK; intros; first | omega | (simp_all; done) | (simp_all <;> omega)) ?_)
        refine hK _ ?_; clear hK K; refine Nav.imp ?_
        refine awp_cond (b := decide ((k : Int) < R.length)) (by simp [push_cast]) (fun hb => ?_) (fun hb => ?_) <;> (refine Nav.imp ?_)
        · have hlt : k < R.length := by simpa using hb
          obtain ⟨w, hw⟩ := getq hlt
          have f1 := lowX_take hw
          have f2 := highX_take hw
          rw [← ha] at f1
          rw [← hb'] at f2
          have e0 := wrap_i64 (n := (k : Int) + 1) (by omega) (by omega)
          obtain ⟨f, z, hf, hz, q1, q2, q3⟩ := fine_ends (validR_at hv hw).2
          have g1 : fstA w = f.a := by simp [fstA, hf]
          have g2 : lstB w = z.b := by simp [lstB, hz]
          have hwl := hR.2 w (List.mem_of_getElem? hw)
          rw [g1] at f1
          rw [g2] at f2
          obtain ⟨wy, wr⟩ := w
          obtain ⟨fa, fb⟩ := f
          obtain ⟨za, zb⟩ := z
          simp only at hf hz q1 q2 q3 f1 f2 hwl
          have d1 := wrap_i64 (n := (wr.length : Int) - 1) (by omega) (by omega)
          have d2 : ((wr.length : Int) - 1).toNat = wr.length - 1 := by omega
          have d3 : (0 : Int) ≤ (wr.length : Int) - 1 := by omega
          have d4 := wrap_i64 (n := zb - 1) (by omega) (by omega)
          refine awp_region cx [] fun K hK => ?_
          simp [push_cast, hw, Row.row]
          repeat (refine And.intro (by clear hK; intros; first | omega | (simp_all; done) | (simp_all <;> omega)) ?_)
          refine hK _ ?_; clear hK K; refine Nav.imp ?_
          refine awp_region_draw cx mixed [] fun K hK => ?_
          simp [push_cast, hf, Row.row, Run.row]
          repeat (refine And.intro (by clear hK; intros; first | omega | (simp_all; done) | (simp_all <;> omega)) ?_)
          refine hK _ _ (by kernel_rfl) ?_; clear hK K; refine Nav.imp ?_
          refine awp_region_draw cx mixed [] fun K hK => ?_
          simp [push_cast, hz, d1, d2, d3, d4, Row.row, Run.row]
          repeat (refine And.intro (by clear hK; intros; first | omega | (simp_all; done) | (simp_all <;> omega)) ?_)
          refine hK _ _ (by kernel_rfl) ?_; clear hK K; refine Nav.imp ?_
          refine awp_region cx [] fun K hK => ?_
          simp [push_cast, e0]
          repeat (refine And.intro (by clear hK; intros; first | omega | (simp_all; done) | (simp_all <;> omega)) ?_)
          refine hK _ ?_; clear hK K; refine Nav.imp ?_
          refine ⟨(k + 1, min a fa, max b (zb - 1)), ⟨hlt, f1.symm, f2.symm⟩, by simp only; omega, ?_⟩
          refine weak_of [(0, some 0), (1, some 1), (2, some 2), (3, some 3)] rfl (by simp [upT, up, upL, push_cast]) (by simp [upH, upR, upL, up, push_cast]) (by simp [namesOk, push_cast]) (by simp [olds])
        · have hge : k = R.length := by simp at hb; omega
          subst hge
          rw [List.take_length] at ha hb'
          subst ha hb'
          refine awp_region_draw cx mixed [] fun K hK => ?_
          simp [push_cast]
          repeat (refine And.intro (by clear hK; intros; first | omega | (simp_all; done) | (simp_all <;> omega)) ?_)
          refine hK _ _ (by kernel_rfl) ?_; clear hK K; refine Nav.imp ?_
          simp [push_cast]
  · have hlo : boxLo R = ⟨0, 0⟩ := by simp [boxLo, hsm]
    have hhi : boxHi R = ⟨0, 0⟩ := by simp [boxHi, hsm]
    rw [hlo, hhi, Bool.eq_false_iff.2 hsm]
    generalize hv : validR R = v at *
    have hnil : v = true → R = [] := fun h => by
      rw [h] at hv
      cases R with
      | nil => rfl
      | cons a l => exact absurd (by simp [some?, hv]) hsm
    refine pc_of_awp cx (fn := Try.f38) (c := _) Try.func38 rfl rfl (Nat.le_of_ble_eq_true rfl) ?_
    rw [Try.ntmps38]; refine Nav.imp ?_
    refine awp_region cx [] fun K hK => ?_
    simp [push_cast]
    repeat (refine And.intro (by clear hK; intros; first | omega | (simp_all; done) | (simp_all <;> omega)) ?_)
    refine hK _ ?_; clear hK K; refine Nav.imp ?_
    cases v with
    | false =>
      refine awp_region cx [(1, .p (.bool false))] fun K hK => ?_
      simp [push_cast, c1]
      repeat (refine And.intro (by clear hK; intros; first | omega | (simp_all; done) | (simp_all <;> omega)) ?_)
      refine hK _ ?_; clear hK K; refine Nav.imp ?_
      refine awp_cond (b := true) (by simp [push_cast]) (fun hb => ?_) (fun hb => ?_) <;> (refine Nav.imp ?_)
      · refine awp_region cx [] fun K hK => ?_
        simp [push_cast]
        repeat (refine And.intro (by clear hK; intros; first | omega | (simp_all; done) | (simp_all <;> omega)) ?_)
        refine hK _ ?_; clear hK K; refine Nav.imp ?_
        simp [push_cast]
      · simp at hb
    | true =>
      have := hnil rfl
      subst this
      refine awp_region cx [(1, .p (.bool true))] fun K hK => ?_
      simp [push_cast, c1]
      repeat (refine And.intro (by clear hK; intros; first | omega | (simp_all; done) | (simp_all <;> omega)) ?_)
      refine hK _ ?_; clear hK K; refine Nav.imp ?_
      refine awp_cond (b := true) (by simp [push_cast]) (fun hb => ?_) (fun hb => ?_) <;> (refine Nav.imp ?_)
      · refine awp_region cx [] fun K hK => ?_
        simp [push_cast]
        repeat (refine And.intro (by clear hK; intros; first | omega | (simp_all; done) | (simp_all <;> omega)) ?_)
        refine hK _ ?_; clear hK K; refine Nav.imp ?_
        simp [push_cast]
      · simp at hb

set_option maxHeartbeats 1000000 in
theorem rbox_ok (R : List Row) (hR : smallR R) : PC Try.prog 29 [.agg (regRow R)] (.p (boxD R)) := by
  have c1 := validR_ok R hR
  have hl := hR.1
  have hB : boxD R = .tup [.agg (boxLo R).row, .agg (boxHi R).row, .bool (some? R)] := rfl
  rw [hB]
  by_cases hsm : some? R = true
  · have hlo : boxLo R = ⟨lowX R, fstY R⟩ := by simp [boxLo, hsm]
    have hhi : boxHi R = ⟨highX R, lstY R⟩ := by simp [boxHi, hsm]
    rw [hlo, hhi, hsm]
    clear hlo hhi hB
    simp only [some?, Bool.and_eq_true, decide_eq_true_eq] at hsm
    obtain ⟨hv, hpos⟩ := hsm
    rw [hv] at c1
    obtain ⟨w0, hw0⟩ : ∃ w, R[0]? = some w := getq hpos
    obtain ⟨w1, hw1⟩ : ∃ w, R[R.length - 1]? = some w := getq (by omega)
    have hy0 : fstY R = w0.y := by simp [fstY, hw0]
    have hy1 : lstY R = w1.y := by simp [lstY, hw1]
    rw [hy0, hy1]
    clear hy0 hy1
    have e1 := wrap_i64 (n := (R.length : Int) - 1) (by omega) (by omega)
    have e2 : ((R.length : Int) - 1).toNat = R.length - 1 := by omega
    have e3 : (0 : Int) ≤ (R.length : Int) - 1 := by omega
    have e4 : ((R.length : Int) == 0) = false := by simp; rintro rfl; simp at hpos
    obtain ⟨y0, r0⟩ := w0
    obtain ⟨y1, r1⟩ := w1
    refine pc_of_awp cx (fn := Try.f29) (c := _) Try.func29 rfl rfl (Nat.le_of_ble_eq_true rfl) ?_
    rw [Try.ntmps29]; refine Nav.imp ?_
    refine awp_region cx [] fun K hK => ?_
    simp [push_cast]
    repeat (refine And.intro (by clear hK; intros; first | omega | (simp_all; done) | (simp_all <;> omega)) ?_)
    refine hK _ ?_; clear hK K; refine Nav.imp ?_
    refine awp_region cx [(1, .p (.bool true))] fun K hK => ?_
    simp [push_cast, c1]
    repeat (refine And.intro (by clear hK; intros; first | omega | (simp_all; done) | (simp_all <;> omega)) ?_)
    refine hK _ ?_; clear hK K; refine Nav.imp ?_
    refine awp_cond (b := false) (by simp [push_cast, e4]) (fun hb => ?_) (fun hb => ?_) <;> (refine Nav.imp ?_)
    · simp at hb
    · refine awp_region cx [] fun K hK => ?_
      simp [push_cast, hw0, Row.row]
      repeat (refine And.intro (by clear hK; intros; first | omega | (simp_all; done) | (simp_all <;> omega)) ?_)
      refine hK _ ?_; clear hK K; refine Nav.imp ?_
      refine awp_region cx [] fun K hK => ?_
      simp [push_cast, hw1, e1, e2, e3, Row.row]
      repeat (refine And.intro (by clear hK; intros; first | omega | (simp_all; done) | (simp_all <;> omega)) ?_)
      refine hK _ ?_; clear hK K; refine Nav.imp ?_
      refine awp_region cx [] fun K hK => ?_
      simp [push_cast]
      repeat (refine And.intro (by clear hK; intros; first | omega | (simp_all; done) | (simp_all <;> omega)) ?_)
      refine hK _ ?_; clear hK K; refine Nav.imp ?_
      refine awp_loop (β := Nat × Int × Int) (fun b => ⟨71, [(1, .ptr 4 0 0), (2, .ptr 0 0 0), (3, .ptr 1 0 0), (4, .d (.bool false)), (5, .ptr 2 0 0), (6, .ptr 3 0 0), (7, .d (.int .i64 b.1))], [(0, some ⟨33, 2, [[.d (.int .i64 0), .d (.int .i64 0)]]⟩), (1, some ⟨33, 2, [[.d (.int .i64 0), .d (.int .i64 0)]]⟩), (2, some ⟨33, 2, [[.d (.int .i64 b.2.1), .d (.int .i64 y0)]]⟩), (3, some ⟨33, 2, [[.d (.int .i64 b.2.2), .d (.int .i64 y1)]]⟩), (4, some ⟨24, 1, [(regRow R).map .d]⟩)], 5⟩) (fun b => b.1 ≤ R.length ∧ b.2.1 = lowX (R.take b.1) ∧ b.2.2 = highX (R.take b.1)) (fun b => R.length - b.1) (0, 4096, -4096) ?_ ⟨Nat.zero_le _, by simp [lowX], by simp [highX]⟩ ?_
      · refine weak_of [(0, some 1), (1, some 2), (2, some 19), (3, some 31), (4, some 0)] rfl (by simp [upT, up, upL, push_cast]) (by simp [upH, upR, upL, up, push_cast]) (by simp [namesOk, push_cast]) (by simp [olds])
      · rintro ⟨k, a, b⟩ ⟨hk, ha, hb'⟩
        simp only at hk ha hb'
        refine Nav.imp ?_
        refine awp_region cx [] fun K hK => ?_
        simp [push_cast]
        repeat (refine And.intro (by clear hK; intros; first | omega | (simp_all; done) | (simp_all <;> omega)) ?_)
        refine hK _ ?_; clear hK K; refine Nav.imp ?_
        refine awp_cond (b := decide ((k : Int) < R.length)) (by simp [push_cast]) (fun hb => ?_) (fun hb => ?_) <;> (refine Nav.imp ?_)
        · have hlt : k < R.length := by simpa using hb
          obtain ⟨w, hw⟩ := getq hlt
          have f1 := lowX_take hw
          have f2 := highX_take hw
          rw [← ha] at f1
          rw [← hb'] at f2
          have e0 := wrap_i64 (n := (k : Int) + 1) (by omega) (by omega)
          obtain ⟨f, z, hf, hz, q1, q2, q3⟩ := fine_ends (validR_at hv hw).2
          have g1 : fstA w = f.a := by simp [fstA, hf]
          have g2 : lstB w = z.b := by simp [lstB, hz]
          have hwl := hR.2 w (List.mem_of_getElem? hw)
          rw [g1] at f1
          rw [g2] at f2
          obtain ⟨wy, wr⟩ := w
          obtain ⟨fa, fb⟩ := f
          obtain ⟨za, zb⟩ := z
          simp only at hf hz q1 q2 q3 f1 f2 hwl
          have d1 := wrap_i64 (n := (wr.length : Int) - 1) (by omega) (by omega)
          have d2 : ((wr.length : Int) - 1).toNat = wr.length - 1 := by omega
          have d3 : (0 : Int) ≤ (wr.length : Int) - 1 := by omega
          have d4 := wrap_i64 (n := zb - 1) (by omega) (by omega)
          refine awp_region cx [] fun K hK => ?_
          simp [push_cast, hw, Row.row]
          repeat (refine And.intro (by clear hK; intros; first | omega | (simp_all; done) | (simp_all <;> omega)) ?_)
          refine hK _ ?_; clear hK K; refine Nav.imp ?_
          refine awp_region_draw cx mixed [] fun K hK => ?_
          simp [push_cast, hf, Row.row, Run.row]
          repeat (refine And.intro (by clear hK; intros; first | omega | (simp_all; done) | (simp_all <;> omega)) ?_)
          refine hK _ _ (by kernel_rfl) ?_; clear hK K; refine Nav.imp ?_
          refine awp_region_draw cx mixed [] fun K hK => ?_
          simp [push_cast, hz, d1, d2, d3, d4, Row.row, Run.row]
          repeat (refine And.intro (by clear hK; intros; first | omega | (simp_all; done) | (simp_all <;> omega)) ?_)
          refine hK _ _ (by kernel_rfl) ?_; clear hK K; refine Nav.imp ?_
          refine awp_region cx [] fun K hK => ?_
          simp [push_cast, e0]
          repeat (refine And.intro (by clear hK; intros; first | omega | (simp_all; done) | (simp_all <;> omega)) ?_)
          refine hK _ ?_; clear hK K; refine Nav.imp ?_
          refine ⟨(k + 1, min a fa, max b (zb - 1)), ⟨hlt, f1.symm, f2.symm⟩, by simp only; omega, ?_⟩
          refine weak_of [(0, some 0), (1, some 1), (2, some 2), (3, some 3), (4, some 4)] rfl (by simp [upT, up, upL, push_cast]) (by simp [upH, upR, upL, up, push_cast]) (by simp [namesOk, push_cast]) (by simp [olds])
        · have hge : k = R.length := by simp at hb; omega
          subst hge
          rw [List.take_length] at ha hb'
          subst ha hb'
          refine awp_region_draw cx mixed [] fun K hK => ?_
          simp [push_cast]
          repeat (refine And.intro (by clear hK; intros; first | omega | (simp_all; done) | (simp_all <;> omega)) ?_)
          refine hK _ _ (by kernel_rfl) ?_; clear hK K; refine Nav.imp ?_
          simp [push_cast]
  · have hlo : boxLo R = ⟨0, 0⟩ := by simp [boxLo, hsm]
    have hhi : boxHi R = ⟨0, 0⟩ := by simp [boxHi, hsm]
    rw [hlo, hhi, Bool.eq_false_iff.2 hsm]
    generalize hv : validR R = v at *
    have hnil : v = true → R = [] := fun h => by
      rw [h] at hv
      cases R with
      | nil => rfl
      | cons a l => exact absurd (by simp [some?, hv]) hsm
    refine pc_of_awp cx (fn := Try.f29) (c := _) Try.func29 rfl rfl (Nat.le_of_ble_eq_true rfl) ?_
    rw [Try.ntmps29]; refine Nav.imp ?_
    refine awp_region cx [] fun K hK => ?_
    simp [push_cast]
    repeat (refine And.intro (by clear hK; intros; first | omega | (simp_all; done) | (simp_all <;> omega)) ?_)
    refine hK _ ?_; clear hK K; refine Nav.imp ?_
    cases v with
    | false =>
      refine awp_region cx [(1, .p (.bool false))] fun K hK => ?_
      simp [push_cast, c1]
      repeat (refine And.intro (by clear hK; intros; first | omega | (simp_all; done) | (simp_all <;> omega)) ?_)
      refine hK _ ?_; clear hK K; refine Nav.imp ?_
      refine awp_cond (b := true) (by simp [push_cast]) (fun hb => ?_) (fun hb => ?_) <;> (refine Nav.imp ?_)
      · refine awp_region cx [] fun K hK => ?_
        simp [push_cast]
        repeat (refine And.intro (by clear hK; intros; first | omega | (simp_all; done) | (simp_all <;> omega)) ?_)
        refine hK _ ?_; clear hK K; refine Nav.imp ?_
        simp [push_cast]
      · simp at hb
    | true =>
      have := hnil rfl
      subst this
      refine awp_region cx [(1, .p (.bool true))] fun K hK => ?_
      simp [push_cast, c1]
      repeat (refine And.intro (by clear hK; intros; first | omega | (simp_all; done) | (simp_all <;> omega)) ?_)
      refine hK _ ?_; clear hK K; refine Nav.imp ?_
      refine awp_cond (b := true) (by simp [push_cast]) (fun hb => ?_) (fun hb => ?_) <;> (refine Nav.imp ?_)
      · refine awp_region cx [] fun K hK => ?_
        simp [push_cast]
        repeat (refine And.intro (by clear hK; intros; first | omega | (simp_all; done) | (simp_all <;> omega)) ?_)
        refine hK _ ?_; clear hK K; refine Nav.imp ?_
        simp [push_cast]
      · simp at hb
end Go.Proofs.Ytagakfaiimaifaa
