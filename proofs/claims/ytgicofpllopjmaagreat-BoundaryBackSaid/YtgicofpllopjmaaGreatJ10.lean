/-
  Texts of this seat put together: BK4, BK5, AbsH, BW3, BW12, BD6, BK6, BK7.
-/
import Derived.Test.YtgicofpllopjmaaGreatJ9
import Derived.Test.YtgicofpllopjmaaGreatJ5
import Derived.Test.YtgicofpllopjmaaGreatJ8
import Derived.Test.YtgicofpllopjmaaGreatJ7
import Derived.Maps.RangeRun
set_option linter.unusedVariables false
set_option linter.unusedSimpArgs false
set_option maxRecDepth 100000
namespace Go.Proofs.YtgicofpllopjmaaGreat
open Go.Abs

def endsL (U : List Up) : List Int := U.flatMap fun u => [u.lo, u.hi]
def bandRows (U : List Up) (lo hi : Int) : List Row := if bandL U lo = [] then [] else (List.range (hi - lo).toNat).map fun k : Nat => ⟨lo + k, bandL U lo⟩
def bandAt (U : List Up) (C : List Int) (i : Nat) : List Row := match C[i]?, C[i + 1]? with
  | some lo, some hi => bandRows U lo hi
  | _, _ => []
def endsC (U : List Up) : List Int := Go.Lib.compact ((endsL U).mergeSort fun x y => decide (x ≤ y))
def backRows (U : List Up) : List Row := (List.range ((endsC U).length - 1)).flatMap (bandAt U (endsC U))
structure FineU (u : Up) : Prop where
  x : -4096 ≤ u.x ∧ u.x ≤ 4096
  y : -4096 ≤ u.lo ∧ u.lo < u.hi ∧ u.hi ≤ 4096
  s : u.s = 1 ∨ u.s = -1
theorem badE_bd {a b : Cell} (h : badE a b = false) : (-4096 ≤ a.x ∧ a.x ≤ 4096) ∧ -4096 ≤ a.y ∧ a.y ≤ 4096 := by
  unfold badE at h
  simp only [Bool.or_eq_false_iff, decide_eq_false_iff_not] at h
  have h1 := h.1.1
  have h2 := h.1.2
  omega
theorem ups_fine {l : List (List Cell)} (h : badL l = false) : ∀ u ∈ ups l, FineU u := by
  intro u hu
  obtain ⟨P, hP, hu⟩ := List.mem_flatMap.1 hu
  obtain ⟨k, hk, hu⟩ := List.mem_flatMap.1 hu
  rw [List.mem_range] at hk
  have hg : ∀ j, j < P.length → badAt P j = false := fun j hj => by
    cases hc : badAt P j with
    | false => rfl
    | true =>
      obtain ⟨i, hi⟩ := List.mem_iff_getElem?.1 hP
      rw [bad_of hi hj hc] at h; cases h
  have hm : (k + 1) % P.length < P.length := Nat.mod_lt _ (by omega)
  obtain ⟨a, ha⟩ := getq hk
  obtain ⟨b, hb⟩ := getq hm
  obtain ⟨c, hc⟩ := getq (l := P) (k := ((k + 1) % P.length + 1) % P.length) (Nat.mod_lt _ (by omega))
  have h1 := hg k hk
  have h2 := hg _ hm
  rw [badAt_some ha hb] at h1
  rw [badAt_some hb hc] at h2
  have b1 := badE_bd h1
  have b2 := badE_bd h2
  rw [edgeAt_some ha hb] at hu
  unfold edge at hu
  split at hu
  · have hu := List.mem_singleton.1 hu
    subst hu
    exact ⟨b1.1, by simp only; omega, .inl rfl⟩
  · split at hu
    · have hu := List.mem_singleton.1 hu
      subst hu
      exact ⟨b1.1, by simp only; omega, .inr rfl⟩
    · cases hu
theorem endsL_take {U : List Up} {i : Nat} {u : Up} (h : U[i]? = some u) : endsL (U.take (i + 1)) = endsL (U.take i) ++ [u.lo, u.hi] := flat_take (fun u : Up => [u.lo, u.hi]) h
theorem endsL_len : ∀ U : List Up, (endsL U).length = 2 * U.length
  | [] => rfl
  | u :: U => by
    have := endsL_len U
    simp only [endsL, List.flatMap_cons, List.length_append, List.length_cons, List.length_nil] at *
    omega
theorem bandRows_len (U : List Up) (lo hi : Int) (h1 : -4096 ≤ lo) (h2 : hi ≤ 4096) : (bandRows U lo hi).length ≤ 8192 := by
  unfold bandRows
  split
  · simp
  · simp; omega
theorem bandL_facts {U : List Up} (h : ∀ u ∈ U, FineU u) (y : Int) : Apart (bandL U y) ∧ (∀ r ∈ bandL U y, -4096 ≤ r.a ∧ r.b ≤ 4096) ∧ ∀ x, inR (bandL U y) x = inR (bandF U y).1 x := by
  obtain ⟨h1, h2⟩ := norm_facts (bandF U y).1
  refine ⟨h1, ?_, h2⟩
  have hb := (bandF_ok U y (fun u hu => ⟨(h u hu).x, by have := (h u hu).s; omega⟩) U.length (Nat.le_refl _)).2.1
  rw [List.take_length] at hb
  refine apart_bounds h1 fun z hz => ?_
  rw [h2] at hz
  obtain ⟨r, hr, h3, h4⟩ := inR_iff.1 hz
  have := hb r hr
  omega
theorem bandL_len {U : List Up} (h : ∀ u ∈ U, FineU u) (y : Int) : (bandL U y).length ≤ 8192 := by
  obtain ⟨h1, h2, _⟩ := bandL_facts h y
  have := apart_len h1 h2
  omega
set_option maxHeartbeats 16000000 in
theorem back_ok (l : List (List Cell)) (hl : l.length ≤ 1000000) (hp : ∀ P ∈ l, P.length ≤ 1000000) (hs : (l.map List.length).sum ≤ 1000000) (B : List Row) (hB : badL l = false → ∀ U : List Up, U.Perm (ups l) → (U.Pairwise fun p q => q.x ≤ p.x) → backRows U = B) :
    PC Tryz.prog 16 [encPs l] (.p (.tup [.agg (regRow (if badL l then [] else B)), .int .i64 (if badL l then 1 else 0)])) := by
  have d1 := uprights_pxe l hl hp hs
  refine pc_of_awp cx (fn := Tryz.f16) (c := _) Tryz.func16 rfl rfl (Nat.le_of_ble_eq_true rfl) ?_
  rw [Tryz.ntmps16]; refine Nav.imp ?_
  refine awp_region cx [] fun K hK => ?_
  simp [push_cast]
  repeat (refine And.intro (by clear hK; intros; first | omega | (simp_all; done) | (simp_all <;> omega)) ?_)
  refine hK _ ?_; clear hK K; refine Nav.imp ?_
  refine awp_regionE cx [] (l := [_, _, _, _, _, _, _]) (pre := [_]) (post := [_, _, _, _, _]) rfl rfl rfl rfl 0 ⟨[], [.d (encPs l)], [], [], none, [], .any⟩ (upOut l) [(3, 0)] fun K hK => ?_
  simp [push_cast, freshOk, obE, effY]
  refine ⟨d1, ?_⟩
  rintro hp' r (⟨hb1, rfl, rfl⟩ | ⟨hb1, U, hU1, hU2, rfl, rfl⟩)
  · simp [push_cast]
    refine hK _ ?_; clear hK K; refine Nav.imp ?_
    rw [hb1]
    refine awp_region cx [] fun K hK => ?_
    simp [push_cast]
    repeat (refine And.intro (by clear hK; intros; first | omega | (simp_all; done) | (simp_all <;> omega)) ?_)
    refine hK _ ?_; clear hK K; refine Nav.imp ?_
    refine awp_cond (b := true) (by simp [push_cast]) (fun hb => ?_) (fun hb => ?_) <;> (refine Nav.imp ?_)
    · refine awp_region cx [] fun K hK => ?_
      simp [push_cast]
      repeat (refine And.intro (by clear hK; intros; first | omega | (simp_all; done) | (simp_all <;> omega)) ?_)
      refine hK _ ?_; clear hK K; refine Nav.imp ?_
      simp [push_cast]
    · simp at hb
  · simp [push_cast]
    refine hK _ ?_; clear hK K; refine Nav.imp ?_
    have hB := hB hb1 U hU1 hU2
    have hfine : ∀ u ∈ U, FineU u := fun u hu => ups_fine hb1 u (hU1.mem_iff.1 hu)
    have hUl : U.length ≤ 1000000 := by
      have h1 := hU1.length_eq
      have h2 := ups_len l
      omega
    rw [hb1]
    simp only [Bool.false_eq_true, if_false]
    clear hU1 hU2 d1 hp hs hb1
    refine awp_freeze 3 (U.map Up.row) rfl (by simp [push_cast]) fun K hK => ?_
    simp [push_cast, St.fz, fzT, fzH, fzO, fz, fzL, fzR, fzR_dr, fzR_app, fzR_set, fzL_map]
    refine hK _ ?_; clear hK K; refine Nav.imp ?_
    refine awp_region cx [] fun K hK => ?_
    simp [push_cast]
    repeat (refine And.intro (by clear hK; intros; first | omega | (simp_all; done) | (simp_all <;> omega)) ?_)
    refine hK _ ?_; clear hK K; refine Nav.imp ?_
    refine awp_cond (b := false) (by simp [push_cast]) (fun hb => ?_) (fun hb => ?_) <;> (refine Nav.imp ?_)
    · simp at hb
    · refine awp_region cx [] fun K hK => ?_
      simp [push_cast]
      repeat (refine And.intro (by clear hK; intros; first | omega | (simp_all; done) | (simp_all <;> omega)) ?_)
      refine hK _ ?_; clear hK K; refine Nav.imp ?_
      refine awp_region cx [] fun K hK => ?_
      simp [push_cast]
      repeat (refine And.intro (by clear hK; intros; first | omega | (simp_all; done) | (simp_all <;> omega)) ?_)
      refine hK _ ?_; clear hK K; refine Nav.imp ?_
      refine awp_loop (β := Nat) (fun i => ⟨80, [(2, .ptr 0 0 0), (4, .d (.sl (U.map Up.row))), (6, .hs 1 0 (endsL (U.take i)).length), (21, .d (.sl (U.map Up.row))), (22, .d (.int .i64 U.length)), (23, .d (.int .i64 i))], [(0, some ⟨24, 1, [[.nl]]⟩), (1, some ⟨3, 1, dr ((endsL (U.take i)).map iRow)⟩)], 2⟩) (fun i => i ≤ U.length) (fun i => U.length - i) 0 ?_ (Nat.zero_le _) ?_
      · refine weak_of [(0, some 0), (1, none)] rfl (by simp [upT, up, upL, push_cast, endsL]) (by simp [upH, upR, upL, up, push_cast, endsL]) (by simp [namesOk, push_cast]) (by simp [olds])
      · intro i hi
        refine Nav.imp ?_
        refine awp_region cx [] fun K hK => ?_
        simp [push_cast]
        repeat (refine And.intro (by clear hK; intros; first | omega | (simp_all; done) | (simp_all <;> omega)) ?_)
        refine hK _ ?_; clear hK K; refine Nav.imp ?_
        refine awp_cond (b := decide ((i : Int) < U.length)) (by simp [push_cast]) (fun hb => ?_) (fun hb => ?_) <;> (refine Nav.imp ?_)
        · have hlt : i < U.length := by simpa using hb
          obtain ⟨u, hu⟩ := getq hlt
          have hnx := endsL_take hu
          have hel := endsL_len (U.take i)
          rw [List.length_take, Nat.min_eq_left hi] at hel
          have e0 := wrap_i64 (n := (i : Int) + 1) (by omega) (by omega)
          generalize hE1 : endsL (U.take (i + 1)) = E1 at hnx
          generalize endsL (U.take i) = E at *
          have h8 : (E.length + 2) * 8 ≤ 140737488355328 := by omega
          refine awp_region cx [] fun K hK => ?_
          simp [push_cast, hu]
          repeat (refine And.intro (by clear hK; intros; first | omega | (simp_all; done) | (simp_all <;> omega)) ?_)
          refine hK _ ?_; clear hK K; refine Nav.imp ?_
          refine awp_region cx [] fun K hK => ?_
          simp [push_cast, h8]
          repeat (refine And.intro (by clear hK; intros; first | omega | (simp_all; done) | (simp_all <;> omega)) ?_)
          refine hK _ ?_; clear hK K; refine Nav.imp ?_
          refine awp_region cx [] fun K hK => ?_
          simp [push_cast, e0]
          repeat (refine And.intro (by clear hK; intros; first | omega | (simp_all; done) | (simp_all <;> omega)) ?_)
          refine hK _ ?_; clear hK K; refine Nav.imp ?_
          refine ⟨i + 1, hlt, by omega, ?_⟩
          refine weak_of [(0, some 0), (1, some 13)] rfl (by simp [upT, up, upL, push_cast, hE1, hnx]) (by simp [upH, upR, upL, up, push_cast, hE1, hnx]) (by simp [namesOk, push_cast]) (by simp [olds])
        · have hie : i = U.length := by simp at hb; omega
          subst hie
          rw [List.take_length]
          have hEb : ∀ e ∈ endsL U, -4096 ≤ e ∧ e ≤ 4096 := fun e he => by
            obtain ⟨u, hu, he⟩ := List.mem_flatMap.1 he
            have := (hfine u hu).y
            simp at he
            rcases he with rfl | rfl <;> omega
          have hEl := endsL_len U
          have hC0 : endsC U = Go.Lib.compact ((endsL U).mergeSort fun x y => decide (x ≤ y)) := rfl
          have d1 := sortInts_px (endsL U) (by omega)
          have hsl : ((endsL U).mergeSort fun x y => decide (x ≤ y)).length = (endsL U).length := List.length_mergeSort _
          have hsm : ∀ e ∈ (endsL U).mergeSort fun x y => decide (x ≤ y), -4096 ≤ e ∧ e ≤ 4096 := fun e he => hEb e ((List.mergeSort_perm _ _).mem_iff.1 he)
          have hsp : ((endsL U).mergeSort fun x y => decide (x ≤ y)).Pairwise (· ≤ ·) := by
            have := List.pairwise_mergeSort (le := fun x y : Int => decide (x ≤ y)) (fun a b c h1 h2 => by simp at *; omega) (fun a b => by simp; omega) (endsL U)
            exact this.imp fun {a b} h => by simpa using h
          have hBdef : backRows U = (List.range ((endsC U).length - 1)).flatMap (bandAt U (endsC U)) := rfl
          rw [hB] at hBdef
          generalize hE : endsL U = E at *
          generalize hS : (E.mergeSort fun x y => decide (x ≤ y)) = S at *
          have d2 := compactInts_px S (by omega)
          obtain ⟨q1, q2⟩ := compact_sorted hsp
          have hcl := Go.Lib.compact_length_le S
          rw [hC0] at hBdef
          have hCb : ∀ e ∈ Go.Lib.compact S, -4096 ≤ e ∧ e ≤ 4096 := fun e he => hsm e ((q2 e).1 he)
          generalize hCc : Go.Lib.compact S = C at *
          generalize hZs : List.replicate (S.length - C.length) (0 : Int) = Zs at *
          have htk : List.take C.length ((C ++ Zs).map iRow) = C.map iRow := by rw [List.map_append, List.take_left' (by simp)]
          have hCl : C.length ≤ 2000000 := by omega
          have hCle : C.length ≤ (C ++ Zs).length := by simp
          generalize hEE : C ++ Zs = EE at *
          refine awp_region cx [(1, .x ⟨[(0, 1)], [.hs 0 0 E.length], [(0, ⟨3, 1, dr (E.map iRow)⟩)], [(0, 0)], none, [(0, ⟨3, 1, dr (S.map iRow)⟩)], .tup []⟩)] fun K hK => ?_
          simp [push_cast, d1]
          repeat (refine And.intro (by clear hK; intros; first | omega | (simp_all; done) | (simp_all <;> omega)) ?_)
          refine hK _ ?_; clear hK K; refine Nav.imp ?_
          rw [← hsl]
          refine awp_region cx [(1, .x ⟨[(0, 1)], [.hs 0 0 S.length], [(0, ⟨3, 1, dr (S.map iRow)⟩)], [(0, 0)], none, [(0, ⟨3, 1, dr (EE.map iRow)⟩)], .hs 0 0 C.length⟩)] fun K hK => ?_
          simp [push_cast, d2]
          repeat (refine And.intro (by clear hK; intros; first | omega | (simp_all; done) | (simp_all <;> omega)) ?_)
          refine hK _ ?_; clear hK K; refine Nav.imp ?_
          refine awp_freeze 1 (EE.map iRow) rfl (by simp [push_cast, htk, hCle]) fun K hK => ?_
          simp [push_cast, St.fz, fzT, fzH, fzO, fz, fzL, fzR, fzR_dr, fzR_app, fzR_set, fzL_map, htk, hCle]
          refine hK _ ?_; clear hK K; refine Nav.imp ?_
          refine awp_region cx [] fun K hK => ?_
          simp [push_cast]
          repeat (refine And.intro (by clear hK; intros; first | omega | (simp_all; done) | (simp_all <;> omega)) ?_)
          refine hK _ ?_; clear hK K; refine Nav.imp ?_
          refine awp_region cx [] fun K hK => ?_
          simp [push_cast]
          repeat (refine And.intro (by clear hK; intros; first | omega | (simp_all; done) | (simp_all <;> omega)) ?_)
          refine hK _ ?_; clear hK K; refine Nav.imp ?_
          refine awp_loop (β := Nat × List Row) (fun s => ⟨80, [(2, .ptr 0 0 0), (4, .d (.sl (U.map Up.row))), (6, .d (.sl (C.map iRow))), (9, .ptr 1 0 0), (10, .d (.int .i64 s.1))], [(0, some ⟨24, 1, [[.nl]]⟩), (1, some ⟨24, 1, [[.hs 2 0 s.2.length]]⟩), (2, some ⟨50, 2, dr (s.2.map Row.row)⟩)], 3⟩) (fun s => (s.1 = 0 ∨ s.1 < C.length) ∧ s.2 = (List.range s.1).flatMap (bandAt U C) ∧ s.2.length ≤ s.1 * 8192) (fun s => C.length - s.1) (0, []) ?_ ⟨.inl rfl, by simp, by simp⟩ ?_
          · refine weak_of [(0, some 0), (1, some 8), (2, none)] rfl (by simp [upT, up, upL, push_cast]) (by simp [upH, upR, upL, up, push_cast]) (by simp [namesOk, push_cast]) (by simp [olds])
          · rintro ⟨i, Z⟩ ⟨hi, hZ, hZl⟩
            simp only at hi hZ hZl
            have e0 := wrap_i64 (n := (i : Int) + 1) (by omega) (by omega)
            refine Nav.imp ?_
            refine awp_region cx [] fun K hK => ?_
            simp [push_cast, e0]
            repeat (refine And.intro (by clear hK; intros; first | omega | (simp_all; done) | (simp_all <;> omega)) ?_)
            refine hK _ ?_; clear hK K; refine Nav.imp ?_
            refine awp_cond (b := decide ((i : Int) + 1 < C.length)) (by simp [push_cast]) (fun hb => ?_) (fun hb => ?_) <;> (refine Nav.imp ?_)
            · have hlt : i + 1 < C.length := by simp at hb; omega
              obtain ⟨lo, hlo⟩ := getq (l := C) (k := i) (by omega)
              obtain ⟨hi', hhi⟩ := getq hlt
              have hlb := hCb lo (List.mem_of_getElem? hlo)
              have hhb := hCb hi' (List.mem_of_getElem? hhi)
              have hba : bandAt U C i = bandRows U lo hi' := by simp only [bandAt, hlo, hhi]
              have hnx := flat_rg (bandAt U C) i
              rw [hba, ← hZ] at hnx
              have c1 := band_ok U lo hUl (fun u hu => ⟨(hfine u hu).x, by have := (hfine u hu).s; omega⟩)
              have hbr : bandRows U lo hi' = if bandL U lo = [] then [] else (List.range (hi' - lo).toNat).map fun k : Nat => ⟨lo + k, bandL U lo⟩ := rfl
              have hxl := bandL_len hfine lo
              have hbl := bandRows_len U lo hi' hlb.1 hhb.2
              generalize hbR : bandRows U lo hi' = bR at *
              generalize bandL U lo = x at *
              have c2 := cloneR_ok x (by omega)
              refine awp_region cx [(5, .p (encRuns x))] fun K hK => ?_
              simp [push_cast, hlo, c1]
              repeat (refine And.intro (by clear hK; intros; first | omega | (simp_all; done) | (simp_all <;> omega)) ?_)
              refine hK _ ?_; clear hK K; refine Nav.imp ?_
              refine awp_region cx [] fun K hK => ?_
              simp [push_cast, hlo]
              repeat (refine And.intro (by clear hK; intros; first | omega | (simp_all; done) | (simp_all <;> omega)) ?_)
              refine hK _ ?_; clear hK K; refine Nav.imp ?_
              refine awp_loop (β := Nat × List Row) (fun s => ⟨80, [(2, .ptr 0 0 0), (4, .d (.sl (U.map Up.row))), (6, .d (.sl (C.map iRow))), (9, .ptr 1 0 0), (10, .d (.int .i64 i)), (11, .d (encRuns x)), (12, .d (.int .i64 (lo + s.1)))], [(0, some ⟨24, 1, [[.nl]]⟩), (1, some ⟨24, 1, [[.hs 2 0 s.2.length]]⟩), (2, some ⟨50, 2, dr (s.2.map Row.row)⟩)], 3⟩) (fun s => s.1 ≤ (hi' - lo).toNat ∧ (x = [] → s.1 = 0) ∧ s.2 = Z ++ (List.range s.1).map fun k : Nat => ⟨lo + k, x⟩) (fun s => (hi' - lo).toNat - s.1) (0, Z) ?_ ⟨Nat.zero_le _, fun _ => rfl, by simp⟩ ?_
              · simp only [Int.natCast_zero, Int.add_zero]
                refine weak_of [(0, some 0), (1, some 1), (2, some 2)] rfl (by simp [upT, up, upL, push_cast]) (by simp [upH, upR, upL, up, push_cast]) (by simp [namesOk, push_cast]) (by simp [olds])
              · rintro ⟨k, Y⟩ ⟨hk, hx0, hY⟩
                simp only at hk hx0 hY
                have hYl : Y.length = Z.length + k := by rw [hY]; simp
                refine Nav.imp ?_
                by_cases g1 : lo + (k : Int) < hi'
                · cases x with
                  | nil =>
                    have hk0 := hx0 rfl
                    subst hk0
                    have hY0 : Y = Z := by rw [hY]; simp
                    rw [if_pos rfl] at hbr
                    rw [hbr, List.append_nil, ← hY0] at hnx
                    refine awp_region cx [] fun K hK => ?_
                    simp [push_cast, e0, hhi, g1]
                    repeat (refine And.intro (by clear hK; intros; first | omega | (simp_all; done) | (simp_all <;> omega)) ?_)
                    refine hK _ ?_; clear hK K; refine Nav.imp ?_
                    refine awp_cond (b := false) (by simp [push_cast]) (fun hb => ?_) (fun hb => ?_) <;> (refine Nav.imp ?_)
                    · simp at hb
                    · refine awp_region cx [] fun K hK => ?_
                      simp [push_cast, e0]
                      repeat (refine And.intro (by clear hK; intros; first | omega | (simp_all; done) | (simp_all <;> omega)) ?_)
                      refine hK _ ?_; clear hK K; refine Nav.imp ?_
                      refine ⟨(i + 1, Y), ⟨.inr hlt, hnx.symm, by rw [hY0]; simp only; omega⟩, by simp only; omega, ?_⟩
                      refine weak_of [(0, some 0), (1, some 1), (2, some 2)] rfl (by simp [upT, up, upL, push_cast]) (by simp [upH, upR, upL, up, push_cast]) (by simp [namesOk, push_cast]) (by simp [olds])
                  | cons x0 xs =>
                    have hYn : Y ++ [⟨lo + k, x0 :: xs⟩] = Z ++ (List.range (k + 1)).map fun k : Nat => ⟨lo + k, x0 :: xs⟩ := by rw [hY, List.range_succ, List.map_append]; simp
                    have e1 := wrap_i64 (n := lo + (k : Int) + 1) (by omega) (by omega)
                    have h32 : (Y.length + 1) * 32 ≤ 140737488355328 := by omega
                    have e2 : lo + ((k + 1 : Nat) : Int) = lo + k + 1 := by omega
                    generalize hxx : x0 :: xs = x at *
                    have hxp : 0 < x.length := by rw [← hxx]; simp
                    have hxp2 : (0 : Int) < x.length := by omega
                    refine awp_region cx [] fun K hK => ?_
                    simp [push_cast, e0, hhi, g1]
                    repeat (refine And.intro (by clear hK; intros; first | omega | (simp_all; done) | (simp_all <;> omega)) ?_)
                    refine hK _ ?_; clear hK K; refine Nav.imp ?_
                    refine awp_cond (b := true) (by simp [push_cast, hxp, hxp2, g1]) (fun hb => ?_) (fun hb => ?_) <;> (refine Nav.imp ?_)
                    · refine awp_region_draw cx mixed [(4, .f (encRuns x))] fun K hK => ?_
                      simp [push_cast, c2, h32]
                      repeat (refine And.intro (by clear hK; intros; first | omega | (simp_all; done) | (simp_all <;> omega)) ?_)
                      refine hK _ _ (by kernel_rfl) ?_; clear hK K; refine Nav.imp ?_
                      refine awp_region cx [] fun K hK => ?_
                      simp [push_cast, e1]
                      repeat (refine And.intro (by clear hK; intros; first | omega | (simp_all; done) | (simp_all <;> omega)) ?_)
                      refine hK _ ?_; clear hK K; refine Nav.imp ?_
                      refine ⟨(k + 1, Y ++ [⟨lo + k, x⟩]), ⟨by simp only; omega, fun h => by rw [h] at hxp; simp at hxp, hYn⟩, by simp only; omega, ?_⟩
                      simp only [e2]
                      refine weak_of [(0, some 0), (1, some 1), (2, some 22)] rfl (by simp [upT, up, upL, push_cast]) (by simp [upH, upR, upL, up, push_cast]) (by simp [namesOk, push_cast]) (by simp [olds])
                    · simp at hb
                · have hke : k = (hi' - lo).toNat := by omega
                  have hbY : Y = Z ++ bR := by
                    rw [hY, hbr, hke]
                    by_cases h : x = []
                    · rw [if_pos h, ← hke, hx0 h]; simp
                    · rw [if_neg h]
                  refine awp_region cx [] fun K hK => ?_
                  simp [push_cast, e0, hhi, g1]
                  repeat (refine And.intro (by clear hK; intros; first | omega | (simp_all; done) | (simp_all <;> omega)) ?_)
                  refine hK _ ?_; clear hK K; refine Nav.imp ?_
                  refine awp_cond (b := false) (by simp [push_cast, g1]) (fun hb => ?_) (fun hb => ?_) <;> (refine Nav.imp ?_)
                  · simp at hb
                  · refine awp_region cx [] fun K hK => ?_
                    simp [push_cast, e0]
                    repeat (refine And.intro (by clear hK; intros; first | omega | (simp_all; done) | (simp_all <;> omega)) ?_)
                    refine hK _ ?_; clear hK K; refine Nav.imp ?_
                    refine ⟨(i + 1, Y), ⟨.inr hlt, by rw [hnx, hbY], by rw [hbY, List.length_append]; simp only; omega⟩, by simp only; omega, ?_⟩
                    refine weak_of [(0, some 0), (1, some 1), (2, some 2)] rfl (by simp [upT, up, upL, push_cast]) (by simp [upH, upR, upL, up, push_cast]) (by simp [namesOk, push_cast]) (by simp [olds])
            · have hie : i = C.length - 1 := by simp at hb; omega
              have hBZ : B = Z := by rw [hBdef, hZ, hie]
              rw [hBZ]
              refine awp_freeze 2 (Z.map Row.row) rfl (by simp [push_cast]) fun K hK => ?_
              simp [push_cast, St.fz, fzT, fzH, fzO, fz, fzL, fzR, fzR_dr, fzR_app, fzR_set, fzL_map]
              refine hK _ ?_; clear hK K; refine Nav.imp ?_
              refine awp_region cx [] fun K hK => ?_
              simp [push_cast]
              repeat (refine And.intro (by clear hK; intros; first | omega | (simp_all; done) | (simp_all <;> omega)) ?_)
              refine hK _ ?_; clear hK K; refine Nav.imp ?_
              simp [push_cast]
end Go.Proofs.YtgicofpllopjmaaGreat

namespace Go.Proofs.YtgicofpllopjmaaGreat
open Go.Abs

def act (y : Int) (u : Up) : Bool := decide (u.lo ≤ y) && decide (y < u.hi)
def wS (U : List Up) (x y : Int) : Int := ((U.filter fun u => act y u && decide (x < u.x)).map (·.s)).sum
def tot (U : List Up) (y : Int) : Int := ((U.filter (act y)).map (·.s)).sum
theorem wS_app (A B : List Up) (x y : Int) : wS (A ++ B) x y = wS A x y + wS B x y := by simp [wS, List.filter_append]
theorem tot_app (A B : List Up) (y : Int) : tot (A ++ B) y = tot A y + tot B y := by simp [tot, List.filter_append]
theorem wS_one (u : Up) (x y : Int) : wS [u] x y = if (act y u && decide (x < u.x)) = true then u.s else 0 := by
  unfold wS
  rw [List.filter_cons]
  split <;> simp
theorem tot_one (u : Up) (y : Int) : tot [u] y = if act y u = true then u.s else 0 := by
  unfold tot
  rw [List.filter_cons]
  split <;> simp
theorem perm_sum {l m : List Int} (h : l.Perm m) : l.sum = m.sum := by
  induction h with
  | nil => rfl
  | cons a _ ih => simp [ih]
  | swap a b l => simp; omega
  | trans _ _ h1 h2 => exact h1.trans h2
theorem wS_perm {A B : List Up} (h : A.Perm B) (x y : Int) : wS A x y = wS B x y := perm_sum ((h.filter _).map _)
theorem tot_perm {A B : List Up} (h : A.Perm B) (y : Int) : tot A y = tot B y := perm_sum ((h.filter _).map _)
theorem wS_tot {U : List Up} {x y : Int} (h : ∀ u ∈ U, act y u = true → x < u.x) : wS U x y = tot U y := by
  unfold wS tot
  congr 2
  refine List.filter_congr fun u hu => ?_
  cases ha : act y u with
  | false => rfl
  | true => simp [h u hu ha]
structure BM (U : List Up) (y : Int) (t : List Run × Int × Int) : Prop where
  w : t.2.1 = tot U y
  r : ∀ u ∈ U, act y u = true → t.2.2 ≤ u.x
  at_ : t.2.2 = 4096 ∨ ∃ u ∈ U, u.x = t.2.2
  mean : ∀ x, inR t.1 x = true ↔ t.2.2 ≤ x ∧ 0 < wS U x y
theorem bandF_mean {U : List Up} (y : Int) (hd : U.Pairwise fun p q => q.x ≤ p.x) (hx : ∀ u ∈ U, u.x ≤ 4096) : ∀ i, i ≤ U.length → BM (U.take i) y (bandF (U.take i) y)
  | 0, _ => by
    refine ⟨by simp [bandF, tot], by simp, .inl rfl, fun x => ?_⟩
    simp [bandF, inR, wS]
  | i + 1, hi => by
    have ih := bandF_mean y hd hx i (by omega)
    obtain ⟨u, hu⟩ := getq (l := U) (k := i) (by omega)
    have hux := hx u (List.mem_of_getElem? hu)
    have hle : ∀ v ∈ U.take i, u.x ≤ v.x := fun v hv => by
      obtain ⟨j, hj⟩ := List.mem_iff_getElem?.1 hv
      have hjl := (List.getElem?_eq_some_iff.1 hj).1
      rw [List.length_take] at hjl
      rw [List.getElem?_take, if_pos (by omega)] at hj
      obtain ⟨h1, rfl⟩ := List.getElem?_eq_some_iff.1 hj
      obtain ⟨h2, rfl⟩ := List.getElem?_eq_some_iff.1 hu
      exact List.pairwise_iff_getElem.1 hd j i h1 h2 (by omega)
    have hT : U.take (i + 1) = U.take i ++ [u] := by rw [List.take_add_one, hu]; rfl
    rw [bandF_take hu, hT]
    generalize U.take i = V at *
    generalize bandF V y = t at *
    obtain ⟨out, w, r⟩ := t
    obtain ⟨i1, i2, i3, i4⟩ := ih
    simp only at i1 i2 i3 i4
    have hur : u.x ≤ r := by
      rcases i3 with rfl | ⟨v, hv, rfl⟩
      · exact hux
      · exact hle v hv
    unfold bandStep
    by_cases ha : act y u = true
    · have hc : ¬ (decide (y < u.lo) || decide (u.hi ≤ y)) = true := by
        simp [act] at ha; simp; omega
      rw [if_neg hc]
      refine ⟨?_, ?_, .inr ⟨u, by simp, rfl⟩, fun x => ?_⟩
      · show w + u.s = _
        rw [tot_app, tot_one, if_pos ha, i1]
      · intro v hv hav
        show u.x ≤ v.x
        rcases List.mem_append.1 hv with h | h
        · exact hle v h
        · have := List.mem_singleton.1 h; rw [this]; exact Int.le_refl _
      · show inR (if (decide (0 < w) && decide (u.x < r)) = true then out ++ [⟨u.x, r⟩] else out) x = true ↔ u.x ≤ x ∧ _
        have hin : inR (if (decide (0 < w) && decide (u.x < r)) = true then out ++ [⟨u.x, r⟩] else out) x = true ↔ (inR out x = true ∨ (0 < w ∧ u.x ≤ x ∧ x < r)) := by
          by_cases c2 : (decide (0 < w) && decide (u.x < r)) = true
          · rw [if_pos c2, inR_app]
            simp at c2 ⊢
            constructor
            · rintro (h | h)
              · exact .inl h
              · exact .inr ⟨c2.1, h⟩
            · rintro (h | h)
              · exact .inl h
              · exact .inr h.2
          · rw [if_neg c2]
            constructor
            · exact .inl
            · rintro (h | h)
              · exact h
              · simp at c2; omega
        rw [hin, i4, wS_app, wS_one, ha]
        by_cases hxu : x < u.x
        · have h1 : ¬ r ≤ x := by omega
          have h2 : ¬ u.x ≤ x := by omega
          simp [h1, h2]
        · rw [if_neg (by simp [hxu])]
          have h2 : u.x ≤ x := by omega
          by_cases hr : r ≤ x
          · have h3 : ¬ x < r := by omega
            simp [hr, h2, h3]
          · have h3 : x < r := by omega
            have h4 : wS V x y = w := by rw [i1]; exact wS_tot fun v hv hav => by have := i2 v hv hav; omega
            simp [hr, h2, h3, h4]
    · have hc : (decide (y < u.lo) || decide (u.hi ≤ y)) = true := by
        simp [act] at ha; simp; omega
      rw [if_pos hc]
      have ha' : act y u = false := by simpa using ha
      refine ⟨?_, ?_, ?_, fun x => ?_⟩
      · show w = _
        rw [tot_app, tot_one, if_neg ha, i1]; omega
      · intro v hv hav
        rcases List.mem_append.1 hv with h | h
        · exact i2 v h hav
        · have := List.mem_singleton.1 h; rw [this] at hav; exact absurd hav ha
      · rcases i3 with h | ⟨v, hv, h⟩
        · exact .inl h
        · exact .inr ⟨v, by simp [hv], h⟩
      · show inR out x = true ↔ r ≤ x ∧ _
        rw [i4, wS_app, wS_one, ha']; simp
theorem band_mean {U : List Up} {y : Int} (hd : U.Pairwise fun p q => q.x ≤ p.x) (hf : ∀ u ∈ U, FineU u) (ht : tot U y = 0) (x : Int) : inR (bandL U y) x = true ↔ 0 < wS U x y := by
  rw [(bandL_facts hf y).2.2]
  have h := bandF_mean y hd (fun u hu => (hf u hu).x.2) U.length (Nat.le_refl _)
  rw [List.take_length] at h
  rw [h.mean]
  constructor
  · exact And.right
  · intro hw
    refine ⟨?_, hw⟩
    apply Classical.byContradiction
    intro hn
    have := wS_tot (U := U) (x := x) (y := y) fun u hu ha => by have := h.r u hu ha; omega
    omega
theorem ends_facts (U : List Up) : (endsC U).Pairwise (· < ·) ∧ ∀ e, e ∈ endsC U ↔ ∃ u ∈ U, e = u.lo ∨ e = u.hi := by
  have hsp : ((endsL U).mergeSort fun x y => decide (x ≤ y)).Pairwise (· ≤ ·) := by
    have := List.pairwise_mergeSort (le := fun x y : Int => decide (x ≤ y)) (fun a b c h1 h2 => by simp at *; omega) (fun a b => by simp; omega) (endsL U)
    exact this.imp fun {a b} h => by simpa using h
  obtain ⟨h1, h2⟩ := compact_sorted hsp
  refine ⟨h1, fun e => ?_⟩
  unfold endsC
  rw [h2, (List.mergeSort_perm _ _).mem_iff]
  simp [endsL]
theorem wS_same {U : List Up} {lo hi y : Int} (hl : lo ≤ y) (hh : y < hi) (hno : ∀ u ∈ U, (u.lo ≤ lo ∨ hi ≤ u.lo) ∧ (u.hi ≤ lo ∨ hi ≤ u.hi)) : (∀ u ∈ U, act lo u = act y u) := by
  intro u hu
  obtain ⟨h1, h2⟩ := hno u hu
  unfold act
  rw [Bool.eq_iff_iff]
  simp
  omega
theorem back_facts {U : List Up} (hd : U.Pairwise fun p q => q.x ≤ p.x) (hf : ∀ u ∈ U, FineU u) (ht : ∀ y, tot U y = 0) : validR (backRows U) = true ∧ ∀ c, c ∈ regCells (backRows U) ↔ 0 < wS U c.x c.y := by
  obtain ⟨hC, hm⟩ := ends_facts U
  have hCg : ∀ i j (a b : Int), (endsC U)[i]? = some a → (endsC U)[j]? = some b → i < j → a < b := fun i j a b ha hb hij => pw_get hC ha hb hij
  have hbd : ∀ e ∈ endsC U, -4096 ≤ e ∧ e ≤ 4096 := fun e he => by
    obtain ⟨u, hu, h⟩ := (hm e).1 he
    have := (hf u hu).y
    rcases h with rfl | rfl <;> omega
  have hrow : ∀ w, w ∈ backRows U ↔ ∃ i lo hi, (endsC U)[i]? = some lo ∧ (endsC U)[i + 1]? = some hi ∧ bandL U lo ≠ [] ∧ lo ≤ w.y ∧ w.y < hi ∧ w.runs = bandL U lo := fun w => by
    unfold backRows
    rw [List.mem_flatMap]
    constructor
    · rintro ⟨i, hi, hw⟩
      rw [List.mem_range] at hi
      obtain ⟨lo, hlo⟩ := getq (l := endsC U) (k := i) (by omega)
      obtain ⟨h, hh⟩ := getq (l := endsC U) (k := i + 1) (by omega)
      simp only [bandAt, hlo, hh, bandRows] at hw
      split at hw
      · cases hw
      · rename_i hne
        obtain ⟨k, hk, rfl⟩ := List.mem_map.1 hw
        rw [List.mem_range] at hk
        exact ⟨i, lo, h, hlo, hh, hne, by simp only; omega, by simp only; omega, rfl⟩
    · rintro ⟨i, lo, h, hlo, hh, hne, h1, h2, h3⟩
      have hil := (List.getElem?_eq_some_iff.1 hh).1
      refine ⟨i, List.mem_range.2 (by omega), ?_⟩
      simp only [bandAt, hlo, hh, bandRows]
      rw [if_neg hne]
      refine List.mem_map.2 ⟨(w.y - lo).toNat, List.mem_range.2 (by omega), ?_⟩
      obtain ⟨wy, wr⟩ := w
      simp only at h1 h2 h3 ⊢
      rw [h3, show lo + ((wy - lo).toNat : Int) = wy by omega]
  have hv : validR (backRows U) = true := by
    rw [validR_pw]
    refine ⟨fun w hw => ?_, ?_⟩
    · obtain ⟨i, lo, hi, hlo, hhi, hne, h1, h2, h3⟩ := (hrow w).1 hw
      have b1 := hbd lo (List.mem_of_getElem? hlo)
      have b2 := hbd hi (List.mem_of_getElem? hhi)
      obtain ⟨f1, f2, _⟩ := bandL_facts hf lo
      exact ⟨by omega, fine_apart.2 ⟨by rw [h3]; exact hne, by rw [h3]; exact f1, by rw [h3]; exact f2⟩⟩
    · unfold backRows
      rw [List.pairwise_flatMap]
      refine ⟨fun i hi => ?_, List.pairwise_lt_range.imp_of_mem fun {i j} hi hj hij => ?_⟩
      · rw [List.mem_range] at hi
        obtain ⟨lo, hlo⟩ := getq (l := endsC U) (k := i) (by omega)
        obtain ⟨h, hh⟩ := getq (l := endsC U) (k := i + 1) (by omega)
        simp only [bandAt, hlo, hh, bandRows]
        split
        · exact List.Pairwise.nil
        · rw [List.pairwise_map]
          exact List.pairwise_lt_range.imp fun {a b} h => by simp only; omega
      · rw [List.mem_range] at hi hj
        obtain ⟨l1, hl1⟩ := getq (l := endsC U) (k := i) (by omega)
        obtain ⟨h1, hh1⟩ := getq (l := endsC U) (k := i + 1) (by omega)
        obtain ⟨l2, hl2⟩ := getq (l := endsC U) (k := j) (by omega)
        obtain ⟨h2, hh2⟩ := getq (l := endsC U) (k := j + 1) (by omega)
        have hle : h1 ≤ l2 := by
          rcases Nat.lt_or_ge (i + 1) j with h | h
          · exact Int.le_of_lt (hCg _ _ _ _ hh1 hl2 h)
          · have : j = i + 1 := by omega
            subst this
            rw [hh1] at hl2; cases hl2; exact Int.le_refl _
        intro w hw v hv
        simp only [bandAt, hl1, hh1, bandRows] at hw
        simp only [bandAt, hl2, hh2, bandRows] at hv
        split at hw
        · cases hw
        · split at hv
          · cases hv
          · obtain ⟨k, hk, rfl⟩ := List.mem_map.1 hw
            obtain ⟨m, hm, rfl⟩ := List.mem_map.1 hv
            rw [List.mem_range] at hk hm
            simp only; omega
  refine ⟨hv, fun c => ?_⟩
  have hsame : ∀ i lo hi, (endsC U)[i]? = some lo → (endsC U)[i + 1]? = some hi → lo ≤ c.y → c.y < hi → wS U c.x lo = wS U c.x c.y := fun i lo hi hlo hhi h1 h2 => by
    have hno : ∀ e ∈ endsC U, e ≤ lo ∨ hi ≤ e := fun e he => by
      obtain ⟨j, hj⟩ := List.mem_iff_getElem?.1 he
      rcases Nat.lt_trichotomy j i with h | h | h
      · exact .inl (Int.le_of_lt (hCg _ _ _ _ hj hlo h))
      · subst h; rw [hlo] at hj; cases hj; exact .inl (Int.le_refl _)
      · right
        rcases Nat.lt_or_ge (i + 1) j with h' | h'
        · exact Int.le_of_lt (hCg _ _ _ _ hhi hj h')
        · have : j = i + 1 := by omega
          subst this
          rw [hhi] at hj; cases hj; exact Int.le_refl _
    have := wS_same (U := U) h1 h2 fun u hu => ⟨hno _ ((hm _).2 ⟨u, hu, .inl rfl⟩), hno _ ((hm _).2 ⟨u, hu, .inr rfl⟩)⟩
    unfold wS
    congr 2
    exact List.filter_congr fun u hu => by rw [this u hu]
  rw [mem_regCells]
  constructor
  · rintro ⟨w, hw, hy, r, hr, h3, h4⟩
    obtain ⟨i, lo, hi, hlo, hhi, hne, h1, h2, h5⟩ := (hrow w).1 hw
    rw [← hy] at h1 h2
    rw [← hsame i lo hi hlo hhi h1 h2, ← band_mean hd hf (ht lo), inR_iff]
    exact ⟨r, h5 ▸ hr, h3, h4⟩
  · intro hw
    have hex : ∃ u ∈ U, act c.y u = true := by
      apply Classical.byContradiction
      intro hn
      have : wS U c.x c.y = 0 := by
        unfold wS
        rw [List.filter_eq_nil_iff.2 fun u hu => by
          cases ha : act c.y u with
          | false => simp
          | true => exact absurd ⟨u, hu, ha⟩ hn]
        rfl
      omega
    obtain ⟨u, hu, ha⟩ := hex
    simp [act] at ha
    obtain ⟨a, hal⟩ := List.mem_iff_getElem?.1 ((hm u.lo).2 ⟨u, hu, .inl rfl⟩)
    obtain ⟨b, hbl⟩ := List.mem_iff_getElem?.1 ((hm u.hi).2 ⟨u, hu, .inr rfl⟩)
    -- the last end not above y
    have key : ∀ n, a + n < (endsC U).length → (∃ i lo hi, (endsC U)[i]? = some lo ∧ (endsC U)[i + 1]? = some hi ∧ lo ≤ c.y ∧ c.y < hi) ∨ ∃ e, (endsC U)[a + n]? = some e ∧ e ≤ c.y := by
      intro n
      induction n with
      | zero => intro _; exact .inr ⟨_, hal, ha.1⟩
      | succ n ih =>
        intro hn
        rcases ih (by omega) with h | ⟨e, he, hle⟩
        · exact .inl h
        · obtain ⟨f, hf'⟩ := getq (l := endsC U) (k := a + n + 1) (by omega)
          by_cases hc : f ≤ c.y
          · exact .inr ⟨f, hf', hc⟩
          · exact .inl ⟨a + n, e, f, he, hf', hle, by omega⟩
    have hbl2 := (List.getElem?_eq_some_iff.1 hbl).1
    have hab : a < b := by
      rcases Nat.lt_trichotomy a b with h | h | h
      · exact h
      · subst h
        rw [hal] at hbl
        have e : u.lo = u.hi := by injection hbl
        have := (hf u hu).y; omega
      · have := hCg _ _ _ _ hbl hal h; have := (hf u hu).y; omega
    rcases key (b - a) (by omega) with ⟨i, lo, hi, hlo, hhi, h1, h2⟩ | ⟨e, he, hle⟩
    · rw [← hsame i lo hi hlo hhi h1 h2, ← band_mean hd hf (ht lo), inR_iff] at hw
      obtain ⟨r, hr, h3, h4⟩ := hw
      exact ⟨⟨c.y, bandL U lo⟩, (hrow _).2 ⟨i, lo, hi, hlo, hhi, (by intro e; rw [e] at hr; cases hr), h1, h2, rfl⟩, rfl, r, hr, h3, h4⟩
    · rw [show a + (b - a) = b by omega, hbl] at he
      cases he; omega
end Go.Proofs.YtgicofpllopjmaaGreat

set_option linter.unusedSectionVars false
namespace Go.Abs
variable [Flag]
open Go.RowKit
open Go.ChangeMaps (setBlock)

mutual
def offId (id : Nat) : AV → Bool
  | .hs i _ _ => !decide (i = id)
  | .ptr i _ _ => !decide (i = id)
  | .hm i => !decide (i = id)
  | .pin i _ => !decide (i = id)
  | .agg l => offIds id l
  | .clo _ l => offIds id l
  | .tup l => offIds id l
  | .opt _ x => offId id x
  | _ => true
def offIds (id : Nat) : List AV → Bool
  | [] => true
  | a :: avs => offId id a && offIds id avs
end
mutual
theorem offId_rep {g g' : G} {w : World} {id : Nat} (hl : ∀ i, i ≠ id → g'.loc i = g.loc i) (hu : ∀ i, g.used i → g'.used i) (hro : g'.ro = g.ro) : ∀ (x : AV) (v : Value), offId id x = true → RepA g w x v → RepA g' w x v
  | .any, v, _, h => by simp [RepA]
  | .nl, v, _, h => by simpa [RepA] using h
  | .d x, v, _, h => by simpa only [RepA, hro] using h
  | .ub p q, v, _, h => by simpa only [RepA] using h
  | .lit u, v, _, h => by simpa only [RepA] using h
  | .hs i off len, v, ho, h => by
    have hne : i ≠ id := by simpa [offId] using ho
    simp only [RepA, hl i hne] at h ⊢
    exact ⟨⟨hu i h.1.1, h.1.2⟩, h.2⟩
  | .ptr i a b, v, ho, h => by
    have hne : i ≠ id := by simpa [offId] using ho
    simp only [RepA, hl i hne] at h ⊢
    exact ⟨⟨hu i h.1.1, h.1.2⟩, h.2⟩
  | .hm i, v, ho, h => by
    have hne : i ≠ id := by simpa [offId] using ho
    simp only [RepA, hl i hne] at h ⊢
    exact ⟨⟨hu i h.1.1, h.1.2⟩, h.2⟩
  | .pin i L, v, ho, h => by
    have hne : i ≠ id := by simpa [offId] using ho
    simp only [RepA, hl i hne] at h ⊢
    exact ⟨hu i h.1, h.2⟩
  | .agg l, v, ho, h => by
    simp only [RepA] at h ⊢
    obtain ⟨vs, h1, h2, h3⟩ := h
    exact ⟨vs, h1, h2, offIds_rep hl hu hro l vs (by simpa only [offId] using ho) h3⟩
  | .clo f l, v, ho, h => by
    simp only [RepA] at h ⊢
    obtain ⟨vs, h1, h3⟩ := h
    exact ⟨vs, h1, offIds_rep hl hu hro l vs (by simpa only [offId] using ho) h3⟩
  | .tup l, v, ho, h => by
    simp only [RepA] at h ⊢
    obtain ⟨vs, h1, h3⟩ := h
    exact ⟨vs, h1, offIds_rep hl hu hro l vs (by simpa only [offId] using ho) h3⟩
  | .opt b x, v, ho, h => by
    simp only [RepA] at h ⊢
    exact ⟨fun hb => offId_rep hl hu hro x v (by simpa only [offId] using ho) (h.1 hb), h.2⟩
theorem offIds_rep {g g' : G} {w : World} {id : Nat} (hl : ∀ i, i ≠ id → g'.loc i = g.loc i) (hu : ∀ i, g.used i → g'.used i) (hro : g'.ro = g.ro) : ∀ (l : List AV) (vs : List Value), offIds id l = true → RepAs g w l vs → RepAs g' w l vs
  | [], vs, _, h => by simpa only [RepAs] using h
  | a :: avs, vs, ho, h => by
    simp only [offIds, Bool.and_eq_true] at ho
    simp only [RepAs] at h ⊢
    obtain ⟨v, vs', h1, h2, h3⟩ := h
    exact ⟨v, vs', h1, offId_rep hl hu hro a v ho.1 h2, offIds_rep hl hu hro avs vs' ho.2 h3⟩
end
theorem offIds_get {id : Nat} : ∀ {l : List AV} {j : Nat} {a : AV}, offIds id l = true → l[j]? = some a → offId id a = true
  | [], _, _, _, h => by simp at h
  | b :: l, 0, a, h, e => by
    simp only [offIds, Bool.and_eq_true] at h
    simp at e; subst e; exact h.1
  | b :: l, j + 1, a, h, e => by
    simp only [offIds, Bool.and_eq_true] at h
    exact offIds_get h.2 (by simpa using e)

structure OffSt (id : Nat) (s : St) : Prop where
  tm : ∀ t, offId id (s.get t) = true
  gone : s.obj id = none
  hp : ∀ x o, s.obj x = some o → ∀ (i : Nat) (r : List AV), o.rows[i]? = some r → offIds id r = true

theorem ents_data {ro ro' : Nat → Prop} {g g' : G} {w w' : World} : ∀ {R : List (List D)} {es : List MapEntry}, (∀ b, g.ro b → g'.ro b ∧ w'.heap[b]? = w.heap[b]?) → EntsA g w (dr R) es → EntsA g' w' (dr R) es
  | [], es, _, h => by simpa [dr, EntsA] using h
  | r :: R, es, hf, h => by
    have h : EntsA g w (r.map AV.d :: dr R) es := h
    show EntsA g' w' (r.map AV.d :: dr R) es
    simp only [EntsA] at h ⊢
    obtain ⟨e, es', rfl, h1, h2⟩ := h
    exact ⟨e, es', rfl, RepAs.of_ds (RepDs.mono hf _ _ (RepAs.to_ds h1)), ents_data (ro := ro) (ro' := ro') hf h2⟩

theorem adopt {s : St} {g' : G} {a : Act} {w' : World} (hr : RelS s g' a w') {id : Nat} (hoff : OffSt id s) (hid : id < s.nxt) {L : Loc} (hv : L.virt = false ∧ L.map = true) (hb : L.blk < w'.heap.size) (how : ¬ g'.owns L.blk) (hro : ¬ g'.ro L.blk) {o : Ob}
    (hok : ∀ g'', g''.ro = g'.ro → OwnOk g'' w' L o) (t : Tmp) (hn : t < s.n) (ht : a.tmps.getD t undef = .map (some L.blk)) :
    ∃ g'', RelS ⟨s.n, (t, .hm id) :: s.tm, (id, some o) :: s.hp, s.nxt⟩ g'' a w' ∧ (∀ b, g''.owns b ↔ g'.owns b ∨ b = L.blk) ∧ g''.ro = g'.ro := by
  have hloc : g'.loc id = none := hr.heap.gone id hoff.gone
  let g'' : G := ⟨g'.ro, fun x => if x = id then some L else g'.loc x, fun x => g'.used x ∨ x = id⟩
  have l1 : ∀ i, i ≠ id → g''.loc i = g'.loc i := fun i hi => by simp only [g'']; rw [if_neg hi]
  have l2 : g''.loc id = some L := by simp [g'']
  have u1 : ∀ i, g'.used i → g''.used i := fun i hi => .inl hi
  refine ⟨g'', ⟨hr.defers, hr.size, fun x => ?_, fun x hx => ?_, ?_⟩, fun b => ?_, rfl⟩
  · show RepA g'' w' ((find ((t, AV.hm id) :: s.tm) x).getD .any) _
    simp only [find]
    by_cases e : t = x
    · subst e
      rw [if_pos rfl]
      simp only [Option.getD_some, RepA]
      rw [ht]
      exact ⟨⟨.inr rfl, rfl⟩, fun M hM => by rw [l2] at hM; cases hM; exact ⟨hv, rfl⟩⟩
    · rw [if_neg e]
      exact offId_rep l1 u1 rfl _ _ (hoff.tm x) (hr.tmp x)
  · rcases hx with hx | rfl
    · exact hr.used x hx
    · exact hid
  · refine ⟨fun x o' hx => ?_, fun x hx => ?_, fun x M hM => ?_, fun x y M M' hM hM' h1 h2 hb' => ?_, fun b hb' => hr.heap.ro b hb'⟩
    · simp only [St.obj, find] at hx
      by_cases e : id = x
      · subst e
        rw [if_pos rfl] at hx
        simp only [Option.getD_some, Option.some.injEq] at hx
        subst hx
        exact ⟨L, l2, hok g'' rfl⟩
      · rw [if_neg e] at hx
        obtain ⟨M, hM, hok'⟩ := hr.heap.own x o' hx
        have hrow := hoff.hp x o' hx
        refine ⟨M, by rw [l1 x (Ne.symm e)]; exact hM, hok'.m, hok'.pos, hok'.len, hok'.virt, fun h => ?_, fun h => ?_⟩
        · obtain ⟨cur, c1, c2, c3, c5⟩ := hok'.cells h
          refine ⟨cur, c1, c2, c3, fun i row hi => ⟨(c5 i row hi).1, fun j av hj => ?_⟩⟩
          obtain ⟨v, k1, k2, k3⟩ := (c5 i row hi).2 j av hj
          exact ⟨v, k1, k2, offId_rep l1 u1 rfl _ _ (offIds_get (hrow i row hi) hj) k3⟩
        · obtain ⟨c0, es, clock, c1, c2, c3⟩ := hok'.ents h
          refine ⟨c0, es, clock, c1, c2, ?_⟩
          have : ∀ (rows : List (List AV)) (l : List MapEntry), (∀ (i : Nat) (r : List AV), rows[i]? = some r → offIds id r = true) → EntsA g' w' rows l → EntsA g'' w' rows l := by
            intro rows
            induction rows with
            | nil => intro l _ hl; simpa only [EntsA] using hl
            | cons r rs ih =>
              intro l hr' hl
              simp only [EntsA] at hl ⊢
              obtain ⟨e', l', h1, h2, h3⟩ := hl
              exact ⟨e', l', h1, offIds_rep l1 u1 rfl _ _ (hr' 0 r rfl) h2, ih l' (fun i q hq => hr' (i + 1) q (by simpa using hq)) h3⟩
          exact this _ _ hrow c3
    · simp only [St.obj, find] at hx
      by_cases e : id = x
      · rw [if_pos e] at hx; cases hx
      · rw [if_neg e] at hx
        rw [l1 x (Ne.symm e)]
        exact hr.heap.gone x hx
    · by_cases e : x = id
      · subst e
        rw [l2] at hM; cases hM
        exact ⟨.inr rfl, fun _ => ⟨hb, hro⟩⟩
      · rw [l1 x e] at hM
        obtain ⟨k1, k2⟩ := hr.heap.live x M hM
        exact ⟨.inl k1, k2⟩
    · by_cases e : x = id
      · subst e
        rw [l2] at hM; cases hM
        by_cases e' : y = x
        · exact e'.symm
        · rw [l1 y e'] at hM'
          exact absurd ⟨y, M', hM', h2, hb'.symm⟩ how
      · rw [l1 x e] at hM
        by_cases e' : y = id
        · subst e'
          rw [l2] at hM'; cases hM'
          exact absurd ⟨x, M, hM, h1, hb'⟩ how
        · rw [l1 y e'] at hM'
          exact hr.heap.inj x y M M' hM hM' h1 h2 hb'
  · constructor
    · rintro ⟨x, M, hM, hv', hb'⟩
      by_cases e : x = id
      · subst e
        rw [l2] at hM; cases hM
        exact .inr hb'.symm
      · rw [l1 x e] at hM
        exact .inl ⟨x, M, hM, hv', hb'⟩
    · rintro (⟨x, M, hM, hv', hb'⟩ | rfl)
      · have : x ≠ id := fun e => by subst e; rw [hloc] at hM; cases hM
        exact ⟨x, M, by rw [l1 x this]; exact hM, hv', hb'⟩
      · exact ⟨id, L, l2, hv.1, rfl⟩

theorem rel_aside {U : Nat → Prop} {g : G} {get : Nat → AV} {obj : Nat → Option Ob} {n : Nat} {a : Act} {w w' : World} (h : Rel U g get obj n a w) {bi : Nat} (how : ¬ g.owns bi) (hro : ¬ g.ro bi)
    (hsize : w'.heap.size = w.heap.size) (hblk : ∀ b, b ≠ bi → w'.heap[b]? = w.heap[b]?) : Rel U g get obj n a w' := by
  have hlat : Later g w g w' := ⟨fun b hb => ⟨hb, hblk b fun e => hro (e ▸ hb)⟩, fun _ hx => hx, fun _ _ => .inl rfl⟩
  refine ⟨h.defers, h.size, fun t => RepA.later hlat _ _ (h.tmp t), h.used, fun id o ho => ?_, h.heap.gone, fun id L hL => ⟨(h.heap.live id L hL).1, fun hv => by rw [hsize]; exact (h.heap.live id L hL).2 hv⟩, h.heap.inj, fun b hb => by rw [hsize]; exact h.heap.ro b hb⟩
  obtain ⟨L, hL, hok⟩ := h.heap.own id o ho
  exact ⟨L, hL, hok.later hlat fun hv => hblk _ fun e => how ⟨id, L, hL, hv, e⟩⟩

theorem nodup_le_len {α : Type} [DecidableEq α] : ∀ {l m : List α}, l.Nodup → (∀ x ∈ l, x ∈ m) → l.length ≤ m.length
  | [], m, _, _ => Nat.zero_le _
  | a :: l, m, hn, hs => by
    obtain ⟨h1, h2⟩ := List.nodup_cons.1 hn
    have ha := hs a (by simp)
    have := nodup_le_len (l := l) (m := m.erase a) h2 fun x hx => by
      have hne : x ≠ a := fun e => h1 (e ▸ hx)
      exact (List.mem_erase_of_ne hne).2 (hs x (by simp [hx]))
    rw [List.length_erase_of_mem ha] at this
    have hp := List.length_pos_of_mem ha
    simp only [List.length_cons]
    omega
theorem perm_of_places {α : Type} {ks xs : List α} {js : List Nat} (hnd : js.Nodup) (hall : ∀ j, j < ks.length → j ∈ js) (hxs : xs.length = js.length) (h : ∀ i j : Nat, js[i]? = some j → j < ks.length ∧ xs[i]? = ks[j]?) : xs.Perm ks := by
  have h1 : js.Perm (List.range ks.length) := by
    refine (List.perm_ext_iff_of_nodup hnd List.nodup_range).2 fun j => ?_
    rw [List.mem_range]
    constructor
    · intro hj
      obtain ⟨i, hi⟩ := List.mem_iff_getElem?.1 hj
      exact (h i j hi).1
    · exact hall j
  have h2 : xs.map some = js.map fun j => ks[j]? := by
    refine List.ext_getElem? fun i => ?_
    simp only [List.getElem?_map]
    cases hi : js[i]? with
    | none =>
      have : xs[i]? = none := by rw [List.getElem?_eq_none_iff] at hi ⊢; omega
      rw [this]; rfl
    | some j =>
      obtain ⟨hj, e⟩ := h i j hi
      rw [e, List.getElem?_eq_getElem hj]; simp
  have h3 : ks.map some = (List.range ks.length).map fun j => ks[j]? := by
    refine List.ext_getElem? fun i => ?_
    simp only [List.getElem?_map]
    by_cases hi : i < ks.length
    · rw [List.getElem?_range hi, List.getElem?_eq_getElem hi]; simp
    · rw [List.getElem?_eq_none (by omega), List.getElem?_eq_none (by simp; omega)]; rfl
  have h4 : (xs.map some).Perm (ks.map some) := by rw [h2, h3]; exact h1.map _
  have h5 := h4.filterMap id
  simpa using h5

def entSt (t16 t17 t18 t19 : Tmp) (kd : D) (s : St) : St := { s with tm := (t19, .d kd) :: (t18, .any) :: (t17, .d (.bool true)) :: (t16, .any) :: s.tm }

theorem awp_maprange {P : Program} {ty : TypeId → Option TI} (hc : Ctx P ty) (orc : List (Nat × Res)) {α : Type} {r5 r6 r7 b0 b1 : Nat} {l7 : List Oper} (post : List Oper) (o1 o2 o3 o4 o5 o6 : Oper) (hl7 : l7 = o5 :: o6 :: post) {rest : Code}
    {T kt et : TypeId} {tm tm' ti tn tb te tk : Tmp} {ti0 : TI}
    (g1 : o1.guard = none) (g2 : o2.guard = none) (g3 : o3.guard = none) (g4 : o4.guard = none) (g5 : o5.guard = none) (g6 : o6.guard = none)
    (h1 : o1.op = .move (.tmp tm)) (d1 : o1.dst = some tm') (h2 : o2.op = .range T (.tmp tm')) (d2 : o2.dst = some ti)
    (h3 : o3.op = .next (.tmp ti) false) (d3 : o3.dst = some tn) (h4 : o4.op = .extract (.tmp tn) 0) (d4 : o4.dst = some tb)
    (h5 : o5.op = .entry (.tmp ti)) (d5 : o5.dst = some te) (h6 : o6.op = .extract (.tmp te) 0) (d6 : o6.dst = some tk)
    (hne : tm ≠ tm' ∧ tm ≠ ti ∧ tm' ≠ ti ∧ ti ≠ tn ∧ ti ≠ tb ∧ tn ≠ tb ∧ ti ≠ te ∧ te ≠ tk ∧ tm ≠ tn ∧ tm ≠ tb)
    (hT : ty T = some ti0) (hTk : ti0.kind = .map kt et)
    {s : St} {id : Nat} {o : Ob} (ks : List α) (kd : α → D) (vd : List D) (hm : s.get tm = .hm id) (ho : s.obj id = some o) (hid : id < s.nxt)
    (hrows : o.rows = dr (List.zipWith (fun k v => [kd k, v]) ks vd)) (hlen : vd.length = ks.length) (hn : tm < s.n ∧ tm' < s.n ∧ ti < s.n ∧ tn < s.n ∧ tb < s.n ∧ te < s.n ∧ tk < s.n)
    (J : Value → Value → List α → St)
    (hJ : ∀ u v xs, OffSt id (J u v xs) ∧ (J u v xs).get tm = .lit v ∧ (J u v xs).get ti = .lit u ∧ id < (J u v xs).nxt ∧ (J u v xs).n = s.n) {Q : Exit → St → Prop}
    (hstart : ∀ u v, Weak ⟨s.n, (ti, .lit u) :: (tm', .lit v) :: (tm, .lit v) :: s.tm, (id, none) :: s.hp, s.nxt⟩ (J u v []))
    (hround : ∀ u v (xs : List α) (k : α), k ∈ ks → xs.length < ks.length → ∀ K : St → Prop, (∀ s', AWp P rest (fun e s'' => match e with | .normal => Weak s'' (J u v (xs ++ [k])) | _ => False) s' → K s') →
      wpT ty P orc (l7.map (·.dst)) (J u v xs).nxt 0 post { entSt tn tb te tk (kd k) (J u v xs) with nxt := (J u v xs).nxt + post.length } K)
    (hend : ∀ u v (xs : List α), xs.Perm ks → Q .normal ⟨s.n, (tm, .hm id) :: (tb, .d (.bool false)) :: (tn, .any) :: (J u v xs).tm, (id, some o) :: (J u v xs).hp, (J u v xs).nxt⟩) :
    AWp P (.seq (.region r5 #[o1, o2] false) (.block b0 (.loop (.seq (.region r6 #[o3, o4] false) (.seq (.cond (.tmp tb) .skip (.exit b0)) (.block b1 (.seq (.region r7 l7.toArray false) rest))))))) Q s := by
  intro g a w hr
  obtain ⟨n1, n2, n3, n4, n5, n6, n7, n8, n9, n10⟩ := hne
  obtain ⟨z1, z2, z3, z4, z5, z6, z7⟩ := hn
  obtain ⟨L, hL, hok⟩ := hr.heap.own id o ho
  have htm := hr.tmp tm
  rw [hm] at htm
  simp only [RepA] at htm
  obtain ⟨hv, hmv⟩ := htm.2 L hL
  obtain ⟨hmapM, es, clock, hb, hst, hes⟩ := hok.ents hv
  obtain ⟨hblt, hbro⟩ := (hr.heap.live id L hL).2 hv.1
  have hu : P.underlying T = some (.map kt et) := kind_map (hc.ok T ti0 hT) hTk
  rw [hrows] at hes
  -- the entries, by their places
  have hesl : es.size = ks.length := by
    have : ∀ {rows : List (List AV)} {l : List MapEntry}, EntsA g w rows l → rows.length = l.length := by
      intro rows
      induction rows with
      | nil => intro l hl; simp only [EntsA] at hl; simp [hl]
      | cons r rs ih => intro l hl; simp only [EntsA] at hl; obtain ⟨e, l', rfl, _, h2⟩ := hl; simp [ih h2]
    have := this hes
    simp [dr, hlen] at this
    exact this.symm
  have hent : ∀ (j : Nat) (k : α), ks[j]? = some k → ∃ e, es[j]? = some e ∧ RepD g.ro w (kd k) e.key := by
    have key : ∀ (ks : List α) (vd : List D) (l : List MapEntry), vd.length = ks.length → EntsA g w (dr (List.zipWith (fun k v => [kd k, v]) ks vd)) l → ∀ (j : Nat) (k : α), ks[j]? = some k → ∃ e, l[j]? = some e ∧ RepD g.ro w (kd k) e.key := by
      intro ks
      induction ks with
      | nil => intro vd l _ _ j k hj; simp at hj
      | cons k0 ks ih =>
        intro vd l hl h j k hj
        cases vd with
        | nil => simp at hl
        | cons v0 vd =>
          have h : EntsA g w ([AV.d (kd k0), AV.d v0] :: dr (List.zipWith (fun k v => [kd k, v]) ks vd)) l := h
          simp only [EntsA, RepAs, RepA] at h
          obtain ⟨e, l', rfl, ⟨v1, vs1, hv1, hk1, _⟩, h2⟩ := h
          simp only [List.cons.injEq] at hv1
          obtain ⟨rfl, _⟩ := hv1
          cases j with
          | zero => simp at hj; subst hj; exact ⟨e, rfl, hk1⟩
          | succ j => exact ih vd l' (by simpa using hl) h2 j k (by simpa using hj)
    intro j k hj
    obtain ⟨e, h1, h2⟩ := key ks vd es.toList hlen hes j k hj
    exact ⟨e, by simpa using h1, h2⟩
  -- the beginning
  let bm := L.blk
  let bi := w.heap.size
  let w0 := w.alloc (.mapIter (some bm) clock #[] clock)
  let pi : Value := .pointer (some ⟨bi, 0, none⟩)
  let mv : Value := .map (some bm)
  have hsz := hr.size
  obtain ⟨gd, q1, q2, q3, q4, q5, q6⟩ := hr.heap.drop id
  have hrd : Rel (· < s.nxt) gd s.get (upd1 s.obj id none) s.n a w := ⟨hr.defers, hr.size, fun t => RepA.later q6 _ _ (hr.tmp t), fun x hx => hr.used x (q1 ▸ hx), q4⟩
  have gdown : ∀ b, gd.owns b → g.owns b ∧ b ≠ bm := by
    rintro b ⟨x, M, hM, hvM, rfl⟩
    rw [q3] at hM
    simp only at hM
    split at hM
    · cases hM
    · rename_i hx
      exact ⟨⟨x, M, hM, hvM, rfl⟩, fun e => hx (hr.heap.inj x id M L hM hL hvM hv.1 e)⟩
  have hgdbm : ¬ gd.owns bm := fun h => (gdown bm h).2 rfl
  have hgdro : ¬ gd.ro bm := by rw [q2]; exact hbro
  have low : ∀ b, gd.owns b → b < w.heap.size := fun b ⟨x, M, hM, hvM, e⟩ => e ▸ ((q4.live x M hM).2 hvM).1
  have hal : ∀ b, b < w.heap.size → w0.heap[b]? = w.heap[b]? := fun b hb => Go.heap_alloc_old w _ hb
  have hal2 : w0.heap[bi]? = some (.mapIter (some bm) clock #[] clock) := Go.heap_alloc_new w _
  have hsz0 : w0.heap.size = w.heap.size + 1 := by show (w.heap.push _).size = _; simp
  have hbelow : Below w.heap.size w w0 := ⟨rfl, ⟨rfl, .inr (Nat.le_refl _)⟩, rfl, by rw [hsz0]; exact Nat.le_succ _, hal⟩
  obtain ⟨i1, i2, i3⟩ := q4.idle hbelow
  -- what holds at a round's start
  let Inv : Nat → Act → World → Prop := fun m a' w' => ∃ (js : List Nat) (xs : List α) (g' : G) (last : Nat), js.Nodup ∧ js.length + m = ks.length ∧ xs.length = js.length ∧ (∀ i : Nat, ∀ j, js[i]? = some j → j < ks.length ∧ xs[i]? = ks[j]?) ∧
    RelS (J pi mv xs) g' a' w' ∧ Step gd w g' w' ∧ w'.heap[bi]? = some (.mapIter (some bm) clock (js.map fun j => (es[j]?.map (·.born)).getD 0).toArray last) ∧ clock ≤ last ∧ w'.heap[bm]? = some (.map es clock) ∧ ¬ g'.owns bi ∧ ¬ g'.ro bi ∧ ¬ g'.owns bm ∧ ¬ g'.ro bm ∧ bi < w'.heap.size
  refine wp_seq ?_
  refine wp_region ?_
  rw [show List.range (#[o1, o2] : Array Oper).size = List.range' 0 [o1, o2].length from rfl, wpOps_eq_wpList (P := P) (ops := #[o1, o2]) [o1, o2] 0 (by intro j; simp)]
  have ex1 : (execOp a.eval o1).run P w = .ok (.value mv) w := by
    simp only [execOp, h1, Act.eval, hmv, Sem.run_pure]; rfl
  have e1 : (a.put (some tm') mv).tmps.getD tm' undef = mv := put_get_same (by rw [hsz]; exact z2)
  have ex2 : (execOp (a.put (some tm') mv).eval o2).run P w = .ok (.value pi) w0 := by
    simp only [execOp, h2, Act.eval, e1]
    rw [Sem.run_bind, run_range_map w T kt et bm es clock hu hb]
    rfl
  simp only [wpList]
  rw [if_pos (by simp [Region.wanted, g1])]
  left
  unfold Oper.wp
  rw [ex1, Oper.upon_value, d1]
  rw [if_pos (by simp [Region.wanted, g2])]
  left
  rw [ex2, Oper.upon_value, d2]
  show (Code.block b0 _).wp P _ _ _
  have hwide := hrd.heap
  have A0 : Rel (· < s.nxt) gd s.get (upd1 s.obj id none) s.n a w0 := ⟨hr.defers, hr.size, fun t => RepA.later i3 _ _ (hrd.tmp t), hrd.used, i1⟩
  have same0 : Later gd w0 gd w0 := ⟨fun b hb => ⟨hb, rfl⟩, fun _ hx => hx, fun _ _ => .inl rfl⟩
  have A1 := rel_put (U' := (· < s.nxt)) (dst := some tm') (v := .lit mv) (u := mv) A0 A0.heap same0 A0.used (by simp [RepA]) (fun d hd => by cases hd; exact z2)
  have A2 := rel_put (U' := (· < s.nxt)) (dst := some ti) (v := .lit pi) (u := pi) A1 A1.heap same0 A1.used (by simp [RepA]) (fun d hd => by cases hd; exact z3)
  generalize hact : ((a.put (some tm') mv).put (some ti) pi) = a2 at A2 ⊢
  have etm : a2.tmps.getD tm undef = mv := by rw [← hact, put_get_ne n2, put_get_ne n1, hmv]
  have A3 : RelS ⟨s.n, (ti, .lit pi) :: (tm', .lit mv) :: (tm, .lit mv) :: s.tm, (id, none) :: s.hp, s.nxt⟩ gd a2 w0 := by
    refine ⟨A2.defers, A2.size, fun t => ?_, A2.used, ?_⟩
    · simp only [St.get, find]
      have h := A2.tmp t
      simp only [putG, Option.some.injEq] at h
      by_cases e3 : ti = t
      · rw [if_pos e3] at h ⊢; exact h
      · rw [if_neg e3] at h ⊢
        by_cases e2 : tm' = t
        · rw [if_pos e2] at h ⊢; exact h
        · rw [if_neg e2] at h ⊢
          by_cases e1 : tm = t
          · rw [if_pos e1]; simp only [Option.getD_some, RepA]; rw [← e1, etm]
          · rw [if_neg e1]; exact h
    · have : (St.obj ⟨s.n, (ti, .lit pi) :: (tm', .lit mv) :: (tm, .lit mv) :: s.tm, (id, none) :: s.hp, s.nxt⟩) = upd1 s.obj id none := by
        funext x
        simp only [St.obj, find, upd1]
        by_cases e : id = x
        · subst e; simp
        · rw [if_neg e, if_neg (Ne.symm e)]
      rw [this]; exact A2.heap
  obtain ⟨gs, B1, B2⟩ := hstart pi mv gd a2 w0 A3
  have Sd : Step gd w gs w0 := i2.trans B2
  have notown : ∀ {g' : G} {w' : World}, Step gd w g' w' → ¬ g'.owns bm ∧ ¬ g'.ro bm := fun hs => ⟨fun h => by
    rcases hs.own bm h with h1 | h1
    · omega
    · exact hgdbm h1, fun h => by
    rcases hs.ro' bm h with h1 | h1 | h1
    · exact hgdro h1
    · omega
    · exact hgdbm h1⟩
  have hbsz : ¬ gd.owns bi ∧ ¬ gd.ro bi := ⟨fun h => absurd (low bi h) (Nat.lt_irrefl _), fun h => absurd (hrd.heap.ro bi h) (Nat.lt_irrefl _)⟩
  have start : Inv ks.length a2 w0 := by
    refine ⟨[], [], gs, clock, List.nodup_nil, by simp, rfl, fun i j hj => by simp at hj, B1, Sd, by simpa using hal2, Nat.le_refl _, by rw [hal bm hblt]; exact hb, fun h => ?_, fun h => ?_, (notown Sd).1, (notown Sd).2, by rw [hsz0]; exact Nat.lt_succ_self _⟩
    · rcases B2.own bi h with h1 | h1
      · rw [hsz0] at h1; exact absurd h1 (by simp [bi])
      · exact hbsz.1 h1
    · rcases B2.ro' bi h with h1 | h1 | h1
      · exact hbsz.2 h1
      · rw [hsz0] at h1; exact absurd h1 (by simp [bi])
      · exact hbsz.1 h1
  refine wp_block ?_
  refine wp_loop_rel Inv ?_ start
  rintro m a3 w3 ⟨js, xs, g', last, hnd, hcnt, hxl, hplc, R0, S0, hbi, hlast, hbm, hno, hnr, hmo, hmr, hbilt⟩
  obtain ⟨off, jm, jt, jid, jn⟩ := hJ pi mv xs
  have tpi : a3.tmps.getD ti undef = pi := by
    have h := R0.tmp ti
    rw [jt] at h
    simpa only [RepA] using h
  have tmv : a3.tmps.getD tm undef = mv := by
    have h := R0.tmp tm
    rw [jm] at h
    simpa only [RepA] using h
  have hold : ∀ x ∈ es.toList, x.born < clock := hst.1
  refine wp_seq ?_
  refine wp_region ?_
  rw [show List.range (#[o3, o4] : Array Oper).size = List.range' 0 [o3, o4].length from rfl, wpOps_eq_wpList (P := P) (ops := #[o3, o4]) [o3, o4] 0 (by intro j; simp)]
  simp only [wpList]
  rw [if_pos (by simp [Region.wanted, g3])]
  have rsz := R0.size
  rcases run_next_at (P := P) w3 o3.type bi bm clock last _ es clock hbi hbm hold hlast with ⟨hnone, hrun⟩ | ⟨e, he, w4, hw4, hrun⟩
  · have ex3 : (execOp a3.eval o3).run P w3 = .ok (.value (.tuple #[.bool false])) w3 := by
      simp only [execOp, h3, Act.eval, tpi]
      rw [Sem.run_bind, hrun]
      rfl
    have v3 : (a3.put (some tn) (.tuple #[.bool false])).tmps.getD tn undef = .tuple #[.bool false] := put_get_same (by rw [rsz, jn]; exact z4)
    have ex4 : (execOp (a3.put (some tn) (.tuple #[.bool false])).eval o4).run P w3 = .ok (.value (.bool false)) w3 := by
      simp only [execOp, h4, Act.eval, v3]
      simp [Instr.extract]
    left
    unfold Oper.wp
    rw [ex3, Oper.upon_value, d3]
    rw [if_pos (by simp [Region.wanted, g4])]
    left
    rw [ex4, Oper.upon_value, d4]
    have same3 : Later g' w3 g' w3 := ⟨fun b hb => ⟨hb, rfl⟩, fun _ hx => hx, fun _ _ => .inl rfl⟩
    have C1 := rel_put (U' := (· < (J pi mv xs).nxt)) (dst := some tn) (v := .any) (u := .tuple #[.bool false]) R0 R0.heap same3 R0.used (by simp [RepA]) (fun d hd => by cases hd; rw [jn]; exact z4)
    have C2 := rel_put (U' := (· < (J pi mv xs).nxt)) (dst := some tb) (v := .d (.bool false)) (u := .bool false) C1 C1.heap same3 C1.used (by simp [RepA, RepD]) (fun d hd => by cases hd; rw [jn]; exact z5)
    generalize hact3 : ((a3.put (some tn) (.tuple #[.bool false])).put (some tb) (.bool false)) = a4 at C2 ⊢
    have vb : a4.eval (.tmp tb) = .bool false := by
      show a4.tmps.getD tb undef = _
      rw [← hact3]
      exact put_get_same (by rw [put_size, rsz, jn]; exact z5)
    have vm : a4.tmps.getD tm undef = mv := by rw [← hact3, put_get_ne n10, put_get_ne n9, tmv]
    show (Code.seq _ _).wp P _ a4 w3
    refine wp_seq ?_
    refine wp_cond_split vb (fun h => by cases h) fun _ => ?_
    refine wp_exit ?_
    simp only [Exit.then, Exit.inBlock, if_true]
    have C3 : RelS ⟨(J pi mv xs).n, (tb, .d (.bool false)) :: (tn, .any) :: (J pi mv xs).tm, (J pi mv xs).hp, (J pi mv xs).nxt⟩ g' a4 w3 := by
      refine ⟨C2.defers, C2.size, fun t => ?_, C2.used, C2.heap⟩
      have h := C2.tmp t
      simp only [putG, Option.some.injEq] at h
      simp only [St.get, find]
      by_cases e1 : tb = t
      · rw [if_pos e1] at h ⊢; exact h
      · rw [if_neg e1] at h ⊢
        by_cases e2 : tn = t
        · rw [if_pos e2] at h ⊢; exact h
        · rw [if_neg e2] at h ⊢; exact h
    have off3 : OffSt id ⟨(J pi mv xs).n, (tb, .d (.bool false)) :: (tn, .any) :: (J pi mv xs).tm, (J pi mv xs).hp, (J pi mv xs).nxt⟩ := by
      refine ⟨fun t => ?_, off.gone, off.hp⟩
      simp only [St.get, find]
      by_cases e1 : tb = t
      · rw [if_pos e1]; rfl
      · rw [if_neg e1]
        by_cases e2 : tn = t
        · rw [if_pos e2]; rfl
        · rw [if_neg e2]; exact off.tm t
    have hbm3 : bm < w3.heap.size := Nat.lt_of_lt_of_le hblt S0.size
    have hfut : ∀ b, g.ro b → g'.ro b ∧ w3.heap[b]? = w.heap[b]? := fun b hb => ⟨S0.ro b (by rw [q2]; exact hb), S0.block b (hr.heap.ro b hb) fun ⟨x, M, hM, hvM, e⟩ => by
      have := (q4.live x M hM).2 hvM
      rw [q2] at this
      exact this.2 (by rw [e]; exact hb)⟩
    obtain ⟨gf, F1, F2, F3⟩ := adopt C3 off3 jid hv hbm3 hmo hmr (o := o) (fun g'' hro'' => ⟨hok.m, hok.pos, hok.len, hok.virt, fun h => (by rw [hv.2] at h; cases h.2), fun _ => ⟨hmapM, es, clock, hbm, hst, by
      rw [hrows]
      exact ents_data (ro := g.ro) (ro' := g'.ro) (fun b hb => ⟨by rw [hro'']; exact (hfut b hb).1, (hfut b hb).2⟩) hes⟩⟩) tm (by show tm < (J pi mv xs).n; rw [jn]; exact z1) vm
    rw [jn] at F1
    refine ⟨_, gf, F1, ?_, hend pi mv xs ?_⟩
    · refine ⟨S0.os, S0.tape, S0.output, S0.size, fun b hb hn => S0.block b hb fun h => hn (gdown b h).1, fun b hb => ?_, fun b hb => ?_, fun b hb => ?_⟩
      · rcases (F2 b).1 hb with h | rfl
        · exact (S0.own b h).imp (fun h => h) fun h => (gdown b h).1
        · exact .inr ⟨id, L, hL, hv.1, rfl⟩
      · rw [F3]; exact S0.ro b (by rw [q2]; exact hb)
      · rw [F3] at hb
        rcases S0.ro' b hb with h | h | h
        · exact .inl (by rw [q2] at h; exact h)
        · exact .inr (.inl h)
        · exact .inr (.inr (gdown b h).1)
    · refine perm_of_places hnd (fun j hj => ?_) hxl hplc
      apply Classical.byContradiction
      intro hnj
      have hjs : j < es.size := by rw [hesl]; exact hj
      have : es[j] ∈ leftOf es (js.map fun j => (es[j]?.map (·.born)).getD 0).toArray := by
        unfold leftOf
        rw [Array.mem_filter]
        refine ⟨Array.getElem_mem hjs, ?_⟩
        simp only [Bool.not_eq_true', List.contains_toArray, Bool.eq_false_iff, ne_eq]
        intro hc
        have hc := List.contains_iff_mem.1 hc
        obtain ⟨j', hj', ej⟩ := List.mem_map.1 hc
        obtain ⟨i', hi'⟩ := List.mem_iff_getElem?.1 hj'
        have hlt' : j' < es.size := by rw [hesl]; exact (hplc i' j' hi').1
        rw [Array.getElem?_eq_getElem hlt'] at ej
        simp only [Option.map_some, Option.getD_some] at ej
        have hnd2 := hst.2.1
        have : j' = j := by
          apply Classical.byContradiction
          intro hne'
          rcases Nat.lt_or_gt_of_ne hne' with h | h
          · have := List.pairwise_iff_getElem.1 hnd2 j' j (by simpa using hlt') (by simpa using hjs) h
            simp at this; exact this ej
          · have := List.pairwise_iff_getElem.1 hnd2 j j' (by simpa using hjs) (by simpa using hlt') h
            simp at this; exact this ej.symm
        exact hnj (this ▸ hj')
      have hpos := Array.size_pos_of_mem this
      omega
  · have hemem : e ∈ es.toList ∧ (js.map fun j => (es[j]?.map (·.born)).getD 0).toArray.contains e.born = false := by
      unfold leftOf at he
      simpa using he
    obtain ⟨he1, he2⟩ := hemem
    obtain ⟨j0, hj0⟩ := List.mem_iff_getElem?.1 he1
    have hj0' : es[j0]? = some e := by simpa using hj0
    have hj0l : j0 < ks.length := by rw [← hesl]; exact (Array.getElem?_eq_some_iff.1 hj0').1
    obtain ⟨k, hk⟩ : ∃ k, ks[j0]? = some k := ⟨_, List.getElem?_eq_getElem hj0l⟩
    obtain ⟨e', he', hkey⟩ := hent j0 k hk
    rw [hj0'] at he'; cases he'
    have hnj : j0 ∉ js := fun hm => by
      have : e.born ∈ (js.map fun j => (es[j]?.map (·.born)).getD 0) := List.mem_map.2 ⟨j0, hm, by simp [hj0']⟩
      have h2 : (js.map fun j => (es[j]?.map (·.born)).getD 0).toArray.contains e.born = true := by simpa using this
      rw [he2] at h2; cases h2
    have hnd' : (js ++ [j0]).Nodup := by
      rw [List.nodup_append]
      exact ⟨hnd, by simp, fun x hx y hy => by simp at hy; subst hy; exact fun e => hnj (e ▸ hx)⟩
    have hsub : ∀ x ∈ js ++ [j0], x ∈ List.range ks.length := fun x hx => by
      rw [List.mem_range]
      rcases List.mem_append.1 hx with hx | hx
      · obtain ⟨i, hi⟩ := List.mem_iff_getElem?.1 hx
        exact (hplc i x hi).1
      · simp at hx; subst hx; exact hj0l
    have hjslt : js.length < ks.length := by
      have hle := nodup_le_len hnd' hsub
      simp at hle
      omega
    have hw4h : w4.heap = w3.heap := by rcases hw4 with rfl | rfl <;> rfl
    let w5 := setBlock w4 bi (.mapIter (some bm) clock ((js.map fun j => (es[j]?.map (·.born)).getD 0).toArray.push e.born) clock)
    have hs5 : w5.heap.size = w3.heap.size := by show (w4.heap.setIfInBounds _ _).size = _; rw [hw4h]; simp
    have hb5 : ∀ b, b ≠ bi → w5.heap[b]? = w3.heap[b]? := fun b hb => by
      show (w4.heap.setIfInBounds _ _)[b]? = _
      rw [hw4h, Array.getElem?_setIfInBounds_ne (Ne.symm hb)]
    have hi5 : w5.heap[bi]? = some (.mapIter (some bm) clock ((js.map fun j => (es[j]?.map (·.born)).getD 0).toArray.push e.born) clock) := by
      show (w4.heap.setIfInBounds _ _)[bi]? = _
      rw [hw4h, Array.getElem?_setIfInBounds_self_of_lt hbilt]
    have hne_bm : bm ≠ bi := Nat.ne_of_lt hblt
    have hm5 : w5.heap[bm]? = some (.map es clock) := by rw [hb5 bm hne_bm]; exact hbm
    have ex3 : (execOp a3.eval o3).run P w3 = .ok (.value (.tuple #[.bool true, e.key, e.val])) w5 := by
      simp only [execOp, h3, Act.eval, tpi]
      rw [Sem.run_bind, hrun]
      rfl
    have v3 : (a3.put (some tn) (.tuple #[.bool true, e.key, e.val])).tmps.getD tn undef = .tuple #[.bool true, e.key, e.val] := put_get_same (by rw [rsz, jn]; exact z4)
    have ex4 : (execOp (a3.put (some tn) (.tuple #[.bool true, e.key, e.val])).eval o4).run P w5 = .ok (.value (.bool true)) w5 := by
      simp only [execOp, h4, Act.eval, v3]
      simp [Instr.extract]
    left
    unfold Oper.wp
    rw [ex3, Oper.upon_value, d3]
    rw [if_pos (by simp [Region.wanted, g4])]
    left
    rw [ex4, Oper.upon_value, d4]
    have R5 : RelS (J pi mv xs) g' a3 w5 := rel_aside R0 hno hnr hs5 hb5
    have S5 : Step gd w g' w5 := by
      refine ⟨?_, ⟨?_, ?_⟩, ?_, by rw [hs5]; exact S0.size, fun b hb hn => ?_, S0.own, S0.ro, S0.ro'⟩
      · have : w5.os = w3.os := by rcases hw4 with rfl | rfl <;> rfl
        rw [this]; exact S0.os
      · have : w5.tape = w3.tape := by rcases hw4 with rfl | rfl <;> rfl
        rw [this]; exact S0.tape.1
      · refine S0.tape.2.imp (fun h => h) fun h => Nat.le_trans h ?_
        rcases hw4 with rfl | rfl
        · exact Nat.le_refl _
        · exact Nat.le_succ _
      · have : w5.output = w3.output := by rcases hw4 with rfl | rfl <;> rfl
        rw [this]; exact S0.output
      · rw [hb5 b (Nat.ne_of_lt hb)]
        exact S0.block b hb hn
    have same5 : Later g' w5 g' w5 := ⟨fun b hb => ⟨hb, rfl⟩, fun _ hx => hx, fun _ _ => .inl rfl⟩
    have C1 := rel_put (U' := (· < (J pi mv xs).nxt)) (dst := some tn) (v := .any) (u := .tuple #[.bool true, e.key, e.val]) R5 R5.heap same5 R5.used (by simp [RepA]) (fun d hd => by cases hd; rw [jn]; exact z4)
    have C2 := rel_put (U' := (· < (J pi mv xs).nxt)) (dst := some tb) (v := .d (.bool true)) (u := .bool true) C1 C1.heap same5 C1.used (by simp [RepA, RepD]) (fun d hd => by cases hd; rw [jn]; exact z5)
    have asz : ((a3.put (some tn) (.tuple #[.bool true, e.key, e.val])).put (some tb) (.bool true)).tmps.size = s.n := by rw [put_size, put_size, rsz, jn]
    have vb : ((a3.put (some tn) (.tuple #[.bool true, e.key, e.val])).put (some tb) (.bool true)).eval (.tmp tb) = .bool true := by
      show Array.getD _ tb undef = _
      exact put_get_same (by rw [put_size, rsz, jn]; exact z5)
    have vi : ((a3.put (some tn) (.tuple #[.bool true, e.key, e.val])).put (some tb) (.bool true)).tmps.getD ti undef = pi := by
      rw [put_get_ne n5, put_get_ne n4, tpi]
    generalize ((a3.put (some tn) (.tuple #[.bool true, e.key, e.val])).put (some tb) (.bool true)) = a4 at C2 vb vi asz ⊢
    show (Code.seq _ _).wp P _ a4 w5
    refine wp_seq ?_
    refine wp_cond_split vb (fun _ => ?_) fun h => by cases h
    refine wp_skip ?_
    show (Code.block b1 _).wp P _ a4 w5
    refine wp_block ?_
    refine wp_seq ?_
    refine wp_region ?_
    rw [show List.range (l7.toArray).size = List.range' 0 l7.length by simp [List.range_eq_range'], wpOps_eq_wpList (P := P) (ops := l7.toArray) l7 0 (by intro j; simp)]
    have hgs : ∀ j : Nat, (l7.map (·.dst))[j]? = (l7.toArray[j]?).map fun o : Oper => o.dst := by intro j; simp
    have hborn : (js.map fun j => (es[j]?.map (·.born)).getD 0).toArray.push e.born = ((js ++ [j0]).map fun j => (es[j]?.map (·.born)).getD 0).toArray := by
      simp [hj0']
    have key : ∀ QQ : Exit → Act → World → Prop, (∀ (a' : Act) (w' : World), (∃ s1 g1, RelS s1 g1 a' w' ∧ Step g' w5 g1 w' ∧ AWp P rest (fun e s'' => match e with | .normal => Weak s'' (J pi mv (xs ++ [k])) | _ => False) s1) → QQ .normal a' w') →
        wpList P l7.toArray QQ (o5 :: o6 :: post) a4 w5 := by
      intro QQ hQQ
      simp only [wpList]
      rw [if_pos (by simp [Region.wanted, g5])]
      left
      unfold Oper.wp
      have ex5 : (execOp a4.eval o5).run P w5 = .ok (.value (.tuple #[e.key, e.val])) w5 := by
        simp only [execOp, h5, Act.eval, vi]
        rw [Sem.run_bind, run_entry_at w5 bi bm clock _ es clock e hi5 hm5 he1 hst.2.1]
        rfl
      have v5 : (a4.put (some te) (.tuple #[e.key, e.val])).tmps.getD te undef = .tuple #[e.key, e.val] := put_get_same (by rw [asz]; exact z6)
      have ex6 : (execOp (a4.put (some te) (.tuple #[e.key, e.val])).eval o6).run P w5 = .ok (.value e.key) w5 := by
        simp only [execOp, h6, Act.eval, v5]
        simp [Instr.extract]
      rw [ex5, Oper.upon_value, d5]
      rw [if_pos (by simp [Region.wanted, g6])]
      left
      rw [ex6, Oper.upon_value, d6]
      have C3 := rel_put (U' := (· < (J pi mv xs).nxt)) (dst := some te) (v := .any) (u := .tuple #[e.key, e.val]) C2 C2.heap same5 C2.used (by simp [RepA]) (fun d hd => by cases hd; rw [jn]; exact z6)
      have hkey5 : RepD g'.ro w5 (kd k) e.key := RepD.mono (fun b hb => ⟨S5.ro b (by rw [q2]; exact hb), S5.block b (hr.heap.ro b hb) fun ⟨x, M, hM, hvM, e⟩ => by
        have := (q4.live x M hM).2 hvM
        rw [q2] at this
        exact this.2 (by rw [e]; exact hb)⟩) _ _ hkey
      have C4 := rel_put (U' := (· < (J pi mv xs).nxt)) (dst := some tk) (v := .d (kd k)) (u := e.key) C3 C3.heap same5 C3.used (by simpa only [RepA] using hkey5) (fun d hd => by cases hd; rw [jn]; exact z7)
      refine wpT_sound (P := P) hc (orc := orc) (gs := l7.map (·.dst)) (ops := l7.toArray) hgs (base := (J pi mv xs).nxt) (nxt := (J pi mv xs).nxt + post.length) (K := fun s' => AWp P rest (fun e s'' => match e with | .normal => Weak s'' (J pi mv (xs ++ [k])) | _ => False) s') (g0 := g') (w0 := w5)
        (fun s' g'' a' w' h1 h2 h3 => hQQ a' w' ⟨s', g'', h1, h2, h3⟩) post 0 { entSt tn tb te tk (kd k) (J pi mv xs) with nxt := (J pi mv xs).nxt + post.length } g' _ w5 (by omega) rfl ?_ (Step.refl g' w5) (hround pi mv xs k (List.mem_of_getElem? hk) (by
          rw [hxl]
          exact hjslt) _ fun _ h => h)
      refine ⟨C4.defers, C4.size, fun t => ?_, fun x hx => C4.used x hx, C4.heap⟩
      have h := C4.tmp t
      simp only [putG, Option.some.injEq] at h
      simp only [entSt, St.get, find]
      by_cases e1 : tk = t
      · rw [if_pos e1] at h ⊢; exact h
      · rw [if_neg e1] at h ⊢
        by_cases e2 : te = t
        · rw [if_pos e2] at h ⊢; exact h
        · rw [if_neg e2] at h ⊢
          by_cases e3 : tb = t
          · rw [if_pos e3] at h ⊢; exact h
          · rw [if_neg e3] at h ⊢
            by_cases e4 : tn = t
            · rw [if_pos e4] at h ⊢; exact h
            · rw [if_neg e4] at h ⊢; exact h
    rw [← hl7] at key
    refine key _ fun a' w' ⟨s1, g1, r1, st1, haw⟩ => ?_
    show rest.wp P _ a' w'
    refine wp_mono (haw g1 a' w' r1) fun ee a6 w6 ⟨s2, g2, r2, st2, hq⟩ => ?_
    cases ee with
    | normal =>
      obtain ⟨g3, r3, st3⟩ := hq g2 a6 w6 r2
      have St3 : Step g' w5 g3 w6 := (st1.trans st2).trans st3
      have Sf : Step gd w g3 w6 := S5.trans St3
      have hbi6 : w6.heap[bi]? = w5.heap[bi]? := St3.block bi (by rw [hs5]; exact hbilt) hno
      have hbm6 : w6.heap[bm]? = w5.heap[bm]? := St3.block bm (by rw [hs5]; exact Nat.lt_of_lt_of_le hblt S0.size) hmo
      refine ⟨m - 1, ?_, js ++ [j0], xs ++ [k], g3, clock, ?_, ?_, by simp [hxl], ?_, r3, Sf, by rw [hbi6, hi5, hborn], Nat.le_refl _, by rw [hbm6]; exact hm5, fun h => ?_, fun h => ?_, (notown Sf).1, (notown Sf).2, Nat.lt_of_lt_of_le (by rw [hs5]; exact hbilt) St3.size⟩
      · omega
      · exact hnd'
      · simp; omega
      · intro i j hi
        by_cases hi' : i < js.length
        · rw [List.getElem?_append_left hi'] at hi
          rw [List.getElem?_append_left (by omega)]
          exact hplc i j hi
        · rw [List.getElem?_append_right (by omega)] at hi
          have hi0 : i - js.length = 0 := by
            have := (List.getElem?_eq_some_iff.1 hi).1
            simp at this; omega
          rw [hi0] at hi
          simp at hi
          subst hi
          refine ⟨hj0l, ?_⟩
          rw [List.getElem?_append_right (by omega), hxl, hi0, hk]
          rfl
      · rcases St3.own bi h with h1 | h1
        · rw [hs5] at h1; omega
        · exact hno h1
      · rcases St3.ro' bi h with h1 | h1 | h1
        · exact hnr h1
        · rw [hs5] at h1; omega
        · exact hno h1
    | _ => exact hq.elim
end Go.Abs

namespace Go.Proofs.YtgicofpllopjmaaGreat
open Go.Abs Go.Shelf

def cand (h : Hd) : Nat → Hd | 0 => h.l | 1 => h | _ => h.r
theorem cand_pick {hs : List Hd} {h : Hd} {i : Nat} (hi : i < 3) (hin : cand h i ∈ hs) (hpre : ∀ j, j < i → cand h j ∉ hs) : pickH hs h = cand h i := by
  unfold pickH
  match i, hi with
  | 0, _ => rw [if_pos (show h.l ∈ hs from hin)]; rfl
  | 1, _ => rw [if_neg (show h.l ∉ hs from hpre 0 (by omega)), if_pos (show h ∈ hs from hin)]; rfl
  | 2, _ => rw [if_neg (show h.l ∉ hs from hpre 0 (by omega)), if_neg (show h ∉ hs from hpre 1 (by omega))]; rfl
theorem cand_all {hs : List Hd} {h k : Hd} (hk : k ∈ hs) (hp : pickH hs h = k) (hpre : ∀ j, j < 3 → cand h j ∉ hs) : False := by
  have h0 : h.l ∉ hs := hpre 0 (by omega)
  have h1 : h ∉ hs := hpre 1 (by omega)
  have h2 : h.r ∉ hs := hpre 2 (by omega)
  unfold pickH at hp
  rw [if_neg h0, if_neg h1] at hp
  exact h2 (by rw [← hp] at hk; exact hk)
theorem turnG_len : ∀ (h : Hd) (l : List Crk), (turnG h l).length ≤ l.length
  | h, [] => Nat.le_refl _
  | h, d :: t => by
    have := turnG_len d.h t
    simp only [turnG]
    split <;> simp <;> omega
theorem polyOf_len : ∀ (l : List Crk), (polyOf l).length ≤ l.length
  | [] => Nat.le_refl _
  | c :: t => by have := turnG_len c.h t; simp [polyOf]; omega

def walkO (A : List (Cell × List Hd)) : Ob := ⟨54, mapM, dr (cRows A)⟩
set_option maxHeartbeats 8000000 in
theorem walk_px {S : Cell → Bool} {C : List Crk} (hC : Cracks S C) (hbd : ∀ d ∈ C, -100000 ≤ d.p.x ∧ d.p.x ≤ 100000 ∧ -100000 ≤ d.p.y ∧ d.p.y ≤ 100000) {A : List (Cell × List Hd)} {rem : Crk → Prop} (hA : MapOf A rem) (hrem : ∀ d, rem d → isC S d = true)
    {c : Crk} {n : Nat} (pc : Per (suc S) c n) (hn : n ≤ 1000000) (hr : ∀ i, i < n → rem (itn (suc S) i c)) (lc : ∀ d ∈ orb (suc S) n c, d ≠ c → lowC c.p d.p) {hs0 : List Hd} (hh : headsAt A c.p = c.h :: hs0) :
    PX Tryz.prog 29 [.hm 0, .d (.agg c.p.row)] [(0, walkO A)] [(0, 0)] [(0, walkO (takeAll A (orb (suc S) n c)))] (.d (.agg [encCells (polyOf (orb (suc S) n c))])) := by
  have hcC : isC S c = true := hrem _ (hr 0 pc.pos)
  have hnd := orb_nodup hC.cl hC.inj ((hC c).2 hcC) pc.least
  have hMap := hA.walk hr hnd
  have four : ∀ {A' : List (Cell × List Hd)} {rem' : Crk → Prop} (h : MapOf A' rem') (p : Cell), (headsAt A' p).length ≤ 4 := fun {A' rem'} h p => by
    have hnd' : (headsAt A' p).Nodup := by
      unfold headsAt
      cases hg : getL A' p with
      | none => exact List.nodup_nil
      | some hs => exact (h.some _ _ hg).2
    exact nodup_le_len (m := [Hd.e, Hd.n, Hd.w, Hd.s]) hnd' fun x _ => by cases x <;> simp
  have stepN : ∀ m, m < n → (itn (suc S) (m + 1) c) = suc S (itn (suc S) m c) := fun m _ => itn_succ m c
  have atC : ∀ m, isC S (itn (suc S) m c) = true := fun m => orb_isC hcC (n := m + 1) (mem_orb.2 ⟨m, by omega, rfl⟩)
  have bdC : ∀ m, -100000 ≤ (itn (suc S) m c).p.x ∧ (itn (suc S) m c).p.x ≤ 100000 ∧ -100000 ≤ (itn (suc S) m c).p.y ∧ (itn (suc S) m c).p.y ≤ 100000 := fun m => hbd _ ((hC _).2 (atC m))
  -- what a round needs
  have tk : ∀ m, m < n → PX Tryz.prog 57 [.hm 0, .d (.agg (itn (suc S) m c).p.row), .d (.int .i64 (itn (suc S) m c).h.int)] [(0, walkO (takeAll A (orb (suc S) m c)))] [(0, 0)] [(0, walkO (takeAll A (orb (suc S) (m + 1) c)))] (.d (.bool true)) := fun m hm => by
    rw [takeAll_succ]
    have hM := hMap m (by omega)
    refine take_px _ _ ((hM.heads _ _).2 ⟨hr m hm, fun hmem => ?_⟩) (Nat.le_trans (four hM _) (by omega))
    have e1 : orb (suc S) n c = orb (suc S) m c ++ (itn (suc S) m c :: orb (suc S) (n - m - 1) (itn (suc S) (m + 1) c)) := by
      have : orb (suc S) n c = orb (suc S) (m + (n - m - 1 + 1)) c := by congr 1; omega
      rw [this, orb_add]
      simp only [orb]
      rw [itn_succ]
    rw [e1] at hnd
    exact (List.nodup_append.1 hnd).2.2 _ hmem _ (by simp) rfl
  have fr : ∀ m, m < n → PC Tryz.prog 58 [.int .i64 (itn (suc S) m c).h.int, .agg (itn (suc S) m c).p.row] (.p (.agg (itn (suc S) (m + 1) c).p.row)) := fun m hm => by
    rw [stepN m hm]
    exact from_ok _ _ (by have := bdC m; omega)
  have lk : ∀ m, m < n → lookIs .nl false (lookA (.agg (itn (suc S) (m + 1) c).p.row) (dr (cRows (takeAll A (orb (suc S) (m + 1) c))))) (encHs (headsAt (takeAll A (orb (suc S) (m + 1) c)) (itn (suc S) (m + 1) c).p)) = True := fun m _ => look_c _ _
  have pk : ∀ m, m + 1 < n → pickH (headsAt (takeAll A (orb (suc S) (m + 1) c)) (itn (suc S) (m + 1) c).p) (itn (suc S) m c).h = (itn (suc S) (m + 1) c).h ∧ (itn (suc S) (m + 1) c).h ∈ headsAt (takeAll A (orb (suc S) (m + 1) c)) (itn (suc S) (m + 1) c).p := fun m hm => by
    have hM := hMap (m + 1) (by omega)
    have hin : (itn (suc S) (m + 1) c).h ∈ headsAt (takeAll A (orb (suc S) (m + 1) c)) (itn (suc S) (m + 1) c).p := by
      refine (hM.heads _ _).2 ⟨hr _ hm, fun hmem => ?_⟩
      have e1 : orb (suc S) n c = orb (suc S) (m + 1) c ++ (itn (suc S) (m + 1) c :: orb (suc S) (n - m - 2) (itn (suc S) (m + 2) c)) := by
        have : orb (suc S) n c = orb (suc S) (m + 1 + (n - m - 2 + 1)) c := by congr 1; omega
        rw [this, orb_add]
        simp only [orb]
        rw [itn_succ (m + 1)]
      rw [e1] at hnd
      exact (List.nodup_append.1 hnd).2.2 _ hmem _ (by simp) rfl
    refine ⟨?_, hin⟩
    have e2 : (itn (suc S) (m + 1) c).h = nxH S (itn (suc S) (m + 1) c).p (itn (suc S) m c).h := by rw [stepN m (by omega)]; rfl
    rw [e2]
    exact pickH_eq (fun k hk => hrem _ ((hM.heads _ _).1 hk).1) (by rw [← e2]; exact hin)
  have back : ∀ m, m < n → ((itn (suc S) (m + 1) c).p = c.p ↔ m + 1 = n) := fun m hm => by
    constructor
    · intro e
      apply Classical.byContradiction
      intro hne
      have h1 := lc _ (mem_orb.2 ⟨m + 1, by omega, rfl⟩) (pc.least (m + 1) (by omega) (by omega))
      rw [e] at h1
      exact lowC_irr _ h1
    · intro e; rw [e, pc.ret]
  have ps : ∀ m, polyOf (orb (suc S) (m + 2) c) = if (itn (suc S) (m + 1) c).h = (itn (suc S) m c).h then polyOf (orb (suc S) (m + 1) c) else polyOf (orb (suc S) (m + 1) c) ++ [(itn (suc S) (m + 1) c).p] := fun m => polyOf_succ
  have pl : ∀ m, (polyOf (orb (suc S) m c)).length ≤ m := fun m => by have := polyOf_len (orb (suc S) m c); rw [orb_length] at this; exact this
  have ct : ∀ (l : List Hd) (h : Hd), l.length ≤ 4 → PC Tryz.prog 61 [encHs l, .int .i64 h.int] (.p (.bool (decide (h ∈ l)))) := fun l h hl => contains_ok l h (by omega)
  have len4 : ∀ m, m ≤ n → ∀ p, (headsAt (takeAll A (orb (suc S) m c)) p).length ≤ 4 := fun m hm p => four (hMap m hm) p
  have l0 := look_c c.p A
  rw [hh] at l0
  have P1 : polyOf (orb (suc S) 1 c) = [c.p] := rfl
  have A0 : takeAll A (orb (suc S) 0 c) = A := rfl
  have i0 : itn (suc S) 0 c = c := rfl
  have hpos := pc.pos
  clear hMap four atC bdC hnd
  generalize hP : (fun m => polyOf (orb (suc S) m c)) = P at *
  generalize hT : (fun m => takeAll A (orb (suc S) m c)) = TA at *
  generalize hI : (fun m => itn (suc S) m c) = cr at *
  have hP' : ∀ m, polyOf (orb (suc S) m c) = P m := fun m => by rw [← hP]
  have hT' : ∀ m, takeAll A (orb (suc S) m c) = TA m := fun m => by rw [← hT]
  have hI' : ∀ m, itn (suc S) m c = cr m := fun m => by rw [← hI]
  simp only [hP', hT', hI'] at *
  clear hP' hT' hI' hP hT hI
  rw [← A0, ← i0]
  have l0' := l0
  have back' : ∀ m, m < n → ((cr (m + 1)).p = (cr 0).p ↔ m + 1 = n) := by rw [i0]; exact back
  rw [← A0, ← i0] at l0'
  unfold walkO at tk ⊢
  have P1' : P 1 = [(cr 0).p] := by rw [i0]; exact P1
  have lk1 : ∀ m, m < n → lookIs .nl false (lookA (.agg [.int .i64 (cr (m + 1)).p.x, .int .i64 (cr (m + 1)).p.y]) (dr (cRows (TA (m + 1))))) (encHs (headsAt (TA (m + 1)) (cr (m + 1)).p)) = True := lk
  clear back P1 A0 l0 lk hh lc pc hr hrem hA hbd hC i0 A
  refine px_of_awp cx (fn := Tryz.f29) (c := _) 1 Tryz.func29 rfl rfl (Nat.le_of_ble_eq_true rfl) rfl rfl fun Ls => ?_
  rw [Tryz.ntmps29]; refine Nav.imp ?_
  refine awp_region cx [] fun K hK => ?_
  simp [push_cast]
  repeat (refine And.intro (by clear hK; intros; first | omega | (simp_all; done) | (simp_all <;> omega)) ?_)
  refine hK _ ?_; clear hK K; refine Nav.imp ?_
  refine awp_region cx [] fun K hK => ?_
  simp [push_cast]
  repeat (refine And.intro (by clear hK; intros; first | omega | (simp_all; done) | (simp_all <;> omega)) ?_)
  refine hK _ ?_; clear hK K; refine Nav.imp ?_
  refine awp_region cx [(2, .p (encHs ((cr 0).h :: hs0)))] fun K hK => ?_
  simp [push_cast, l0']
  repeat (refine And.intro (by clear hK; intros; first | omega | (simp_all; done) | (simp_all <;> omega)) ?_)
  refine hK _ ?_; clear hK K; refine Nav.imp ?_
  refine awp_region cx [] fun K hK => ?_
  simp [push_cast]
  repeat (refine And.intro (by clear hK; intros; first | omega | (simp_all; done) | (simp_all <;> omega)) ?_)
  refine hK _ ?_; clear hK K; refine Nav.imp ?_
  refine awp_loop (β := Nat) (fun m => ⟨55, [(0, .hm 0), (3, .ptr 1 0 0), (4, .ptr 2 0 0), (5, .ptr 3 0 0), (6, .d (.int .i64 (cr m).h.int)), (7, .ptr 5 0 0), (55, .pin 0 (Ls 0))], [(0, some ⟨54, mapM, dr (cRows (TA m))⟩), (1, some ⟨43, 2, [[.d (.int .i64 (cr 0).p.x), .d (.int .i64 (cr 0).p.y)]]⟩), (2, some ⟨40, 1, [[.nl]]⟩), (3, some ⟨40, 1, [[.hs 4 0 (P (m + 1)).length]]⟩), (4, some ⟨43, 2, dr ((P (m + 1)).map Cell.row)⟩), (5, some ⟨43, 2, [[.d (.int .i64 (cr m).p.x), .d (.int .i64 (cr m).p.y)]]⟩)], 6⟩) (fun m => m < n) (fun m => n - m) 0 ?_ hpos ?_
  · simp only [Nat.zero_add, P1']
    refine weak_of [(0, some 0), (1, some 1), (2, some 2), (3, some 6), (4, some 4), (5, some 15)] rfl (by simp [upT, up, upL, push_cast]) (by simp [upH, upR, upL, up, push_cast]) (by simp [namesOk, push_cast]) (by simp [olds])
  · intro m hm
    have t1 := tk m hm
    have f1 := fr m hm
    have l1 := lk1 m hm
    have k1 := back' m hm
    have p1 := ps m
    have q1 := pk m
    have g1 := pl (m + 1)
    have n4 := len4 (m + 1) (by omega) (cr (m + 1)).p
    generalize hpt : P (m + 1) = pts at *
    generalize hpt2 : P (m + 1 + 1) = pts2 at *
    refine Nav.imp ?_
    refine awp_region cx [(3, .x ⟨[(0, 0)], [.hm 0, .d (.agg [.int .i64 (cr m).p.x, .int .i64 (cr m).p.y]), .d (.int .i64 (cr m).h.int)], [(0, ⟨54, mapM, dr (cRows (TA m))⟩)], [(0, 0)], none, [(0, ⟨54, mapM, dr (cRows (TA (m + 1)))⟩)], .d (.bool true)⟩)] fun K hK => ?_
    simp [push_cast, t1]
    repeat (refine And.intro (by clear hK; intros; first | omega | (simp_all; done) | (simp_all <;> omega)) ?_)
    refine hK _ ?_; clear hK K; refine Nav.imp ?_
    refine awp_cond (b := true) (by simp [push_cast]) (fun hb => ?_) (fun hb => ?_) <;> (refine Nav.imp ?_)
    · refine awp_region cx [(2, .p (.agg [.int .i64 (cr (m + 1)).p.x, .int .i64 (cr (m + 1)).p.y]))] fun K hK => ?_
      simp [push_cast, f1]
      repeat (refine And.intro (by clear hK; intros; first | omega | (simp_all; done) | (simp_all <;> omega)) ?_)
      refine hK _ ?_; clear hK K; refine Nav.imp ?_
      refine awp_region cx [] fun K hK => ?_
      simp [push_cast]
      repeat (refine And.intro (by clear hK; intros; first | omega | (simp_all; done) | (simp_all <;> omega)) ?_)
      refine hK _ ?_; clear hK K; refine Nav.imp ?_
      by_cases hk : m + 1 = n
      · have hk1 := k1.2 hk
        have hkx : (cr (m + 1)).p.x = (cr 0).p.x := by rw [hk1]
        have hky : (cr (m + 1)).p.y = (cr 0).p.y := by rw [hk1]
        have ht : List.take pts.length (pts.map Cell.row) = pts.map Cell.row := List.take_of_length_le (by simp)
        refine awp_cond (b := true) (by simp [push_cast, hkx, hky]) (fun hb => ?_) (fun hb => ?_) <;> (refine Nav.imp ?_)
        · subst hk
          rw [hpt]
          refine awp_freeze 4 (pts.map Cell.row) rfl (by simp [push_cast, ht]) fun K hK => ?_
          simp [push_cast, St.fz, fzT, fzH, fzO, fz, fzL, fzR, fzR_dr, fzR_app, fzR_set, fzL_map, ht]
          refine hK _ ?_; clear hK K; refine Nav.imp ?_
          refine awp_region cx [] fun K hK => ?_
          simp [push_cast]
          repeat (refine And.intro (by clear hK; intros; first | omega | (simp_all; done) | (simp_all <;> omega)) ?_)
          refine hK _ ?_; clear hK K; refine Nav.imp ?_
          first | refine rx_r [(0, 0)] ?_ | refine rx_n [(0, 0)] ?_
          simp [push_cast]
          try decide
        · simp at hb
      · have hk1 : (cr (m + 1)).p.x = (cr 0).p.x → ¬ (cr (m + 1)).p.y = (cr 0).p.y := fun e e' => hk (k1.1 (by cases h1 : (cr (m + 1)).p; cases h2 : (cr 0).p; simp only [h1, h2] at e e'; rw [e, e']))
        refine awp_cond (b := false) (by simp [push_cast]; exact hk1) (fun hb => ?_) (fun hb => ?_) <;> (refine Nav.imp ?_)
        · simp at hb
        · obtain ⟨q2, q3⟩ := q1 (by omega)
          have h16 : (pts.length + 1) * 16 ≤ 140737488355328 := by omega
          have cc := fun k => ct (headsAt (TA (m + 1)) (cr (m + 1)).p) k n4
          have lf := left_ok (cr m).h
          have rg := right_ok (cr m).h
          have ne1 := (cr m).h.l_ne
          have ne2 := (cr m).h.r_ne
          generalize headsAt (TA (m + 1)) (cr (m + 1)).p = hs at *
          generalize (cr m).h = h at *
          generalize hnx : (cr (m + 1)).h = nx at *
          refine awp_region cx [(1, .p (.int .i64 h.l.int)), (4, .p (.int .i64 h.r.int))] fun K hK => ?_
          simp [push_cast, lf, rg]
          repeat (refine And.intro (by clear hK; intros; first | omega | (simp_all; done) | (simp_all <;> omega)) ?_)
          refine hK _ ?_; clear hK K; refine Nav.imp ?_
          refine awp_loop (β := Nat) (fun i => ⟨55, [(0, .hm 0), (3, .ptr 1 0 0), (4, .ptr 2 0 0), (5, .ptr 3 0 0), (6, .d (.int .i64 h.int)), (7, .ptr 5 0 0), (34, .d (.agg [.int .i64 h.l.int, .int .i64 h.int, .int .i64 h.r.int])), (35, .d (.int .i64 i)), (55, .pin 0 (Ls 0))], [(0, some ⟨54, mapM, dr (cRows (TA (m + 1)))⟩), (1, some ⟨43, 2, [[.d (.int .i64 (cr 0).p.x), .d (.int .i64 (cr 0).p.y)]]⟩), (2, some ⟨40, 1, [[.nl]]⟩), (3, some ⟨40, 1, [[.hs 4 0 pts.length]]⟩), (4, some ⟨43, 2, dr (pts.map Cell.row)⟩), (5, some ⟨43, 2, [[.d (.int .i64 (cr (m + 1)).p.x), .d (.int .i64 (cr (m + 1)).p.y)]]⟩)], 6⟩) (fun i => i ≤ 3 ∧ ∀ j, j < i → cand h j ∉ hs) (fun i => 3 - i) 0 ?_ ⟨by omega, by omega⟩ ?_
          · refine weak_of [(0, some 0), (1, some 1), (2, some 2), (3, some 3), (4, some 4), (5, some 5)] rfl (by simp [upT, up, upL, push_cast]) (by simp [upH, upR, upL, up, push_cast]) (by simp [namesOk, push_cast]) (by simp [olds])
          · rintro i ⟨hi, hpre⟩
            refine Nav.imp ?_
            refine awp_region cx [] fun K hK => ?_
            simp [push_cast]
            repeat (refine And.intro (by clear hK; intros; first | omega | (simp_all; done) | (simp_all <;> omega)) ?_)
            refine hK _ ?_; clear hK K; refine Nav.imp ?_
            by_cases hlt : i < 3
            · have hb0 : ((i : Int) < 3) := by omega
              refine awp_cond (b := true) (by simp [push_cast, hb0]) (fun hb => ?_) (fun hb => ?_) <;> (refine Nav.imp ?_)
              · obtain rfl | rfl | rfl : i = 0 ∨ i = 1 ∨ i = 2 := by omega
                · refine awp_region cx [] fun K hK => ?_
                  simp [push_cast]
                  repeat (refine And.intro (by clear hK; intros; first | omega | (simp_all; done) | (simp_all <;> omega)) ?_)
                  refine hK _ ?_; clear hK K; refine Nav.imp ?_
                  by_cases hm2 : h.l ∈ hs
                  · have hx : nx = h.l := by
                      have h9 := cand_pick (hs := hs) (h := h) (i := 0) (by omega) hm2 (fun j hj => hpre j hj)
                      rw [q2] at h9
                      exact h9
                    have c9 := cc h.l
                    rw [decide_eq_true hm2] at c9
                    refine awp_region cx [(2, .p (encHs hs)), (4, .p (.bool true))] fun K hK => ?_
                    simp [push_cast, l1, c9]
                    repeat (refine And.intro (by clear hK; intros; first | omega | (simp_all; done) | (simp_all <;> omega)) ?_)
                    refine hK _ ?_; clear hK K; refine Nav.imp ?_
                    refine awp_cond (b := true) (by simp [push_cast]) (fun hb => ?_) (fun hb => ?_) <;> (refine Nav.imp ?_)
                    · refine awp_region cx [] fun K hK => ?_
                      simp [push_cast]
                      repeat (refine And.intro (by clear hK; intros; first | omega | (simp_all; done) | (simp_all <;> omega)) ?_)
                      refine hK _ ?_; clear hK K; refine Nav.imp ?_
                      have hne : ¬ h.l.int = h.int := fun e => ne1 (Hd.int_inj e)
                      refine awp_cond (b := true) (by simp [push_cast, hne]) (fun hb => ?_) (fun hb => ?_) <;> (refine Nav.imp ?_)
                      · refine awp_region cx [] fun K hK => ?_
                        simp [push_cast, h16]
                        repeat (refine And.intro (by clear hK; intros; first | omega | (simp_all; done) | (simp_all <;> omega)) ?_)
                        refine hK _ ?_; clear hK K; refine Nav.imp ?_
                        refine awp_region cx [] fun K hK => ?_
                        simp [push_cast]
                        repeat (refine And.intro (by clear hK; intros; first | omega | (simp_all; done) | (simp_all <;> omega)) ?_)
                        refine hK _ ?_; clear hK K; refine Nav.imp ?_
                        refine ⟨m + 1, by omega, by omega, ?_⟩
                        subst hx
                        rw [if_neg (show ¬ h.l = h from ne1)] at p1
                        subst p1
                        refine weak_of [(0, some 0), (1, some 1), (2, some 2), (3, some 3), (4, some 21), (5, some 5)] rfl (by simp [upT, up, upL, push_cast, hnx, hpt2]) (by simp [upH, upR, upL, up, push_cast, hnx, hpt2]) (by simp [namesOk, push_cast]) (by simp [olds])
                      · simp at hb
                    · simp at hb
                  · have c9 := cc h.l
                    rw [decide_eq_false hm2] at c9
                    refine awp_region cx [(2, .p (encHs hs)), (4, .p (.bool false))] fun K hK => ?_
                    simp [push_cast, l1, c9]
                    repeat (refine And.intro (by clear hK; intros; first | omega | (simp_all; done) | (simp_all <;> omega)) ?_)
                    refine hK _ ?_; clear hK K; refine Nav.imp ?_
                    refine awp_cond (b := false) (by simp [push_cast]) (fun hb => ?_) (fun hb => ?_) <;> (refine Nav.imp ?_)
                    · simp at hb
                    · have w1 : IntKind.wrap .i64 (1 : Int) = 1 := wrap_i64 (by omega) (by omega)
                      refine awp_region cx [] fun K hK => ?_
                      simp [push_cast, w1]
                      repeat (refine And.intro (by clear hK; intros; first | omega | (simp_all; done) | (simp_all <;> omega)) ?_)
                      refine hK _ ?_; clear hK K; refine Nav.imp ?_
                      refine ⟨0 + 1, ⟨by omega, fun j hj => ?_⟩, by omega, ?_⟩
                      · rcases Nat.lt_succ_iff_lt_or_eq.1 hj with h8 | rfl
                        · exact hpre j h8
                        · exact hm2
                      · refine weak_of [(0, some 0), (1, some 1), (2, some 2), (3, some 3), (4, some 4), (5, some 5)] rfl (by simp [upT, up, upL, push_cast]) (by simp [upH, upR, upL, up, push_cast]) (by simp [namesOk, push_cast]) (by simp [olds])
                · refine awp_region cx [] fun K hK => ?_
                  simp [push_cast]
                  repeat (refine And.intro (by clear hK; intros; first | omega | (simp_all; done) | (simp_all <;> omega)) ?_)
                  refine hK _ ?_; clear hK K; refine Nav.imp ?_
                  by_cases hm2 : h ∈ hs
                  · have hx : nx = h := by
                      have h9 := cand_pick (hs := hs) (h := h) (i := 1) (by omega) hm2 (fun j hj => hpre j hj)
                      rw [q2] at h9
                      exact h9
                    have c9 := cc h
                    rw [decide_eq_true hm2] at c9
                    refine awp_region cx [(2, .p (encHs hs)), (4, .p (.bool true))] fun K hK => ?_
                    simp [push_cast, l1, c9]
                    repeat (refine And.intro (by clear hK; intros; first | omega | (simp_all; done) | (simp_all <;> omega)) ?_)
                    refine hK _ ?_; clear hK K; refine Nav.imp ?_
                    refine awp_cond (b := true) (by simp [push_cast]) (fun hb => ?_) (fun hb => ?_) <;> (refine Nav.imp ?_)
                    · refine awp_region cx [] fun K hK => ?_
                      simp [push_cast]
                      repeat (refine And.intro (by clear hK; intros; first | omega | (simp_all; done) | (simp_all <;> omega)) ?_)
                      refine hK _ ?_; clear hK K; refine Nav.imp ?_
                      refine awp_cond (b := false) (by simp [push_cast]) (fun hb => ?_) (fun hb => ?_) <;> (refine Nav.imp ?_)
                      · simp at hb
                      · refine awp_region cx [] fun K hK => ?_
                        simp [push_cast]
                        repeat (refine And.intro (by clear hK; intros; first | omega | (simp_all; done) | (simp_all <;> omega)) ?_)
                        refine hK _ ?_; clear hK K; refine Nav.imp ?_
                        refine ⟨m + 1, by omega, by omega, ?_⟩
                        subst hx
                        rw [if_pos rfl] at p1
                        subst p1
                        refine weak_of [(0, some 0), (1, some 1), (2, some 2), (3, some 3), (4, some 4), (5, some 5)] rfl (by simp [upT, up, upL, push_cast, hnx, hpt2]) (by simp [upH, upR, upL, up, push_cast, hnx, hpt2]) (by simp [namesOk, push_cast]) (by simp [olds])
                    · simp at hb
                  · have c9 := cc h
                    rw [decide_eq_false hm2] at c9
                    refine awp_region cx [(2, .p (encHs hs)), (4, .p (.bool false))] fun K hK => ?_
                    simp [push_cast, l1, c9]
                    repeat (refine And.intro (by clear hK; intros; first | omega | (simp_all; done) | (simp_all <;> omega)) ?_)
                    refine hK _ ?_; clear hK K; refine Nav.imp ?_
                    refine awp_cond (b := false) (by simp [push_cast]) (fun hb => ?_) (fun hb => ?_) <;> (refine Nav.imp ?_)
                    · simp at hb
                    · have w1 : IntKind.wrap .i64 (2 : Int) = 2 := wrap_i64 (by omega) (by omega)
                      refine awp_region cx [] fun K hK => ?_
                      simp [push_cast, w1]
                      repeat (refine And.intro (by clear hK; intros; first | omega | (simp_all; done) | (simp_all <;> omega)) ?_)
                      refine hK _ ?_; clear hK K; refine Nav.imp ?_
                      refine ⟨1 + 1, ⟨by omega, fun j hj => ?_⟩, by omega, ?_⟩
                      · rcases Nat.lt_succ_iff_lt_or_eq.1 hj with h8 | rfl
                        · exact hpre j h8
                        · exact hm2
                      · refine weak_of [(0, some 0), (1, some 1), (2, some 2), (3, some 3), (4, some 4), (5, some 5)] rfl (by simp [upT, up, upL, push_cast]) (by simp [upH, upR, upL, up, push_cast]) (by simp [namesOk, push_cast]) (by simp [olds])
                · refine awp_region cx [] fun K hK => ?_
                  simp [push_cast]
                  repeat (refine And.intro (by clear hK; intros; first | omega | (simp_all; done) | (simp_all <;> omega)) ?_)
                  refine hK _ ?_; clear hK K; refine Nav.imp ?_
                  by_cases hm2 : h.r ∈ hs
                  · have hx : nx = h.r := by
                      have h9 := cand_pick (hs := hs) (h := h) (i := 2) (by omega) hm2 (fun j hj => hpre j hj)
                      rw [q2] at h9
                      exact h9
                    have c9 := cc h.r
                    rw [decide_eq_true hm2] at c9
                    refine awp_region cx [(2, .p (encHs hs)), (4, .p (.bool true))] fun K hK => ?_
                    simp [push_cast, l1, c9]
                    repeat (refine And.intro (by clear hK; intros; first | omega | (simp_all; done) | (simp_all <;> omega)) ?_)
                    refine hK _ ?_; clear hK K; refine Nav.imp ?_
                    refine awp_cond (b := true) (by simp [push_cast]) (fun hb => ?_) (fun hb => ?_) <;> (refine Nav.imp ?_)
                    · refine awp_region cx [] fun K hK => ?_
                      simp [push_cast]
                      repeat (refine And.intro (by clear hK; intros; first | omega | (simp_all; done) | (simp_all <;> omega)) ?_)
                      refine hK _ ?_; clear hK K; refine Nav.imp ?_
                      have hne : ¬ h.r.int = h.int := fun e => ne2 (Hd.int_inj e)
                      refine awp_cond (b := true) (by simp [push_cast, hne]) (fun hb => ?_) (fun hb => ?_) <;> (refine Nav.imp ?_)
                      · refine awp_region cx [] fun K hK => ?_
                        simp [push_cast, h16]
                        repeat (refine And.intro (by clear hK; intros; first | omega | (simp_all; done) | (simp_all <;> omega)) ?_)
                        refine hK _ ?_; clear hK K; refine Nav.imp ?_
                        refine awp_region cx [] fun K hK => ?_
                        simp [push_cast]
                        repeat (refine And.intro (by clear hK; intros; first | omega | (simp_all; done) | (simp_all <;> omega)) ?_)
                        refine hK _ ?_; clear hK K; refine Nav.imp ?_
                        refine ⟨m + 1, by omega, by omega, ?_⟩
                        subst hx
                        rw [if_neg (show ¬ h.r = h from ne2)] at p1
                        subst p1
                        refine weak_of [(0, some 0), (1, some 1), (2, some 2), (3, some 3), (4, some 21), (5, some 5)] rfl (by simp [upT, up, upL, push_cast, hnx, hpt2]) (by simp [upH, upR, upL, up, push_cast, hnx, hpt2]) (by simp [namesOk, push_cast]) (by simp [olds])
                      · simp at hb
                    · simp at hb
                  · have c9 := cc h.r
                    rw [decide_eq_false hm2] at c9
                    refine awp_region cx [(2, .p (encHs hs)), (4, .p (.bool false))] fun K hK => ?_
                    simp [push_cast, l1, c9]
                    repeat (refine And.intro (by clear hK; intros; first | omega | (simp_all; done) | (simp_all <;> omega)) ?_)
                    refine hK _ ?_; clear hK K; refine Nav.imp ?_
                    refine awp_cond (b := false) (by simp [push_cast]) (fun hb => ?_) (fun hb => ?_) <;> (refine Nav.imp ?_)
                    · simp at hb
                    · have w1 : IntKind.wrap .i64 (3 : Int) = 3 := wrap_i64 (by omega) (by omega)
                      refine awp_region cx [] fun K hK => ?_
                      simp [push_cast, w1]
                      repeat (refine And.intro (by clear hK; intros; first | omega | (simp_all; done) | (simp_all <;> omega)) ?_)
                      refine hK _ ?_; clear hK K; refine Nav.imp ?_
                      refine ⟨2 + 1, ⟨by omega, fun j hj => ?_⟩, by omega, ?_⟩
                      · rcases Nat.lt_succ_iff_lt_or_eq.1 hj with h8 | rfl
                        · exact hpre j h8
                        · exact hm2
                      · refine weak_of [(0, some 0), (1, some 1), (2, some 2), (3, some 3), (4, some 4), (5, some 5)] rfl (by simp [upT, up, upL, push_cast]) (by simp [upH, upR, upL, up, push_cast]) (by simp [namesOk, push_cast]) (by simp [olds])
              · simp at hb
            · exact (cand_all q3 q2 fun j hj => hpre j (by omega)).elim
    · simp at hb
end Go.Proofs.YtgicofpllopjmaaGreat

namespace Go.Proofs.YtgicofpllopjmaaGreat
open Go.Abs

def polyR (L : List Crk) : List Cell := let T := turnG (lastH .e L) L; T.drop (minK T T.length) ++ T.take (minK T T.length)
theorem lastH_get : ∀ {L : List Crk} {a : Crk} {h : Hd} {n : Nat}, L.length = n + 1 → L[n]? = some a → lastH h L = a.h
  | [], a, h, n, hl, _ => by simp at hl
  | [b], a, h, n, hl, hg => by
    have : n = 0 := by simpa using hl.symm
    subst this; simp at hg; subst hg; rfl
  | b :: c :: L, a, h, 0, hl, hg => by simp at hl
  | b :: c :: L, a, h, n + 1, hl, hg => by
    have := lastH_get (L := c :: L) (a := a) (h := b.h) (n := n) (by simpa using hl) (by simpa using hg)
    exact this
theorem prev_at {L : List Crk} {i : Nat} (hi : i < L.length) : ∃ a : Crk, L[(i + L.length - 1) % L.length]? = some a ∧ a.h = lastH (lastH .e L) (L.take i) := by
  by_cases h0 : i = 0
  · subst h0
    obtain ⟨a, ha⟩ := getq (l := L) (k := L.length - 1) (by omega)
    refine ⟨a, ?_, ?_⟩
    · rw [Nat.zero_add, Nat.mod_eq_of_lt (by omega)]; exact ha
    · simp only [List.take_zero, lastH]
      exact (lastH_get (n := L.length - 1) (by omega) ha).symm
  · obtain ⟨a, ha⟩ := getq (l := L) (k := i - 1) (by omega)
    refine ⟨a, ?_, ?_⟩
    · rw [show i + L.length - 1 = i - 1 + L.length by omega, Nat.add_mod_right, Nat.mod_eq_of_lt (by omega)]; exact ha
    · exact (lastH_get (L := L.take i) (n := i - 1) (by rw [List.length_take]; omega) (by rw [List.getElem?_take]; rw [if_pos (by omega)]; exact ha)).symm
theorem take_snoc {α : Type} {L : List α} {i : Nat} {b : α} (h : L[i]? = some b) : L.take (i + 1) = L.take i ++ [b] := by
  rw [List.take_add_one, h]; rfl
theorem turn_next {L : List Crk} {i : Nat} {b : Crk} (hb : L[i]? = some b) (h : Hd) : turnG h (L.take (i + 1)) = if b.h = lastH h (L.take i) then turnG h (L.take i) else turnG h (L.take i) ++ [b.p] := by
  rw [take_snoc hb, turnG_append]
  simp only [turnG]
  split <;> simp
theorem hd_eq {a b : Hd} : a = b ↔ a.dx = b.dx ∧ a.dy = b.dy := by cases a <;> cases b <;> simp [Hd.dx, Hd.dy]
set_option maxHeartbeats 16000000 in
theorem polygon_ok (L : List Crk) (hl : L.length ≤ 1000000) (h0 : 0 < L.length) : PC Tryz.prog 33 [encCk L] (.p (.agg [encCells (polyR L)])) := by
  have hres : polyR L = (turnG (lastH .e L) L).drop (minK (turnG (lastH .e L) L) (turnG (lastH .e L) L).length) ++ (turnG (lastH .e L) L).take (minK (turnG (lastH .e L) L) (turnG (lastH .e L) L).length) := rfl
  generalize polyR L = res at *
  have hlast : ∀ i, i ≤ L.length → (turnG (lastH .e L) (L.take i)).length ≤ 1000000 := fun i hi => by
    have h1 := turnG_len (lastH .e L) (L.take i)
    rw [List.length_take] at h1
    exact Nat.le_trans h1 (Nat.le_trans (Nat.min_le_right _ _) hl)
  refine pc_of_awp cx (fn := Tryz.f33) (c := _) Tryz.func33 rfl rfl (Nat.le_of_ble_eq_true rfl) ?_
  rw [Tryz.ntmps33]; refine Nav.imp ?_
  refine awp_region cx [] fun K hK => ?_
  simp [push_cast]
  repeat (refine And.intro (by clear hK; intros; first | omega | (simp_all; done) | (simp_all <;> omega)) ?_)
  refine hK _ ?_; clear hK K; refine Nav.imp ?_
  refine awp_region cx [] fun K hK => ?_
  simp [push_cast]
  repeat (refine And.intro (by clear hK; intros; first | omega | (simp_all; done) | (simp_all <;> omega)) ?_)
  refine hK _ ?_; clear hK K; refine Nav.imp ?_
  refine awp_region cx [] fun K hK => ?_
  simp [push_cast]
  repeat (refine And.intro (by clear hK; intros; first | omega | (simp_all; done) | (simp_all <;> omega)) ?_)
  refine hK _ ?_; clear hK K; refine Nav.imp ?_
  refine awp_region cx [] fun K hK => ?_
  simp [push_cast]
  repeat (refine And.intro (by clear hK; intros; first | omega | (simp_all; done) | (simp_all <;> omega)) ?_)
  refine hK _ ?_; clear hK K; refine Nav.imp ?_
  refine awp_loop (β := Nat × List Cell) (fun s => ⟨106, [(0, .d (encCk L)), (2, .ptr 0 0 0), (3, .d (.int .i64 L.length)), (4, .hs 1 0 s.2.length), (5, .d (.int .i64 s.1))], [(0, some ⟨40, 1, [[.nl]]⟩), (1, some ⟨43, 2, dr (s.2.map Cell.row)⟩)], 2⟩) (fun s => s.1 ≤ L.length ∧ s.2 = turnG (lastH .e L) (L.take s.1)) (fun s => L.length - s.1) (0, []) ?_ ⟨Nat.zero_le _, by simp [turnG]⟩ ?_
  · refine weak_of [(0, some 0), (1, none)] rfl (by simp [upT, up, upL, push_cast]) (by simp [upH, upR, upL, up, push_cast]) (by simp [namesOk, push_cast]) (by simp [olds])
  · rintro ⟨i, T⟩ ⟨hi, hT⟩
    simp only at hi hT
    have hTl := hlast i hi
    rw [← hT] at hTl
    have h16 : (T.length + 1) * 16 ≤ 140737488355328 := by omega
    refine Nav.imp ?_
    refine awp_region cx [] fun K hK => ?_
    simp [push_cast]
    repeat (refine And.intro (by clear hK; intros; first | omega | (simp_all; done) | (simp_all <;> omega)) ?_)
    refine hK _ ?_; clear hK K; refine Nav.imp ?_
    refine awp_cond (b := decide ((i : Int) < L.length)) (by simp [push_cast]) (fun hb => ?_) (fun hb => ?_) <;> (refine Nav.imp ?_)
    · have hlt : i < L.length := by simpa using hb
      obtain ⟨b, hb2⟩ := getq hlt
      obtain ⟨a, ha, hah⟩ := prev_at hlt
      have hnx := turn_next hb2 (lastH .e L)
      rw [← hah, ← hT] at hnx
      have e0 := wrap_i64 (n := (i : Int) + 1) (by omega) (by omega)
      have e1 := wrap_i64 (n := (i : Int) + L.length) (by omega) (by omega)
      have e2 : IntKind.i64.wrap ((i : Int) + L.length - 1) = ((i + L.length - 1 : Nat) : Int) := (wrap_i64 (by omega) (by omega)).trans (by omega)
      have e3 : ((i + L.length - 1 : Nat) : Int).tmod (L.length : Int) = (((i + L.length - 1) % L.length : Nat) : Int) := (Int.ofNat_tmod _ _).symm
      have e4 : ¬ L = [] := by intro e; rw [e] at h0; simp at h0
      generalize (i + L.length - 1) % L.length = j at *
      have hdx := hd_eq (a := a.h) (b := b.h)
      have wa := wrap_i64 (n := a.h.dx) (by have := a.h.dx_le; omega) (by have := a.h.dx_le; omega)
      have wb := wrap_i64 (n := b.h.dx) (by have := b.h.dx_le; omega) (by have := b.h.dx_le; omega)
      have wc := wrap_i64 (n := a.h.dy) (by have := a.h.dy_le; omega) (by have := a.h.dy_le; omega)
      have wd := wrap_i64 (n := b.h.dy) (by have := b.h.dy_le; omega) (by have := b.h.dy_le; omega)
      have qa := q_dx a
      have qb := q_dx b
      have qc := q_dy a
      have qd := q_dy b
      refine awp_region cx [] fun K hK => ?_
      simp [push_cast, e1, e2, e3, e4, ha]
      repeat (refine And.intro (by clear hK; intros; first | omega | (simp_all; done) | (simp_all <;> omega)) ?_)
      refine hK _ ?_; clear hK K; refine Nav.imp ?_
      generalize a.h.dx = ax at *
      generalize b.h.dx = bx at *
      generalize a.h.dy = ay at *
      generalize b.h.dy = bY at *
      by_cases g1 : ax = bx
      · by_cases g2 : ay = bY
        · rw [if_pos (hdx.2 ⟨g1, g2⟩).symm] at hnx
          refine awp_region_draw cx mixed [] fun K hK => ?_
          simp [push_cast, hb2, qa, qb, qc, qd, wa, wb, wc, wd, g1, g2]
          repeat (refine And.intro (by clear hK; intros; first | omega | (simp_all; done) | (simp_all <;> omega)) ?_)
          refine hK _ _ (by kernel_rfl) ?_; clear hK K; refine Nav.imp ?_
          refine awp_cond (b := false) (by simp [push_cast, g1, g2]) (fun hb => ?_) (fun hb => ?_) <;> (refine Nav.imp ?_)
          · simp at hb
          · refine awp_region cx [] fun K hK => ?_
            simp [push_cast, e0]
            repeat (refine And.intro (by clear hK; intros; first | omega | (simp_all; done) | (simp_all <;> omega)) ?_)
            refine hK _ ?_; clear hK K; refine Nav.imp ?_
            refine ⟨(i + 1, T), ⟨hlt, hnx.symm⟩, by simp only; omega, ?_⟩
            refine weak_of [(0, some 0), (1, some 1)] rfl (by simp [upT, up, upL, push_cast]) (by simp [upH, upR, upL, up, push_cast]) (by simp [namesOk, push_cast]) (by simp [olds])
        · rw [if_neg (fun e => g2 (hdx.1 e.symm).2)] at hnx
          refine awp_region_draw cx mixed [] fun K hK => ?_
          simp [push_cast, hb2, qa, qb, qc, qd, wa, wb, wc, wd, g1, g2]
          repeat (refine And.intro (by clear hK; intros; first | omega | (simp_all; done) | (simp_all <;> omega)) ?_)
          refine hK _ _ (by kernel_rfl) ?_; clear hK K; refine Nav.imp ?_
          refine awp_cond (b := true) (by simp [push_cast, g1, g2]) (fun hb => ?_) (fun hb => ?_) <;> (refine Nav.imp ?_)
          · refine awp_region cx [] fun K hK => ?_
            simp [push_cast, hb2, h16]
            repeat (refine And.intro (by clear hK; intros; first | omega | (simp_all; done) | (simp_all <;> omega)) ?_)
            refine hK _ ?_; clear hK K; refine Nav.imp ?_
            refine awp_region cx [] fun K hK => ?_
            simp [push_cast, e0]
            repeat (refine And.intro (by clear hK; intros; first | omega | (simp_all; done) | (simp_all <;> omega)) ?_)
            refine hK _ ?_; clear hK K; refine Nav.imp ?_
            refine ⟨(i + 1, T ++ [b.p]), ⟨hlt, hnx.symm⟩, by simp only; omega, ?_⟩
            refine weak_of [(0, some 0), (1, some 67)] rfl (by simp [upT, up, upL, push_cast]) (by simp [upH, upR, upL, up, push_cast]) (by simp [namesOk, push_cast]) (by simp [olds])
          · simp at hb
      · rw [if_neg (fun e => g1 (hdx.1 e.symm).1)] at hnx
        refine awp_region_draw cx mixed [] fun K hK => ?_
        simp [push_cast, hb2, qa, qb, qc, qd, wa, wb, wc, wd, g1]
        repeat (refine And.intro (by clear hK; intros; first | omega | (simp_all; done) | (simp_all <;> omega)) ?_)
        refine hK _ _ (by kernel_rfl) ?_; clear hK K; refine Nav.imp ?_
        refine awp_cond (b := true) (by simp [push_cast, g1]) (fun hb => ?_) (fun hb => ?_) <;> (refine Nav.imp ?_)
        · refine awp_region cx [] fun K hK => ?_
          simp [push_cast, hb2, h16]
          repeat (refine And.intro (by clear hK; intros; first | omega | (simp_all; done) | (simp_all <;> omega)) ?_)
          refine hK _ ?_; clear hK K; refine Nav.imp ?_
          refine awp_region cx [] fun K hK => ?_
          simp [push_cast, e0]
          repeat (refine And.intro (by clear hK; intros; first | omega | (simp_all; done) | (simp_all <;> omega)) ?_)
          refine hK _ ?_; clear hK K; refine Nav.imp ?_
          refine ⟨(i + 1, T ++ [b.p]), ⟨hlt, hnx.symm⟩, by simp only; omega, ?_⟩
          refine weak_of [(0, some 0), (1, some 67)] rfl (by simp [upT, up, upL, push_cast]) (by simp [upH, upR, upL, up, push_cast]) (by simp [namesOk, push_cast]) (by simp [olds])
        · simp at hb
    · have hie : i = L.length := by simp at hb; omega
      subst hie
      rw [List.take_length] at hT
      rw [← hT] at hres
      clear hT
      refine awp_freeze 1 (T.map Cell.row) rfl (by simp [push_cast]) fun K hK => ?_
      simp [push_cast, St.fz, fzT, fzH, fzO, fz, fzL, fzR, fzR_dr, fzR_app, fzR_set, fzL_map]
      refine hK _ ?_; clear hK K; refine Nav.imp ?_
      refine awp_region cx [] fun K hK => ?_
      simp [push_cast]
      repeat (refine And.intro (by clear hK; intros; first | omega | (simp_all; done) | (simp_all <;> omega)) ?_)
      refine hK _ ?_; clear hK K; refine Nav.imp ?_
      refine awp_region cx [] fun K hK => ?_
      simp [push_cast]
      repeat (refine And.intro (by clear hK; intros; first | omega | (simp_all; done) | (simp_all <;> omega)) ?_)
      refine hK _ ?_; clear hK K; refine Nav.imp ?_
      refine awp_loop (β := Nat) (fun i => ⟨106, [(2, .ptr 0 0 0), (4, .d (encCells T)), (7, .d (.int .i64 (minK T i : Nat))), (8, .d (.int .i64 i))], [(0, some ⟨40, 1, [[.nl]]⟩)], 1⟩) (fun i => i ≤ T.length) (fun i => T.length - i) 0 ?_ (Nat.zero_le _) ?_
      · refine weak_of [(0, some 0)] rfl (by simp [upT, up, upL, push_cast, minK]) (by simp [upH, upR, upL, up, push_cast, minK]) (by simp [namesOk, push_cast]) (by simp [olds])
      · intro i hi
        refine Nav.imp ?_
        refine awp_region cx [] fun K hK => ?_
        simp [push_cast]
        repeat (refine And.intro (by clear hK; intros; first | omega | (simp_all; done) | (simp_all <;> omega)) ?_)
        refine hK _ ?_; clear hK K; refine Nav.imp ?_
        refine awp_cond (b := decide ((i : Int) < T.length)) (by simp [push_cast]) (fun hb => ?_) (fun hb => ?_) <;> (refine Nav.imp ?_)
        · have hlt : i < T.length := by simpa using hb
          have e0 := wrap_i64 (n := (i : Int) + 1) (by omega) (by omega)
          have hml : minK T i < T.length := by rcases minK_le T i with h | h <;> omega
          obtain ⟨p, hp⟩ := getq hlt
          obtain ⟨q, hq⟩ := getq hml
          obtain ⟨tp, htp⟩ := drop_cons_get hp
          obtain ⟨tq, htq⟩ := drop_cons_get hq
          have hms := minK_succ T i
          rw [htp, htq] at hms
          have c1 := lower22_ok p q
          have hlow : lowP (p :: tp) (q :: tq) = decide (lowC p q) := rfl
          rw [hlow] at hms
          generalize minK T i = m1 at *
          refine awp_region_draw cx mixed [(8, .p (.bool (decide (lowC p q))))] fun K hK => ?_
          simp [push_cast, hp, hq, c1]
          repeat (refine And.intro (by clear hK; intros; first | omega | (simp_all; done) | (simp_all <;> omega)) ?_)
          refine hK _ _ (by kernel_rfl) ?_; clear hK K; refine Nav.imp ?_
          refine awp_cond (b := decide (lowC p q)) (by simp [push_cast]) (fun hb => ?_) (fun hb => ?_) <;> (refine Nav.imp ?_)
          · rw [if_pos hb] at hms
            refine awp_region cx [] fun K hK => ?_
            simp [push_cast]
            repeat (refine And.intro (by clear hK; intros; first | omega | (simp_all; done) | (simp_all <;> omega)) ?_)
            refine hK _ ?_; clear hK K; refine Nav.imp ?_
            refine awp_region cx [] fun K hK => ?_
            simp [push_cast, e0]
            repeat (refine And.intro (by clear hK; intros; first | omega | (simp_all; done) | (simp_all <;> omega)) ?_)
            refine hK _ ?_; clear hK K; refine Nav.imp ?_
            refine ⟨i + 1, hlt, by omega, ?_⟩
            refine weak_of [(0, some 0)] rfl (by simp [upT, up, upL, push_cast, hms]) (by simp [upH, upR, upL, up, push_cast, hms]) (by simp [namesOk, push_cast]) (by simp [olds])
          · rw [hb] at hms
            simp only [Bool.false_eq_true, if_false] at hms
            refine awp_region cx [] fun K hK => ?_
            simp [push_cast, e0]
            repeat (refine And.intro (by clear hK; intros; first | omega | (simp_all; done) | (simp_all <;> omega)) ?_)
            refine hK _ ?_; clear hK K; refine Nav.imp ?_
            refine ⟨i + 1, hlt, by omega, ?_⟩
            refine weak_of [(0, some 0)] rfl (by simp [upT, up, upL, push_cast, hms]) (by simp [upH, upR, upL, up, push_cast, hms]) (by simp [namesOk, push_cast]) (by simp [olds])
        · have hie : i = T.length := by simp at hb; omega
          subst hie
          have hml : minK T T.length ≤ T.length := by rcases minK_le T T.length with h | h <;> omega
          generalize minK T T.length = m at *
          have hr1 : ∀ r, r ∈ List.drop m (T.map Cell.row) → r.length = 2 := fun r hr => by
            obtain ⟨q, _, rfl⟩ := List.mem_map.1 (List.mem_of_mem_drop hr); rfl
          have hr2 : ∀ r, r ∈ List.take m (T.map Cell.row) → r.length = 2 := fun r hr => by
            obtain ⟨q, _, rfl⟩ := List.mem_map.1 (List.mem_of_mem_take hr); rfl
          have hmin : min m T.length = m := Nat.min_eq_left hml
          have hm8 : (T.length - m) * 16 ≤ 140737488355328 := by omega
          have hm9 : (T.length - m + m) * 16 ≤ 140737488355328 := by omega
          refine awp_region cx [] fun K hK => ?_
          simp [push_cast, hr1, hm8]
          repeat (refine And.intro (by clear hK; intros; first | omega | (simp_all; done) | (simp_all <;> omega)) ?_)
          refine hK _ ?_; clear hK K; refine Nav.imp ?_
          refine awp_region cx [] fun K hK => ?_
          simp [push_cast, hr2, hmin, hm9]
          repeat (refine And.intro (by clear hK; intros; first | omega | (simp_all; done) | (simp_all <;> omega)) ?_)
          refine hK _ ?_; clear hK K; refine Nav.imp ?_
          have hrow : dr (List.take (T.length - m) (List.drop m (T.map Cell.row))) ++ dr (List.take m (T.map Cell.row)) = dr ((T.drop m ++ T.take m).map Cell.row) := by
            rw [List.take_of_length_le (by simp)]
            simp [dr, List.map_take, List.map_drop]
          have hlen : (T.drop m ++ T.take m).length = T.length - m + m := by simp; omega
          rw [hrow, ← hres]
          rw [← hres] at hlen
          rw [← hlen]
          clear hrow hres
          refine awp_freeze 15 (res.map Cell.row) rfl (by simp [push_cast]) fun K hK => ?_
          simp [push_cast, St.fz, fzT, fzH, fzO, fz, fzL, fzR, fzR_dr, fzR_app, fzR_set, fzL_map]
          refine hK _ ?_; clear hK K; refine Nav.imp ?_
          refine awp_region cx [] fun K hK => ?_
          simp [push_cast]
          repeat (refine And.intro (by clear hK; intros; first | omega | (simp_all; done) | (simp_all <;> omega)) ?_)
          refine hK _ ?_; clear hK K; refine Nav.imp ?_
          simp [push_cast]
end Go.Proofs.YtgicofpllopjmaaGreat

namespace Go.Proofs.YtgicofpllopjmaaGreat
open Go.Abs

structure TR (S : Cell → Bool) (l : List Crk) (i : Nat) (Fs : List (List Crk)) (dn : List Crk) : Prop where
  fam : Fam S Fs
  mem : ∀ c, c ∈ dn ↔ onF Fs c
  pre : ∀ j c, j < i → l[j]? = some c → onF Fs c
  len : Fs.length ≤ i
theorem polyR_eq {S : Cell → Bool} {C : List Crk} (hC : Cracks S C) {c : Crk} {n k : Nat} (hc : isC S c = true) (pc : Per (suc S) c n) (lc : ∀ d ∈ orb (suc S) n c, d ≠ c → lowC c.p d.p) (hk : k < n) : polyR (orb (suc S) n (itn (suc S) k c)) = polyOf (orb (suc S) n c) := by
  obtain ⟨X, Y, h1, h2, h3, h4⟩ := lp_rot hC hc pc lc hk
  have hl : lastH .e (orb (suc S) n (itn (suc S) k c)) = (itn (suc S) (k + (n - 1)) c).h := by
    rw [lastH_orb _ pc.pos, ← itn_add]
  unfold polyR
  simp only
  rw [hl, h1, h2, minK_at h3 h4 _ (by simp) (Nat.le_refl _), List.drop_left, List.take_left]
theorem TR.init (S : Cell → Bool) (l : List Crk) : TR S l 0 [] [] := ⟨⟨by simp, by simp⟩, by simp [onF], by omega, by simp⟩
theorem TR.skip {S : Cell → Bool} {l : List Crk} {i : Nat} {Fs : List (List Crk)} {dn : List Crk} (h : TR S l i Fs dn) {c : Crk} (hc : l[i]? = some c) (hd : c ∈ dn) : TR S l (i + 1) Fs dn := by
  refine ⟨h.fam, h.mem, fun j d hj hg => ?_, by have := h.len; omega⟩
  rcases Nat.lt_or_ge j i with hl | hl
  · exact h.pre j d hl hg
  · have : j = i := by omega
    subst this
    rw [hc] at hg; cases hg
    exact (h.mem c).1 hd
theorem TR.go {S : Cell → Bool} {l : List Crk} (hC : Cracks S l) {i : Nat} {Fs : List (List Crk)} {dn : List Crk} (h : TR S l i Fs dn) {c : Crk} (hc : l[i]? = some c) (hd : c ∉ dn) {n : Nat} (pn : Per (suc S) c n) :
    ∃ Ms, TR S l (i + 1) Ms (dn ++ orb (suc S) n c) ∧ insP (Fs.map polyOf) (polyR (orb (suc S) n c)) = Ms.map polyOf ∧ polyR (orb (suc S) n c) ≠ [] := by
  have hcC := (hC c).1 (List.mem_of_getElem? hc)
  obtain ⟨e, n', k, he, pe, hk, _, hce, pc', le⟩ := lp_ex hC hcC
  have hn := pn.eq pc'
  subst hn
  have hL : IsLp S (orb (suc S) n e) := ⟨e, n, he, pe, rfl, le⟩
  have hP := polyR_eq hC he pe le hk
  rw [← hce] at hP
  have hcm : c ∈ orb (suc S) n e := mem_orb.2 ⟨k, hk, hce⟩
  have hsame := pe.orb_mem hcm
  have hoff : ∀ x ∈ orb (suc S) n e, ¬ onF Fs x := fun x hx ⟨M, hM, hm⟩ => hd ((h.mem c).2 ⟨M, hM, by rw [← lp_uniq hL (h.fam.each M hM) hx hm hC]; exact hcm⟩)
  obtain ⟨Ms, m1, m2, m3⟩ := h.fam.ins hL hoff
  have hon : ∀ x, onF Ms x ↔ onF Fs x ∨ x ∈ orb (suc S) n c := fun x => by
    unfold onF
    constructor
    · rintro ⟨M, hM, hx⟩
      rcases (m3 M).1 hM with rfl | hM
      · exact .inr ((hsame x).2 hx)
      · exact .inl ⟨M, hM, hx⟩
    · rintro (⟨M, hM, hx⟩ | hx)
      · exact ⟨M, (m3 M).2 (.inr hM), hx⟩
      · exact ⟨_, (m3 _).2 (.inl rfl), (hsame x).1 hx⟩
  have hlen : Ms.length = Fs.length + 1 := by
    have := congrArg List.length m2
    simp only [insP, List.length_append, List.length_cons, List.length_map, List.length_take, List.length_drop] at this
    omega
  refine ⟨Ms, ⟨m1, fun x => ?_, fun j d hj hg => ?_, by have := h.len; omega⟩, by rw [hP]; exact m2, ?_⟩
  · rw [List.mem_append, h.mem, hon]
  · rw [hon]
    rcases Nat.lt_or_ge j i with hl | hl
    · exact .inl (h.pre j d hl hg)
    · have : j = i := by omega
      subst this
      rw [hc] at hg; cases hg
      exact .inr (orb_self pn.pos)
  · rw [hP]
    obtain ⟨_, _, _, _, _, Y, hY⟩ := lp_head hL
    rw [hY]; simp
theorem TR.done {S : Cell → Bool} {l : List Crk} (hC : Cracks S l) {Fs : List (List Crk)} {dn : List Crk} (h : TR S l l.length Fs dn) : Lps S Fs := by
  refine ⟨h.fam.each, fun c hc => ?_, h.fam.sorted⟩
  obtain ⟨j, hj⟩ := List.mem_iff_getElem?.1 ((hC c).2 hc)
  exact h.pre j c (List.getElem?_eq_some_iff.1 hj).1 hj
theorem TR.polys {S : Cell → Bool} {l : List Crk} {i : Nat} {Fs : List (List Crk)} {dn : List Crk} (h : TR S l i Fs dn) : ∀ q ∈ Fs.map polyOf, q ≠ [] := by
  intro q hq
  obtain ⟨L, hL, rfl⟩ := List.mem_map.1 hq
  obtain ⟨_, _, _, _, _, Y, hY⟩ := lp_head (h.fam.each L hL)
  rw [hY]; simp

def fl (l dn : List Crk) : List Bool := l.map fun c => decide (c ∈ dn)
abbrev bR (b : Bool) : List D := [.bool b]
theorem fl_set {l dn : List Crk} (hn : l.Nodup) {k : Nat} {c : Crk} (hk : l[k]? = some c) : (fl l dn).set k true = fl l (dn ++ [c]) := by
  refine List.ext_getElem? fun j => ?_
  rw [List.getElem?_set]
  unfold fl
  simp only [List.getElem?_map, List.length_map]
  have hkl := (List.getElem?_eq_some_iff.1 hk).1
  by_cases e : k = j
  · subst e
    rw [if_pos rfl, if_pos hkl, hk]; simp
  · rw [if_neg e]
    cases hj : l[j]? with
    | none => rfl
    | some d =>
      have hne : d ≠ c := fun h => by
        subst h
        exact e ((List.getElem?_inj hkl hn).1 (hk.trans hj.symm))
      simp [hne]
theorem fl_get {l dn : List Crk} {k : Nat} {c : Crk} (hk : l[k]? = some c) : (fl l dn)[k]? = some (decide (c ∈ dn)) := by simp [fl, hk]
theorem fl_len (l dn : List Crk) : (fl l dn).length = l.length := by simp [fl]
theorem fl_nil (l : List Crk) : fl l [] = List.replicate l.length false := by
  unfold fl
  rw [show (fun c : Crk => decide (c ∈ ([] : List Crk))) = fun _ => false from funext fun c => by simp, List.map_const']
theorem loop_flag {S : Cell → Bool} {l : List Crk} (hC : Cracks S l) {i : Nat} {Fs : List (List Crk)} {dn : List Crk} (h : TR S l i Fs dn) {c : Crk} (hc : isC S c = true) {n m : Nat} (pn : Per (suc S) c n) (hm : m ≤ n) (h0 : m = 0 ∨ c ∉ dn) :
    (itn (suc S) m c ∈ dn ++ orb (suc S) m c ↔ (c ∈ dn ∧ m = 0) ∨ (c ∉ dn ∧ m = n)) := by
  by_cases hd : c ∈ dn
  · have : m = 0 := h0.resolve_right (fun k => k hd)
    subst this
    simp [itn, orb, hd]
  · have off := h.fam.off hC hc (fun k => hd ((h.mem c).2 k)) m
    have hnd : itn (suc S) m c ∉ dn := fun k => off.1 ((h.mem _).1 k)
    simp only [List.mem_append, hnd, false_or, hd, false_and, not_false_eq_true, true_and]
    constructor
    · intro hmem
      obtain ⟨j, hj, e⟩ := mem_orb.1 hmem
      apply Classical.byContradiction
      intro hne
      have := itn_back hC.cl hC.inj ((hC c).2 hc) j (m - j) (by rw [show j + (m - j) = m by omega]; exact e)
      exact pn.least (m - j) (by omega) (by omega) this
    · intro e
      subst e
      rw [pn.ret]; exact orb_self pn.pos
end Go.Proofs.YtgicofpllopjmaaGreat

namespace Go.Proofs.YtgicofpllopjmaaGreat
open Go.Abs

def pathUps : List Cell → List Up
  | a :: b :: t => edge a b ++ pathUps (b :: t)
  | _ => []
def pathSum (ε : Cell → Cell → Int) : List Cell → Int
  | a :: b :: t => ε a b + pathSum ε (b :: t)
  | _ => 0
def pathAll (P : Cell → Cell → Prop) : List Cell → Prop
  | a :: b :: t => P a b ∧ pathAll P (b :: t)
  | _ => True
theorem pathAll_get {P : Cell → Cell → Prop} : ∀ {Q : List Cell}, pathAll P Q → ∀ k a b, Q[k]? = some a → Q[k + 1]? = some b → P a b
  | [], _, k, a, b, h, _ => by simp at h
  | [c], _, k, a, b, _, h => by simp at h
  | c :: d :: t, h, 0, a, b, ha, hb => by simp at ha hb; subst ha; subst hb; exact h.1
  | c :: d :: t, h, k + 1, a, b, ha, hb => pathAll_get h.2 k a b (by simpa using ha) (by simpa using hb)
theorem flatMap_cg {α β : Type} {f g : α → List β} : ∀ {l : List α}, (∀ a ∈ l, f a = g a) → l.flatMap f = l.flatMap g
  | [], _ => rfl
  | a :: l, h => by
    rw [List.flatMap_cons, List.flatMap_cons, h a (by simp), flatMap_cg fun b hb => h b (by simp [hb])]
theorem path_ups : ∀ (Q : List Cell), pathUps Q = (List.range (Q.length - 1)).flatMap fun k => match Q[k]?, Q[k + 1]? with | some a, some b => edge a b | _, _ => []
  | [] => rfl
  | [a] => rfl
  | a :: b :: t => by
    have ih := path_ups (b :: t)
    simp only [List.length_cons, Nat.add_sub_cancel] at ih ⊢
    rw [List.range_succ_eq_map, List.flatMap_cons, List.flatMap_map]
    simp only [pathUps]
    rw [ih]
    rfl
theorem cyc_get {P : List Cell} {p : Cell} {k : Nat} (hk : k < P.length + 1) : ((p :: P) ++ [p])[k]? = (p :: P)[k]? ∧ ((p :: P) ++ [p])[k + 1]? = (p :: P)[(k + 1) % (p :: P).length]? := by
  refine ⟨List.getElem?_append_left (by simpa using hk), ?_⟩
  by_cases h : k + 1 < (p :: P).length
  · rw [List.getElem?_append_left h, Nat.mod_eq_of_lt h]
  · have e : k + 1 = (p :: P).length := by simp at h ⊢; omega
    rw [e, Nat.mod_self, List.getElem?_append_right (Nat.le_refl _)]
    simp
theorem upsP_path (p : Cell) (P : List Cell) : upsP (p :: P) = pathUps ((p :: P) ++ [p]) := by
  rw [path_ups]
  unfold upsP
  have hl : ((p :: P) ++ [p]).length - 1 = (p :: P).length := by simp
  rw [hl]
  refine flatMap_cg fun k hk => ?_
  rw [List.mem_range] at hk
  obtain ⟨h1, h2⟩ := cyc_get (p := p) (P := P) (k := k) (by simpa using hk)
  unfold edgeAt
  rw [h1, h2]
  generalize (p :: P)[k]? = A
  generalize (p :: P)[(k + 1) % (p :: P).length]? = B
  cases A <;> cases B <;> rfl
theorem pathSum_ups (φ : List Up → Int) (h0 : φ [] = 0) (ha : ∀ A B, φ (A ++ B) = φ A + φ B) : ∀ Q, φ (pathUps Q) = pathSum (fun a b => φ (edge a b)) Q
  | [] => h0
  | [a] => h0
  | a :: b :: t => by
    simp only [pathUps, pathSum, ha]
    rw [pathSum_ups φ h0 ha (b :: t)]
theorem pathSum_tele (f : Cell → Int) : ∀ (a : Cell) (t : List Cell) (z : Cell), pathSum (fun a b => f b - f a) (a :: (t ++ [z])) = f z - f a
  | a, [], z => by simp [pathSum]
  | a, b :: t, z => by
    have := pathSum_tele f b t z
    simp only [List.cons_append, pathSum] at this ⊢
    omega
theorem tot_edge (a b : Cell) (y : Int) : tot (edge a b) y = (if y < b.y then 1 else 0) - (if y < a.y then 1 else 0) := by
  unfold edge
  split
  · rw [tot_one]
    simp only [act, Bool.and_eq_true, decide_eq_true_eq]
    split <;> split <;> split <;> omega
  · split
    · rw [tot_one]
      simp only [act, Bool.and_eq_true, decide_eq_true_eq]
      split <;> split <;> split <;> omega
    · have : a.y = b.y := by omega
      rw [this]; simp [tot]
theorem tot_ups (y : Int) : ∀ l : List (List Cell), tot (ups l) y = 0
  | [] => rfl
  | P :: l => by
    have ih := tot_ups y l
    have e : ups (P :: l) = upsP P ++ ups l := rfl
    rw [e, tot_app, ih]
    cases P with
    | nil => rfl
    | cons p P =>
      rw [upsP_path, pathSum_ups (fun U => tot U y) rfl fun A B => tot_app A B y]
      have h1 : (fun a b => tot (edge a b) y) = fun a b : Cell => (fun c : Cell => if y < c.y then (1 : Int) else 0) b - (fun c : Cell => if y < c.y then (1 : Int) else 0) a := by
        funext a b; exact tot_edge a b y
      rw [h1]
      have := pathSum_tele (fun c : Cell => if y < c.y then (1 : Int) else 0) p P p
      rw [List.cons_append, this]; omega

theorem up_sorted (l : List Up) : ∃ U : List Up, U.Perm l ∧ U.Pairwise fun p q => q.x ≤ p.x := by
  have := List.pairwise_mergeSort (le := fun p q : Up => decide (q.x ≤ p.x)) (fun a b c h1 h2 => by simp at *; omega) (fun a b => by simp; omega) l
  exact ⟨_, List.mergeSort_perm _ _, this.imp fun {a b} h => by simpa using h⟩
theorem back_spec (l : List (List Cell)) (hl : l.length ≤ 1000000) (hp : ∀ P ∈ l, P.length ≤ 1000000) (hs : (l.map List.length).sum ≤ 1000000) :
    ∃ B, PC Tryz.prog 16 [encPs l] (.p (.tup [.agg (regRow (if badL l then [] else B)), .int .i64 (if badL l then 1 else 0)])) ∧ (badL l = false → validR B = true ∧ ∀ c, c ∈ regCells B ↔ 0 < wS (ups l) c.x c.y) := by
  obtain ⟨U0, p0, s0⟩ := up_sorted (ups l)
  have facts : badL l = false → ∀ U : List Up, U.Perm (ups l) → (U.Pairwise fun p q => q.x ≤ p.x) → validR (backRows U) = true ∧ ∀ c, c ∈ regCells (backRows U) ↔ 0 < wS (ups l) c.x c.y := fun hb U hU hd => by
    have := back_facts hd (fun u hu => ups_fine hb u (hU.mem_iff.1 hu)) fun y => by rw [tot_perm hU]; exact tot_ups y l
    exact ⟨this.1, fun c => by rw [this.2, wS_perm hU]⟩
  refine ⟨backRows U0, back_ok l hl hp hs _ fun hb U hU hd => ?_, fun hb => facts hb U0 p0 s0⟩
  obtain ⟨v1, c1⟩ := facts hb U hU hd
  obtain ⟨v2, c2⟩ := facts hb U0 p0 s0
  exact region_uniq v1 v2 fun c => by rw [c1, c2]
end Go.Proofs.YtgicofpllopjmaaGreat

namespace Go.Proofs.YtgicofpllopjmaaGreat
open Go.Abs

def mv (a : Cell) : Hd → Int → Cell
  | .e, k => ⟨a.x + k, a.y⟩
  | .n, k => ⟨a.x, a.y + k⟩
  | .w, k => ⟨a.x - k, a.y⟩
  | .s, k => ⟨a.x, a.y - k⟩
theorem stp_mv (a : Cell) (h : Hd) (k : Int) : stp h (mv a h k) = mv a h (k + 1) := by
  cases h <;> simp [stp, mv] <;> omega
theorem stp_one (a : Cell) (h : Hd) : stp h a = mv a h 1 := by cases h <;> rfl
def Chn : Cell → List Crk → Cell → Prop
  | p, [], z => p = z
  | p, d :: t, z => d.p = p ∧ Chn d.q t z
theorem orb_chn (S : Cell → Bool) : ∀ (n : Nat) (c : Crk), Chn c.p (orb (suc S) n c) (itn (suc S) n c).p
  | 0, c => rfl
  | n + 1, c => ⟨rfl, orb_chn S n (suc S c)⟩
def Adds (ε : Cell → Cell → Int) : Prop := ∀ a h (k : Int), 1 ≤ k → ε a (mv a h (k + 1)) = ε a (mv a h k) + ε (mv a h k) (mv a h (k + 1))
theorem path_turn {ε : Cell → Cell → Int} (hadd : Adds ε) : ∀ (t : List Crk) (a : Cell) (h : Hd) (k : Int) (z : Cell), 1 ≤ k → Chn (mv a h k) t z → pathSum ε (a :: (turnG h t ++ [z])) = ε a (mv a h k) + (t.map fun c => ε c.p c.q).sum
  | [], a, h, k, z, hk, hc => by
    simp only [Chn] at hc
    subst hc
    simp [turnG, pathSum]
  | d :: t, a, h, k, z, hk, hc => by
    obtain ⟨hp, hc⟩ := hc
    by_cases e : d.h = h
    · have hq : d.q = mv a h (k + 1) := by rw [← stp_mv, ← hp, ← e]; rfl
      rw [hq] at hc
      have ih := path_turn hadd t a h (k + 1) z (by omega) hc
      simp only [turnG, if_pos e, List.map_cons, List.sum_cons]
      rw [e, ih, hp, hq, hadd a h k hk]
      omega
    · have hq : d.q = mv (mv a h k) d.h 1 := by rw [← hp, ← stp_one]; rfl
      rw [hq] at hc
      have ih := path_turn hadd t (mv a h k) d.h 1 z (by omega) hc
      simp only [turnG, if_neg e, List.cons_append, pathSum, List.map_cons, List.sum_cons]
      rw [hp, ih, hq]
      try omega
theorem path_straight : ∀ (t : List Crk) (a : Cell) (h : Hd) (k : Int) (z : Cell), 1 ≤ k → Chn (mv a h k) t z → pathAll (fun a b => ∃ h k, 1 ≤ k ∧ b = mv a h k) (a :: (turnG h t ++ [z]))
  | [], a, h, k, z, hk, hc => by
    simp only [Chn] at hc
    subst hc
    simp only [turnG, List.nil_append, pathAll, and_true]
    exact ⟨h, k, hk, rfl⟩
  | d :: t, a, h, k, z, hk, hc => by
    obtain ⟨hp, hc⟩ := hc
    by_cases e : d.h = h
    · have hq : d.q = mv a h (k + 1) := by rw [← stp_mv, ← hp, ← e]; rfl
      rw [hq] at hc
      have ih := path_straight t a h (k + 1) z (by omega) hc
      simp only [turnG, if_pos e]
      rw [e]; exact ih
    · have hq : d.q = mv (mv a h k) d.h 1 := by rw [← hp, ← stp_one]; rfl
      rw [hq] at hc
      have ih := path_straight t (mv a h k) d.h 1 z (by omega) hc
      simp only [turnG, if_neg e, List.cons_append, pathAll]
      rw [hp]
      exact ⟨⟨h, k, hk, rfl⟩, ih⟩
theorem loop_path {S : Cell → Bool} {L : List Crk} (hL : IsLp S L) : ∃ p P, polyOf L = p :: P ∧ pathAll (fun a b => ∃ h k, 1 ≤ k ∧ b = mv a h k) ((p :: P) ++ [p]) ∧ ∀ ε, Adds ε → pathSum ε ((p :: P) ++ [p]) = (L.map fun c => ε c.p c.q).sum := by
  obtain ⟨c, n, hc, pc, rfl, lc⟩ := hL
  obtain ⟨m, rfl⟩ : ∃ m, n = m + 1 := ⟨n - 1, by have := pc.pos; omega⟩
  have hch := orb_chn S m (suc S c)
  have hret : itn (suc S) m (suc S c) = c := pc.ret
  rw [hret] at hch
  have hq : (suc S c).p = mv c.p c.h 1 := by rw [← stp_one]; rfl
  rw [hq] at hch
  refine ⟨c.p, turnG c.h (orb (suc S) m (suc S c)), rfl, path_straight _ _ _ 1 _ (by omega) hch, fun ε hadd => ?_⟩
  have := path_turn hadd _ _ _ 1 _ (by omega) hch
  rw [List.cons_append, this]
  simp only [orb, List.map_cons, List.sum_cons]
  rw [show c.q = mv c.p c.h 1 by rw [← stp_one]; rfl]
theorem lps_perm {S : Cell → Bool} {C : List Crk} (hC : Cracks S C) (hn : C.Nodup) {Ls : List (List Crk)} (h : Lps S Ls) : Ls.flatten.Perm C := by
  refine (List.perm_ext_iff_of_nodup ?_ hn).2 fun c => ?_
  · unfold List.Nodup
    rw [List.pairwise_flatten]
    refine ⟨fun L hL => ?_, List.Pairwise.imp_of_mem (fun {L M} hL hM hlt => ?_) h.sorted⟩
    · obtain ⟨c, n, hc, pc, rfl, _⟩ := h.each L hL
      exact orb_nodup hC.cl hC.inj ((hC c).2 hc) pc.least
    · intro x hx y hy e
      subst e
      have := lp_uniq (h.each L hL) (h.each M hM) hx hy hC
      subst this
      obtain ⟨c, d, h1, h2, h3⟩ := hlt
      rw [h1] at h2; cases h2
      exact lowC_irr _ h3
  · rw [List.mem_flatten, hC]
    constructor
    · rintro ⟨L, hL, hc⟩
      obtain ⟨d, n, hd, pd, rfl, _⟩ := h.each L hL
      exact orb_isC hd hc
    · exact h.cover c
theorem ups_sum (φ : List Up → Int) (h0 : φ [] = 0) (ha : ∀ A B, φ (A ++ B) = φ A + φ B) (hadd : Adds fun a b => φ (edge a b)) {S : Cell → Bool} : ∀ (Ls : List (List Crk)), (∀ L ∈ Ls, IsLp S L) → φ (ups (Ls.map polyOf)) = (Ls.flatten.map fun c => φ (edge c.p c.q)).sum
  | [], _ => by simpa [ups] using h0
  | L :: Ls, h => by
    have ih := ups_sum φ h0 ha hadd Ls fun M hM => h M (by simp [hM])
    have e : ups ((L :: Ls).map polyOf) = upsP (polyOf L) ++ ups (Ls.map polyOf) := rfl
    obtain ⟨p, P, hP, _, hs⟩ := loop_path (h L (by simp))
    rw [e, ha, ih, hP, upsP_path, pathSum_ups φ h0 ha, hs _ hadd]
    simp

theorem wS_edge (a b : Cell) (x y : Int) : wS (edge a b) x y = if x < a.x then tot (edge a b) y else 0 := by
  by_cases hx : x < a.x
  · rw [if_pos hx]
    refine wS_tot fun u hu _ => ?_
    unfold edge at hu
    split at hu
    · have := List.mem_singleton.1 hu; rw [this]; exact hx
    · split at hu
      · have := List.mem_singleton.1 hu; rw [this]; exact hx
      · cases hu
  · rw [if_neg hx]
    unfold wS
    rw [List.filter_eq_nil_iff.2 fun u hu => ?_]
    · rfl
    · have : u.x = a.x := by
        unfold edge at hu
        split at hu
        · have := List.mem_singleton.1 hu; rw [this]
        · split at hu
          · have := List.mem_singleton.1 hu; rw [this]
          · cases hu
      simp [this, hx]
theorem wS_adds (x y : Int) : Adds fun a b => wS (edge a b) x y := by
  intro a h k hk
  simp only [wS_edge, tot_edge]
  cases h <;> simp only [mv] <;> (repeat' split) <;> omega
def kap (x y : Int) (c : Crk) : Int := wS (edge c.p c.q) x y
theorem kap_eq (x y : Int) (c : Crk) : kap x y c = match c.h with
    | .n => if c.p.y = y ∧ x < c.p.x then 1 else 0
    | .s => if c.p.y = y + 1 ∧ x < c.p.x then -1 else 0
    | _ => 0 := by
  obtain ⟨⟨u, v⟩, h⟩ := c
  simp only [kap, wS_edge, tot_edge]
  cases h <;> simp only [Crk.q, stp] <;> (repeat' split) <;> omega
theorem sum_zero {α : Type} {f : α → Int} : ∀ {l : List α}, (∀ a ∈ l, f a = 0) → (l.map f).sum = 0
  | [], _ => rfl
  | a :: l, h => by
    rw [List.map_cons, List.sum_cons, h a (by simp), sum_zero fun b hb => h b (by simp [hb])]; rfl
theorem sum_flat {α β : Type} (f : α → List β) (g : β → Int) : ∀ l : List α, ((l.flatMap f).map g).sum = (l.map fun a => ((f a).map g).sum).sum
  | [] => rfl
  | a :: l => by
    rw [List.flatMap_cons, List.map_append, List.sum_append, sum_flat f g l]; rfl
theorem inR_sum (x : Int) : ∀ {l : List Run}, Apart l → (l.map fun r => (if x < r.b then (1 : Int) else 0) - (if x < r.a then 1 else 0)).sum = if inR l x = true then 1 else 0
  | [], _ => by simp [inR]
  | r :: l, h => by
    have h2 : Apart l := ⟨fun p hp => h.1 p (by simp [hp]), (List.pairwise_cons.1 h.2).2⟩
    have ih := inR_sum x h2
    have hr := h.1 r (by simp)
    rw [List.map_cons, List.sum_cons, ih]
    by_cases h1 : r.a ≤ x ∧ x < r.b
    · have hno : ¬ inR l x = true := fun hin => by
        obtain ⟨p, hp, h3, h4⟩ := inR_iff.1 hin
        have := (List.pairwise_cons.1 h.2).1 p hp
        omega
      have hyes : inR (r :: l) x = true := inR_iff.2 ⟨r, by simp, h1⟩
      rw [if_neg hno, if_pos hyes, if_pos h1.2, if_neg (by omega)]; rfl
    · have hsame : inR (r :: l) x = inR l x := by
        rw [Bool.eq_iff_iff, inR_iff, inR_iff]
        constructor
        · rintro ⟨p, hp, h3⟩
          rcases List.mem_cons.1 hp with rfl | hp
          · exact absurd h3 h1
          · exact ⟨p, hp, h3⟩
        · rintro ⟨p, hp, h3⟩; exact ⟨p, by simp [hp], h3⟩
      rw [hsame]
      (repeat' split) <;> omega
theorem rowCr_sum {R : List Row} (hv : validR R = true) {w : Row} (hw : w ∈ R) (x y : Int) : ((rowCr R w).map (kap x y)).sum = if w.y = y then (if inR w.runs x = true then 1 else 0) else 0 := by
  unfold rowCr
  have hwr := rowOf_mem hv hw
  rw [← hwr]
  obtain ⟨a1, _⟩ := sub_facts hv w.y (w.y - 1)
  obtain ⟨b1, _⟩ := sub_facts hv w.y (w.y + 1)
  have ap := rowOf_ap hv w.y
  rw [List.map_append, List.map_append, List.sum_append, List.sum_append, sum_zero (l := (sweep fD (rowOf R w.y) (rowOf R (w.y - 1))).flatMap (eRun w.y)) fun c hc => by
    obtain ⟨r, hr, hm⟩ := List.mem_flatMap.1 hc
    rw [kap_eq, ((mem_eRun (a1.1 r hr)).1 hm).1], sum_zero (l := (sweep fD (rowOf R w.y) (rowOf R (w.y + 1))).flatMap (wRun w.y)) fun c hc => by
    obtain ⟨r, hr, hm⟩ := List.mem_flatMap.1 hc
    rw [kap_eq, ((mem_wRun (b1.1 r hr)).1 hm).1], sum_flat]
  by_cases e : w.y = y
  · subst e
    rw [if_pos rfl, ← inR_sum x ap]
    have : (fun r => ((vRun w.y r).map (kap x w.y)).sum) = fun r : Run => (if x < r.b then (1 : Int) else 0) - (if x < r.a then 1 else 0) := by
      funext r
      simp only [vRun, List.map_cons, List.map_nil, List.sum_cons, List.sum_nil, kap_eq]
      (repeat' split) <;> simp_all <;> omega
    rw [this]; omega
  · rw [if_neg e, sum_zero]
    · rfl
    · intro r _
      simp only [vRun, List.map_cons, List.map_nil, List.sum_cons, List.sum_nil, kap_eq]
      rw [if_neg (by omega), if_neg (by omega)]; rfl
theorem collect_sum {R : List Row} (hv : validR R = true) (c : Cell) : ((collectL R).map (kap c.x c.y)).sum = if Sof R c = true then 1 else 0 := by
  unfold collectL
  rw [sum_flat]
  have key : ∀ T : List Row, (∀ w ∈ T, w ∈ R) → (T.Pairwise fun a b => a.y < b.y) → (T.map fun w => ((rowCr R w).map (kap c.x c.y)).sum).sum = if (∃ w ∈ T, w.y = c.y ∧ inR w.runs c.x = true) then 1 else 0 := by
    intro T
    induction T with
    | nil => intro _ _; simp
    | cons w T ih =>
      intro hT hp
      obtain ⟨p1, p2⟩ := List.pairwise_cons.1 hp
      rw [List.map_cons, List.sum_cons, ih (fun v hv => hT v (by simp [hv])) p2, rowCr_sum hv (hT w (by simp))]
      by_cases e : w.y = c.y
      · have hno : ¬ ∃ v ∈ T, v.y = c.y ∧ inR v.runs c.x = true := fun ⟨v, hv', h1, _⟩ => by have := p1 v hv'; omega
        rw [if_pos e, if_neg hno]
        by_cases hin : inR w.runs c.x = true
        · rw [if_pos hin, if_pos ⟨w, by simp, e, hin⟩]; rfl
        · rw [if_neg hin, if_neg]
          · rfl
          · rintro ⟨v, hv', h1, h2⟩
            rcases List.mem_cons.1 hv' with rfl | hv'
            · exact hin h2
            · exact hno ⟨v, hv', h1, h2⟩
      · rw [if_neg e, Int.zero_add]
        have : (∃ v ∈ w :: T, v.y = c.y ∧ inR v.runs c.x = true) ↔ ∃ v ∈ T, v.y = c.y ∧ inR v.runs c.x = true := by
          constructor
          · rintro ⟨v, hv', h1, h2⟩
            rcases List.mem_cons.1 hv' with rfl | hv'
            · exact absurd h1 e
            · exact ⟨v, hv', h1, h2⟩
          · rintro ⟨v, hv', h1, h2⟩; exact ⟨v, by simp [hv'], h1, h2⟩
        simp only [this]
  rw [key R (fun w hw => hw) (rows_pw hv)]
  have : (∃ w ∈ R, w.y = c.y ∧ inR w.runs c.x = true) ↔ Sof R c = true := by
    unfold Sof
    constructor
    · rintro ⟨w, hw, h1, h2⟩; rw [← h1, rowOf_mem hv hw]; exact h2
    · intro h
      rcases rowOf_cases hv c.y with ⟨w, hw, h1, h2⟩ | ⟨_, h2⟩
      · exact ⟨w, hw, h1, by rw [← h2]; exact h⟩
      · rw [h2] at h; simp [inR] at h
  simp only [this]
theorem trace_wS {R : List Row} (hv : validR R = true) {Ls : List (List Crk)} (h : Lps (Sof R) Ls) (c : Cell) : wS (ups (Ls.map polyOf)) c.x c.y = if Sof R c = true then 1 else 0 := by
  rw [ups_sum (fun U => wS U c.x c.y) rfl (fun A B => wS_app A B _ _) (wS_adds _ _) Ls h.each, ← collect_sum hv c]
  exact perm_sum ((lps_perm (collect_cracks hv) (collect_nodup hv) h).map _)
end Go.Proofs.YtgicofpllopjmaaGreat
