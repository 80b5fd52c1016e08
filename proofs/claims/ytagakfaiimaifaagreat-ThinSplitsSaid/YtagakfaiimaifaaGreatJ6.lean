/-
  Texts of this seat put together: E3, E4, M1, E5, M2, N0, M3, N1.
-/
import Derived.Test.YtagakfaiimaifaaGreatJ5
import Derived.Test.YtagakfaiimaifaaGreatJ4
set_option linter.unusedVariables false
set_option linter.unusedSimpArgs false
set_option maxRecDepth 100000
namespace Go.Abs
theorem find_dent (t : Nat) : ∀ l : List (Nat × AV), find (l.map fun p => (p.1, den p.2)) t = (find l t).map den
  | [] => rfl
  | (k, v) :: r => by
    simp only [List.map_cons, find, find_dent t r]
    split <;> rfl
/-- What is nil is an empty slice, in temporaries. -/
theorem weak_dent (s : St) : Weak s { s with tm := s.tm.map fun p => (p.1, den p.2) } := fun g a w hr => by
  refine ⟨g, ⟨hr.defers, hr.size, fun t => ?_, hr.used, hr.heap⟩, Step.refl g w⟩
  simp only [St.get, find_dent]
  have h := hr.tmp t
  simp only [St.get] at h
  cases hf : find s.tm t with
  | none => simp [RepA]
  | some v => rw [hf] at h; exact den_rep h
end Go.Abs
namespace Go.Proofs.YtagakfaiimaifaaGreat
open Go.Abs

set_option maxHeartbeats 4000000 in
theorem bounds6_ok (l : List Run) (hl : l.length ≤ 100000) : PC Tryz.prog 195 [encRuns l] (.p (encI (bnd6 l))) := by
  have hnx := fun k r (h : l[k]? = some r) => bnd6_next h
  have hall : bnd6 (l.take l.length) = bnd6 l := by rw [List.take_length]
  have hlen : ∀ k, (bnd6 (l.take k)).length ≤ 200000 := fun k => by
    have := (bnd6_facts (l.take k)).2.2
    rw [List.length_take] at this
    omega
  generalize bnd6 l = W at *
  refine pc_of_awp cx (fn := Tryz.f195) (c := _) Tryz.func195 rfl rfl (Nat.le_of_ble_eq_true rfl) ?_
  rw [Tryz.ntmps195]; refine Nav.imp ?_
  refine awp_region cx [] fun K hK => ?_
  simp [push_cast]
  repeat (refine And.intro (by clear hK; intros; first | omega | (simp_all; done) | (simp_all <;> omega)) ?_)
  refine hK _ ?_; clear hK K; refine Nav.imp ?_
  refine awp_region cx [] fun K hK => ?_
  simp [push_cast]
  repeat (refine And.intro (by clear hK; intros; first | omega | (simp_all; done) | (simp_all <;> omega)) ?_)
  refine hK _ ?_; clear hK K; refine Nav.imp ?_
  refine awp_region cx [] fun K hK => ?_
  simp [push_cast]
  repeat (refine And.intro (by clear hK; intros; first | omega | (simp_all; done) | (simp_all <;> omega)) ?_)
  refine hK _ ?_; clear hK K; refine Nav.imp ?_
  refine awp_weak (weak_dent _) ?_
  simp only [List.map_cons, List.map_nil, den]
  refine awp_loop (β := Nat × List Int) (fun s => ⟨37, [(0, .d (encRuns l)), (3, .d (encI s.2)), (4, .d (.int .i64 s.1))], [], 0⟩) (fun s => s.1 ≤ l.length ∧ s.2 = bnd6 (l.take s.1)) (fun s => l.length - s.1) (0, []) ?_ ⟨Nat.zero_le _, rfl⟩ ?_
  · refine weak_of [] rfl (by simp [upT, up, upL, push_cast]) (by simp [upH, upR, upL, up, push_cast]) (by simp [namesOk, push_cast]) (by simp [olds])
  · rintro ⟨k, X⟩ ⟨hk, hX⟩
    simp only at hk hX
    have hXl := hlen k
    rw [← hX] at hXl
    refine Nav.imp ?_
    refine awp_region cx [] fun K hK => ?_
    simp [push_cast]
    repeat (refine And.intro (by clear hK; intros; first | omega | (simp_all; done) | (simp_all <;> omega)) ?_)
    refine hK _ ?_; clear hK K; refine Nav.imp ?_
    refine awp_cond (b := decide ((k : Int) < l.length)) (by simp [push_cast]) (fun hb => ?_) (fun hb => ?_) <;> (refine Nav.imp ?_)
    · have hlt : k < l.length := by simpa using hb
      obtain ⟨r, hr⟩ := getq hlt
      have e0 := wrap_i64 (n := (k : Int) + 1) (by omega) (by omega)
      have q := hnx k r hr
      rw [← hX] at q
      unfold bndS at q
      have c1 := insert6_ok X r.a (by omega)
      have c2 := insert6_ok (insU X r.a) r.b (by have := insU_len X r.a; omega)
      obtain ⟨a, b⟩ := r
      simp only at q c1 c2
      by_cases hab : a < b
      · rw [if_pos hab] at q
        generalize insU (insU X a) b = Z at *
        generalize insU X a = Y at *
        refine awp_region_draw cx mixed [] fun K hK => ?_
        simp [push_cast, hr, hab, Run.row]
        repeat (refine And.intro (by clear hK; intros; first | omega | (simp_all; done) | (simp_all <;> omega)) ?_)
        refine hK _ _ (by kernel_rfl) ?_; clear hK K; refine Nav.imp ?_
        refine awp_cond (b := true) (by simp [push_cast, hab]) (fun hb => ?_) (fun hb => ?_) <;> (refine Nav.imp ?_)
        · refine awp_region cx [(6, .p (encI Y))] fun K hK => ?_
          simp [push_cast, c1, hr, Run.row]
          repeat (refine And.intro (by clear hK; intros; first | omega | (simp_all; done) | (simp_all <;> omega)) ?_)
          refine hK _ ?_; clear hK K; refine Nav.imp ?_
          refine awp_region cx [(6, .p (encI Z))] fun K hK => ?_
          simp [push_cast, c2, hr, Run.row]
          repeat (refine And.intro (by clear hK; intros; first | omega | (simp_all; done) | (simp_all <;> omega)) ?_)
          refine hK _ ?_; clear hK K; refine Nav.imp ?_
          refine awp_region cx [] fun K hK => ?_
          simp [push_cast, e0]
          repeat (refine And.intro (by clear hK; intros; first | omega | (simp_all; done) | (simp_all <;> omega)) ?_)
          refine hK _ ?_; clear hK K; refine Nav.imp ?_
          refine ⟨(k + 1, Z), ⟨hlt, q.symm⟩, by simp only; omega, ?_⟩
          refine weak_of [] rfl (by simp [upT, up, upL, push_cast]) (by simp [upH, upR, upL, up, push_cast]) (by simp [namesOk, push_cast]) (by simp [olds])
        · simp at hb
      · rw [if_neg hab] at q
        refine awp_region_draw cx mixed [] fun K hK => ?_
        simp [push_cast, hr, hab, Run.row]
        repeat (refine And.intro (by clear hK; intros; first | omega | (simp_all; done) | (simp_all <;> omega)) ?_)
        refine hK _ _ (by kernel_rfl) ?_; clear hK K; refine Nav.imp ?_
        refine awp_cond (b := false) (by simp [push_cast, hab]) (fun hb => ?_) (fun hb => ?_) <;> (refine Nav.imp ?_)
        · simp at hb
        · refine awp_region cx [] fun K hK => ?_
          simp [push_cast, e0]
          repeat (refine And.intro (by clear hK; intros; first | omega | (simp_all; done) | (simp_all <;> omega)) ?_)
          refine hK _ ?_; clear hK K; refine Nav.imp ?_
          refine ⟨(k + 1, X), ⟨hlt, q.symm⟩, by simp only; omega, ?_⟩
          refine weak_of [] rfl (by simp [upT, up, upL, push_cast]) (by simp [upH, upR, upL, up, push_cast]) (by simp [namesOk, push_cast]) (by simp [olds])
    · have hke : k = l.length := by simp at hb; omega
      subst hke
      rw [hall] at hX
      subst hX
      refine awp_region cx [] fun K hK => ?_
      simp [push_cast]
      repeat (refine And.intro (by clear hK; intros; first | omega | (simp_all; done) | (simp_all <;> omega)) ?_)
      refine hK _ ?_; clear hK K; refine Nav.imp ?_
      simp [push_cast]

set_option maxHeartbeats 4000000 in
theorem put6_px (l : List Run) (a b : Int) (hl : l.length ≤ 1000000) : PX Tryz.prog 197 [.hs 0 0 l.length, .d (.int .i64 a), .d (.int .i64 b)] [(0, ⟨54, 2, dr (l.map Run.row)⟩)] [] [(1, ⟨54, 2, dr ((putU l a b).map Run.row)⟩)] (.hs 1 0 (putU l a b).length) := by
  rcases List.eq_nil_or_concat l with rfl | ⟨Q, q, hQ⟩
  · have hp : putU [] a b = [⟨a, b⟩] := rfl
    rw [hp]
    refine px_of_awp cx (fn := Tryz.f197) (c := _) 1 Tryz.func197 rfl rfl (Nat.le_of_ble_eq_true rfl) rfl rfl fun Ls => ?_
    rw [Tryz.ntmps197]; refine Nav.imp ?_
    refine awp_region cx [] fun K hK => ?_
    simp [push_cast]
    repeat (refine And.intro (by clear hK; intros; first | omega | (simp_all; done) | (simp_all <;> omega)) ?_)
    refine hK _ ?_; clear hK K; refine Nav.imp ?_
    refine awp_region cx [] fun K hK => ?_
    simp [push_cast]
    repeat (refine And.intro (by clear hK; intros; first | omega | (simp_all; done) | (simp_all <;> omega)) ?_)
    refine hK _ ?_; clear hK K; refine Nav.imp ?_
    refine awp_cond (b := false) (by simp [push_cast]) (fun hb => ?_) (fun hb => ?_) <;> (refine Nav.imp ?_)
    · simp at hb
    · refine awp_region cx [] fun K hK => ?_
      simp [push_cast]
      repeat (refine And.intro (by clear hK; intros; first | omega | (simp_all; done) | (simp_all <;> omega)) ?_)
      refine hK _ ?_; clear hK K; refine Nav.imp ?_
      refine awp_region cx [] fun K hK => ?_
      simp [push_cast]
      repeat (refine And.intro (by clear hK; intros; first | omega | (simp_all; done) | (simp_all <;> omega)) ?_)
      refine hK _ ?_; clear hK K; refine Nav.imp ?_
      first | refine rx_r [(1, 21)] ?_ | refine rx_n [(1, 21)] ?_
      simp [push_cast, Run.row]
      try decide
  · rw [List.concat_eq_append] at hQ
    have hlast : l[l.length - 1]? = some q := by rw [hQ]; simp
    have hdl : l.dropLast = Q := by rw [hQ]; simp
    have hp : putU l a b = if q.b = a then Q ++ [⟨q.a, b⟩] else l ++ [⟨a, b⟩] := by
      unfold putU
      rw [hlast, ← hdl]
    have hlen : l.length = Q.length + 1 := by rw [hQ]; simp
    have htk : List.take Q.length (l.map Run.row) = Q.map Run.row := by rw [hQ]; simp
    have e3 := wrap_i64 (n := (l.length : Int) - 1) (by omega) (by omega)
    have e4 : ((l.length : Int) - 1).toNat = Q.length := by omega
    have e5 : (0 : Int) ≤ (l.length : Int) - 1 := by omega
    have e6 : (l.length : Int) - 1 < (l.length : Int) := by omega
    have e7 : (0 : Int) < (l.length : Int) := by omega
    have e8 : 0 < l.length := by omega
    have hlq : l[Q.length]? = some q := by rw [← hlast]; congr 1; omega
    have h16 : (Q.length + 1) * 16 ≤ 140737488355328 := by omega
    have h16b : (l.length + 1) * 16 ≤ 140737488355328 := by omega
    clear hQ hdl hlast
    obtain ⟨qa, qb⟩ := q
    simp only at hp
    refine px_of_awp cx (fn := Tryz.f197) (c := _) 1 Tryz.func197 rfl rfl (Nat.le_of_ble_eq_true rfl) rfl rfl fun Ls => ?_
    rw [Tryz.ntmps197]; refine Nav.imp ?_
    refine awp_region cx [] fun K hK => ?_
    simp [push_cast]
    repeat (refine And.intro (by clear hK; intros; first | omega | (simp_all; done) | (simp_all <;> omega)) ?_)
    refine hK _ ?_; clear hK K; refine Nav.imp ?_
    by_cases hab : qb = a
    · rw [if_pos hab] at hp
      rw [hp]
      refine awp_region cx [] fun K hK => ?_
      simp [push_cast, hlq, e3, e4, e5, e7, hab, Run.row]
      repeat (refine And.intro (by clear hK; intros; first | omega | (simp_all; done) | (simp_all <;> omega)) ?_)
      refine hK _ ?_; clear hK K; refine Nav.imp ?_
      refine awp_cond (b := true) (by simp [push_cast, e8]) (fun hb => ?_) (fun hb => ?_) <;> (refine Nav.imp ?_)
      · refine awp_region cx [] fun K hK => ?_
        simp [push_cast, e3, e4, htk]
        repeat (refine And.intro (by clear hK; intros; first | omega | (simp_all; done) | (simp_all <;> omega)) ?_)
        refine hK _ ?_; clear hK K; refine Nav.imp ?_
        have htq : List.take Q.length (Q.map Run.row) = Q.map Run.row := List.take_of_length_le (by simp)
        refine awp_region cx [] fun K hK => ?_
        simp [push_cast, e3, e4, e5, e6, hlq, h16, htq, Run.row]
        repeat (refine And.intro (by clear hK; intros; first | omega | (simp_all; done) | (simp_all <;> omega)) ?_)
        refine hK _ ?_; clear hK K; refine Nav.imp ?_
        refine awp_region cx [] fun K hK => ?_
        simp [push_cast]
        repeat (refine And.intro (by clear hK; intros; first | omega | (simp_all; done) | (simp_all <;> omega)) ?_)
        refine hK _ ?_; clear hK K; refine Nav.imp ?_
        first | refine rx_r [(1, 35)] ?_ | refine rx_n [(1, 35)] ?_
        simp [push_cast, Run.row]
        try decide
      · simp at hb
    · rw [if_neg hab] at hp
      rw [hp]
      refine awp_region cx [] fun K hK => ?_
      simp [push_cast, hlq, e3, e4, e5, e7, hab, Run.row]
      repeat (refine And.intro (by clear hK; intros; first | omega | (simp_all; done) | (simp_all <;> omega)) ?_)
      refine hK _ ?_; clear hK K; refine Nav.imp ?_
      refine awp_cond (b := false) (by simp [push_cast, hab]) (fun hb => ?_) (fun hb => ?_) <;> (refine Nav.imp ?_)
      · simp at hb
      · have htl : List.take l.length (l.map Run.row) = l.map Run.row := List.take_of_length_le (by simp)
        refine awp_region cx [] fun K hK => ?_
        simp [push_cast, h16b, htl]
        repeat (refine And.intro (by clear hK; intros; first | omega | (simp_all; done) | (simp_all <;> omega)) ?_)
        refine hK _ ?_; clear hK K; refine Nav.imp ?_
        refine awp_region cx [] fun K hK => ?_
        simp [push_cast]
        repeat (refine And.intro (by clear hK; intros; first | omega | (simp_all; done) | (simp_all <;> omega)) ?_)
        refine hK _ ?_; clear hK K; refine Nav.imp ?_
        first | refine rx_r [(1, 21)] ?_ | refine rx_n [(1, 21)] ?_
        simp [push_cast, Run.row]
        try decide
end Go.Proofs.YtagakfaiimaifaaGreat

set_option linter.unusedVariables false
set_option linter.unusedSimpArgs false
set_option maxRecDepth 100000
namespace Go.Proofs.YtagakfaiimaifaaGreat
open Go.Abs

theorem asc_next {B : List Int} (hB : B.Pairwise (· < ·)) {k : Nat} {x y : Int} (hx : B[k]? = some x) (hy : B[k + 1]? = some y) {v : Int} (hv : v ∈ B) : v ≤ x ∨ y ≤ v := by
  obtain ⟨j, hj⟩ := List.mem_iff_getElem?.1 hv
  obtain ⟨hjl, hje⟩ := List.getElem?_eq_some_iff.1 hj
  obtain ⟨hxl, hxe⟩ := List.getElem?_eq_some_iff.1 hx
  obtain ⟨hyl, hye⟩ := List.getElem?_eq_some_iff.1 hy
  by_cases h : j ≤ k
  · by_cases h2 : j = k
    · subst h2; left; omega
    · have := List.pairwise_iff_getElem.1 hB j k hjl hxl (by omega)
      left; omega
  · by_cases h2 : j = k + 1
    · subst h2; right; omega
    · have := List.pairwise_iff_getElem.1 hB (k + 1) j hyl hjl (by omega)
      right; omega
theorem in_const {l m : List Run} (hsub : ∀ r ∈ l, r ∈ m) (k : Nat) (x y z : Int) (hx : (bnd6 m)[k]? = some x) (hy : (bnd6 m)[k + 1]? = some y) (h1 : x ≤ z) (h2 : z < y) : inR l z = inR l x := by
  obtain ⟨hB, hm, _⟩ := bnd6_facts m
  rw [Bool.eq_iff_iff, inR_iff, inR_iff]
  constructor
  · rintro ⟨r, hr, q1, q2⟩
    have ha := asc_next hB hx hy ((hm r.a).2 ⟨r, hsub r hr, by omega, .inl rfl⟩)
    exact ⟨r, hr, by omega, by omega⟩
  · rintro ⟨r, hr, q1, q2⟩
    have hb := asc_next hB hx hy ((hm r.b).2 ⟨r, hsub r hr, by omega, .inr rfl⟩)
    exact ⟨r, hr, by omega, by omega⟩
theorem in_low {l m : List Run} (hsub : ∀ r ∈ l, r ∈ m) (z : Int) (h : ∀ x ∈ bnd6 m, z < x) : inR l z = false := by
  rw [Bool.eq_false_iff]
  intro hz
  obtain ⟨r, hr, q1, q2⟩ := inR_iff.1 hz
  have := h r.a (((bnd6_facts m).2.1 r.a).2 ⟨r, hsub r hr, by omega, .inl rfl⟩)
  omega
theorem in_high {l m : List Run} (hsub : ∀ r ∈ l, r ∈ m) (z : Int) (h : ∀ x ∈ bnd6 m, x ≤ z) : inR l z = false := by
  rw [Bool.eq_false_iff]
  intro hz
  obtain ⟨r, hr, q1, q2⟩ := inR_iff.1 hz
  have := h r.b (((bnd6_facts m).2.1 r.b).2 ⟨r, hsub r hr, by omega, .inr rfl⟩)
  omega
def nrm6 (l : List Run) : List Run := putAll (inR l) (bnd6 l)
theorem nrm6_facts (l : List Run) : Apart (nrm6 l) ∧ ∀ z, inR (nrm6 l) z = inR l z :=
  putAll_facts (bnd6_facts l).1 (fun k x y z => in_const (fun r hr => hr) k x y z) (fun z => in_low (fun r hr => hr) z) (fun z => in_high (fun r hr => hr) z)
theorem int6 {a b : List Run} (ha : rvalid a = true) (hb : rvalid b = true) : putAll (fun z => inR a z && inR b z) (bnd6 (a ++ b)) = sweep fI a b := by
  obtain ⟨h1, h2⟩ := sweep_facts (f := fI) rfl ha hb
  have hA : ∀ r ∈ a, r ∈ a ++ b := fun r hr => by simp [hr]
  have hB : ∀ r ∈ b, r ∈ a ++ b := fun r hr => by simp [hr]
  obtain ⟨h3, h4⟩ := putAll_facts (P := fun z => inR a z && inR b z) (bnd6_facts (a ++ b)).1
    (fun k x y z q1 q2 q3 q4 => by simp only [in_const hA k x y z q1 q2 q3 q4, in_const hB k x y z q1 q2 q3 q4])
    (fun z h => by simp only [in_low hA z h, Bool.false_and]) (fun z h => by simp only [in_high hA z h, Bool.false_and])
  exact apart_uniq h3 h1 fun y => by rw [h4, h2]; rfl

set_option maxHeartbeats 8000000 in
theorem normal6_ok (l : List Run) (hl : l.length ≤ 100000) : PC Tryz.prog 155 [encRuns l] (.p (encRuns (nrm6 l))) := by
  have c1 := bounds6_ok l hl
  have hBl := (bnd6_facts l).2.2
  have hin := fun x => in6_ok l x (by omega)
  have hres : nrm6 l = putTo (inR l) (bnd6 l) ((bnd6 l).length - 1) := rfl
  have hnx := fun k x y (h1 : (bnd6 l)[k]? = some x) (h2 : (bnd6 l)[k + 1]? = some y) => putTo_next (P := inR l) h1 h2
  have hOl := putTo_len (inR l) (bnd6 l)
  generalize nrm6 l = W at *
  generalize bnd6 l = B at *
  refine pc_of_awp cx (fn := Tryz.f155) (c := _) Tryz.func155 rfl rfl (Nat.le_of_ble_eq_true rfl) ?_
  rw [Tryz.ntmps155]; refine Nav.imp ?_
  refine awp_region cx [] fun K hK => ?_
  simp [push_cast]
  repeat (refine And.intro (by clear hK; intros; first | omega | (simp_all; done) | (simp_all <;> omega)) ?_)
  refine hK _ ?_; clear hK K; refine Nav.imp ?_
  refine awp_region cx [(1, .p (encI B))] fun K hK => ?_
  simp [push_cast, c1]
  repeat (refine And.intro (by clear hK; intros; first | omega | (simp_all; done) | (simp_all <;> omega)) ?_)
  refine hK _ ?_; clear hK K; refine Nav.imp ?_
  refine awp_region cx [] fun K hK => ?_
  simp [push_cast]
  repeat (refine And.intro (by clear hK; intros; first | omega | (simp_all; done) | (simp_all <;> omega)) ?_)
  refine hK _ ?_; clear hK K; refine Nav.imp ?_
  refine awp_region cx [] fun K hK => ?_
  simp [push_cast]
  repeat (refine And.intro (by clear hK; intros; first | omega | (simp_all; done) | (simp_all <;> omega)) ?_)
  refine hK _ ?_; clear hK K; refine Nav.imp ?_
  refine awp_loop (β := Nat × List Run) (fun s => ⟨33, [(0, .d (encRuns l)), (3, .d (encI B)), (4, .hs 0 0 s.2.length), (5, .d (.int .i64 s.1))], [(0, some ⟨54, 2, dr (s.2.map Run.row)⟩)], 1⟩) (fun s => s.1 ≤ B.length - 1 ∧ s.2 = putTo (inR l) B s.1) (fun s => B.length - s.1) (0, []) ?_ ⟨Nat.zero_le _, rfl⟩ ?_
  · refine weak_of [(0, none)] rfl (by simp [upT, up, upL, push_cast]) (by simp [upH, upR, upL, up, push_cast]) (by simp [namesOk, push_cast]) (by simp [olds])
  · rintro ⟨k, X⟩ ⟨hk, hX⟩
    simp only at hk hX
    have hXl := hOl k
    rw [← hX] at hXl
    have e0 := wrap_i64 (n := (k : Int) + 1) (by omega) (by omega)
    refine Nav.imp ?_
    refine awp_region cx [] fun K hK => ?_
    simp [push_cast, e0]
    repeat (refine And.intro (by clear hK; intros; first | omega | (simp_all; done) | (simp_all <;> omega)) ?_)
    refine hK _ ?_; clear hK K; refine Nav.imp ?_
    refine awp_cond (b := decide ((k : Int) + 1 < B.length)) (by simp [push_cast]) (fun hb => ?_) (fun hb => ?_) <;> (refine Nav.imp ?_)
    · have hlt : k + 1 < B.length := by have : (k : Int) + 1 < B.length := by simpa using hb
                                        omega
      obtain ⟨x, hx⟩ := getq (show k < B.length by omega)
      obtain ⟨y, hy⟩ := getq hlt
      have q := hnx k x y hx hy
      rw [← hX] at q
      have c2 := hin x
      generalize inR l x = v at *
      refine awp_region cx [(5, .p (.bool v))] fun K hK => ?_
      simp [push_cast, c2, hx, intRow]
      repeat (refine And.intro (by clear hK; intros; first | omega | (simp_all; done) | (simp_all <;> omega)) ?_)
      refine hK _ ?_; clear hK K; refine Nav.imp ?_
      cases v with
      | false =>
        rw [if_neg (by simp)] at q
        refine awp_cond (b := false) (by simp [push_cast]) (fun hb => ?_) (fun hb => ?_) <;> (refine Nav.imp ?_)
        · simp at hb
        · refine awp_region cx [] fun K hK => ?_
          simp [push_cast, e0]
          repeat (refine And.intro (by clear hK; intros; first | omega | (simp_all; done) | (simp_all <;> omega)) ?_)
          refine hK _ ?_; clear hK K; refine Nav.imp ?_
          refine ⟨(k + 1, X), ⟨by simp only; omega, q.symm⟩, by simp only; omega, ?_⟩
          refine weak_of [(0, some 0)] rfl (by simp [upT, up, upL, push_cast]) (by simp [upH, upR, upL, up, push_cast]) (by simp [namesOk, push_cast]) (by simp [olds])
      | true =>
        rw [if_pos rfl] at q
        have c3 := put6_px X x y (by omega)
        have e1 : ((k : Int) + 1).toNat = k + 1 := by omega
        have e2 : (0 : Int) ≤ (k : Int) + 1 := by omega
        generalize putU X x y = Y at *
        refine awp_cond (b := true) (by simp [push_cast]) (fun hb => ?_) (fun hb => ?_) <;> (refine Nav.imp ?_)
        · refine awp_region_draw cx mixed [(10, .x ⟨[(0, 0)], [.hs 0 0 X.length, .d (.int .i64 x), .d (.int .i64 y)], [(0, ⟨54, 2, dr (X.map Run.row)⟩)], [], some 1, [(1, ⟨54, 2, dr (Y.map Run.row)⟩)], .hs 1 0 Y.length⟩)] fun K hK => ?_
          simp [push_cast, c3, hx, hy, e0, e1, e2, hlt, intRow]
          repeat (refine And.intro (by clear hK; intros; first | omega | (simp_all; done) | (simp_all <;> omega)) ?_)
          refine hK _ _ (by kernel_rfl) ?_; clear hK K; refine Nav.imp ?_
          refine awp_region cx [] fun K hK => ?_
          simp [push_cast, e0]
          repeat (refine And.intro (by clear hK; intros; first | omega | (simp_all; done) | (simp_all <;> omega)) ?_)
          refine hK _ ?_; clear hK K; refine Nav.imp ?_
          refine ⟨(k + 1, Y), ⟨by simp only; omega, q.symm⟩, by simp only; omega, ?_⟩
          refine weak_of [(0, some 22)] rfl (by simp [upT, up, upL, push_cast]) (by simp [upH, upR, upL, up, push_cast]) (by simp [namesOk, push_cast]) (by simp [olds])
        · simp at hb
    · have hke : k = B.length - 1 := by
        have : ¬ ((k : Int) + 1 < B.length) := by simpa using hb
        omega
      rw [hke, ← hres] at hX
      subst hX
      have ht : List.take X.length (X.map Run.row) = X.map Run.row := List.take_of_length_le (by simp)
      refine awp_region cx [] fun K hK => ?_
      simp [push_cast]
      repeat (refine And.intro (by clear hK; intros; first | omega | (simp_all; done) | (simp_all <;> omega)) ?_)
      refine hK _ ?_; clear hK K; refine Nav.imp ?_
      simp [push_cast, ht]

set_option maxHeartbeats 4000000 in
theorem norm6_ok (l : List Run) (hl : l.length ≤ 100000) (hf : ∀ r ∈ l, r.a < r.b ∧ okX r.a = true ∧ okX r.b = true) : PC Tryz.prog 108 [encRuns l] (.p (.tup [encRuns (nrm6 l), .int .i64 0])) := by
  have c1 := normal6_ok l hl
  generalize nrm6 l = W at *
  refine pc_of_awp cx (fn := Tryz.f108) (c := _) Tryz.func108 rfl rfl (Nat.le_of_ble_eq_true rfl) ?_
  rw [Tryz.ntmps108]; refine Nav.imp ?_
  refine awp_region cx [] fun K hK => ?_
  simp [push_cast]
  repeat (refine And.intro (by clear hK; intros; first | omega | (simp_all; done) | (simp_all <;> omega)) ?_)
  refine hK _ ?_; clear hK K; refine Nav.imp ?_
  refine awp_region cx [] fun K hK => ?_
  simp [push_cast]
  repeat (refine And.intro (by clear hK; intros; first | omega | (simp_all; done) | (simp_all <;> omega)) ?_)
  refine hK _ ?_; clear hK K; refine Nav.imp ?_
  refine awp_loop (β := Nat) (fun k => ⟨42, [(0, .d (encRuns l)), (4, .d (.int .i64 k))], [], 0⟩) (fun k => k ≤ l.length) (fun k => l.length - k) 0 ?_ (Nat.zero_le _) ?_
  · refine weak_of [] rfl (by simp [upT, up, upL, push_cast]) (by simp [upH, upR, upL, up, push_cast]) (by simp [namesOk, push_cast]) (by simp [olds])
  · rintro k hk
    refine Nav.imp ?_
    refine awp_region cx [] fun K hK => ?_
    simp [push_cast]
    repeat (refine And.intro (by clear hK; intros; first | omega | (simp_all; done) | (simp_all <;> omega)) ?_)
    refine hK _ ?_; clear hK K; refine Nav.imp ?_
    refine awp_cond (b := decide ((k : Int) < l.length)) (by simp [push_cast]) (fun hb => ?_) (fun hb => ?_) <;> (refine Nav.imp ?_)
    · have hlt : k < l.length := by simpa using hb
      obtain ⟨r, hr⟩ := getq hlt
      have e0 := wrap_i64 (n := (k : Int) + 1) (by omega) (by omega)
      obtain ⟨h1, h2, h3⟩ := hf r (List.mem_of_getElem? hr)
      have c2 := ok6_ok r.a
      have c3 := ok6_ok r.b
      rw [h2] at c2
      rw [h3] at c3
      obtain ⟨a, b⟩ := r
      simp only at c2 c3 h1
      clear h2 h3
      refine awp_region_draw cx mixed [(17, .p (.bool true)), (25, .p (.bool true))] fun K hK => ?_
      simp [push_cast, c2, c3, hr, h1, Run.row]
      repeat (refine And.intro (by clear hK; intros; first | omega | (simp_all; done) | (simp_all <;> omega)) ?_)
      refine hK _ _ (by kernel_rfl) ?_; clear hK K; refine Nav.imp ?_
      refine awp_cond (b := false) (by simp [push_cast, h1]) (fun hb => ?_) (fun hb => ?_) <;> (refine Nav.imp ?_)
      · simp at hb
      · refine awp_region cx [] fun K hK => ?_
        simp [push_cast, e0]
        repeat (refine And.intro (by clear hK; intros; first | omega | (simp_all; done) | (simp_all <;> omega)) ?_)
        refine hK _ ?_; clear hK K; refine Nav.imp ?_
        refine ⟨k + 1, hlt, by omega, ?_⟩
        refine weak_of [] rfl (by simp [upT, up, upL, push_cast]) (by simp [upH, upR, upL, up, push_cast]) (by simp [namesOk, push_cast]) (by simp [olds])
    · refine awp_region cx [(1, .p (encRuns W))] fun K hK => ?_
      simp [push_cast, c1]
      repeat (refine And.intro (by clear hK; intros; first | omega | (simp_all; done) | (simp_all <;> omega)) ?_)
      refine hK _ ?_; clear hK K; refine Nav.imp ?_
      simp [push_cast]

set_option maxHeartbeats 4000000 in
theorem valid6_ok (l : List Run) (hl : l.length ≤ 1000000) (hv : rvalid l = true) : PC Tryz.prog 156 [encRuns l] (.p (.bool true)) := by
  have hat : ∀ k r p, l[k]? = some r → l[k - 1]? = some p → r.a < r.b ∧ fitsB r = true ∧ (k = 0 ∨ p.b < r.a) := fun k r p h hp => by
    have := List.all_eq_true.1 hv k (by simp; exact (List.getElem?_eq_some_iff.1 h).1)
    rw [rvAt_some h hp] at this
    simpa [and_assoc] using this
  refine pc_of_awp cx (fn := Tryz.f156) (c := _) Tryz.func156 rfl rfl (Nat.le_of_ble_eq_true rfl) ?_
  rw [Tryz.ntmps156]; refine Nav.imp ?_
  refine awp_region cx [] fun K hK => ?_
  simp [push_cast]
  repeat (refine And.intro (by clear hK; intros; first | omega | (simp_all; done) | (simp_all <;> omega)) ?_)
  refine hK _ ?_; clear hK K; refine Nav.imp ?_
  refine awp_region cx [] fun K hK => ?_
  simp [push_cast]
  repeat (refine And.intro (by clear hK; intros; first | omega | (simp_all; done) | (simp_all <;> omega)) ?_)
  refine hK _ ?_; clear hK K; refine Nav.imp ?_
  refine awp_loop (β := Nat) (fun k => ⟨57, [(0, .d (encRuns l)), (3, .d (.int .i64 k))], [], 0⟩) (fun k => k ≤ l.length) (fun k => l.length - k) 0 ?_ (Nat.zero_le _) ?_
  · refine weak_of [] rfl (by simp [upT, up, upL, push_cast]) (by simp [upH, upR, upL, up, push_cast]) (by simp [namesOk, push_cast]) (by simp [olds])
  · rintro k hk
    refine Nav.imp ?_
    refine awp_region cx [] fun K hK => ?_
    simp [push_cast]
    repeat (refine And.intro (by clear hK; intros; first | omega | (simp_all; done) | (simp_all <;> omega)) ?_)
    refine hK _ ?_; clear hK K; refine Nav.imp ?_
    refine awp_cond (b := decide ((k : Int) < l.length)) (by simp [push_cast]) (fun hb => ?_) (fun hb => ?_) <;> (refine Nav.imp ?_)
    · have hlt : k < l.length := by simpa using hb
      obtain ⟨r, hr⟩ := getq hlt
      obtain ⟨p, hp⟩ := getq (show k - 1 < l.length by omega)
      have e0 := wrap_i64 (n := (k : Int) + 1) (by omega) (by omega)
      have e1 := wrap_i64 (n := (k : Int) - 1) (by omega) (by omega)
      obtain ⟨h1, h2, h3⟩ := hat k r p hr hp
      have hfb := fitsB_bd h2
      have c2 := ok6_ok r.a
      have c3 := ok6_ok r.b
      rw [show okX r.a = true from by simp [okX]; omega] at c2
      rw [show okX r.b = true from by simp [okX]; omega] at c3
      obtain ⟨a, b⟩ := r
      obtain ⟨pa, pb⟩ := p
      simp only at c2 c3 h1 h3 hfb
      clear h2
      have n1 : ¬ b ≤ a := by omega
      by_cases hk0 : k = 0
      · subst hk0
        refine awp_region_draw cx mixed [(17, .p (.bool true)), (26, .p (.bool true))] fun K hK => ?_
        simp [push_cast, c2, c3, hr, n1, Run.row]
        repeat (refine And.intro (by clear hK; intros; first | omega | (simp_all; done) | (simp_all <;> omega)) ?_)
        refine hK _ _ (by kernel_rfl) ?_; clear hK K; refine Nav.imp ?_
        refine awp_cond (b := false) (by simp [push_cast, n1]) (fun hb => ?_) (fun hb => ?_) <;> (refine Nav.imp ?_)
        · simp at hb
        · refine awp_region cx [] fun K hK => ?_
          simp [push_cast]
          repeat (refine And.intro (by clear hK; intros; first | omega | (simp_all; done) | (simp_all <;> omega)) ?_)
          refine hK _ ?_; clear hK K; refine Nav.imp ?_
          refine ⟨1, hlt, by omega, ?_⟩
          refine weak_of [] rfl (by simp [upT, up, upL, push_cast]) (by simp [upH, upR, upL, up, push_cast]) (by simp [namesOk, push_cast]) (by simp [olds])
      · have h4 : pb < a := h3.resolve_left hk0
        have n2 : ¬ a ≤ pb := by omega
        have e2 : ((k : Int) - 1).toNat = k - 1 := by omega
        have e3 : (0 : Int) ≤ (k : Int) - 1 := by omega
        have e4 : (k : Int) - 1 < (l.length : Int) := by omega
        have e5 : (0 : Int) < (k : Int) := by omega
        have e6 : 0 < k := by omega
        refine awp_region_draw cx mixed [(17, .p (.bool true)), (26, .p (.bool true))] fun K hK => ?_
        simp [push_cast, c2, c3, hr, hp, n1, n2, e1, e2, e3, e4, e6, Run.row]
        repeat (refine And.intro (by clear hK; intros; first | omega | (simp_all; done) | (simp_all <;> omega)) ?_)
        refine hK _ _ (by kernel_rfl) ?_; clear hK K; refine Nav.imp ?_
        refine awp_cond (b := false) (by simp [push_cast, n1, n2]) (fun hb => ?_) (fun hb => ?_) <;> (refine Nav.imp ?_)
        · simp at hb
        · refine awp_region cx [] fun K hK => ?_
          simp [push_cast, e0]
          repeat (refine And.intro (by clear hK; intros; first | omega | (simp_all; done) | (simp_all <;> omega)) ?_)
          refine hK _ ?_; clear hK K; refine Nav.imp ?_
          refine ⟨k + 1, hlt, by omega, ?_⟩
          refine weak_of [] rfl (by simp [upT, up, upL, push_cast]) (by simp [upH, upR, upL, up, push_cast]) (by simp [namesOk, push_cast]) (by simp [olds])
    · refine awp_region cx [] fun K hK => ?_
      simp [push_cast]
      repeat (refine And.intro (by clear hK; intros; first | omega | (simp_all; done) | (simp_all <;> omega)) ?_)
      refine hK _ ?_; clear hK K; refine Nav.imp ?_
      simp [push_cast]
end Go.Proofs.YtagakfaiimaifaaGreat

set_option linter.unusedVariables false
set_option linter.unusedSimpArgs false
set_option maxRecDepth 100000
namespace Go.Proofs.YtagakfaiimaifaaGreat
open Go.Abs

/-! Offsets: what is valid; runs made shorter. -/
def reachB (R : List Row) (k : Int) : Bool := decide (0 ≤ k) && decide (k ≤ 64) && validR R
theorem mvalid_big (R : List Row) (k : Int) (hR : bigR R) : PC Tryz.prog 99 [.agg (regRow R), .int .i64 k] (.p (.bool (reachB R k))) := by
  have c1 := valid_big R hR
  unfold reachB
  generalize validR R = v at *
  by_cases h : 0 ≤ k ∧ k ≤ 64
  · have e1 : (0 : Int) ≤ k := h.1
    have e2 : k ≤ 64 := h.2
    refine pc_of_awp cx (fn := Tryz.f99) (c := _) Tryz.func99 rfl rfl (Nat.le_of_ble_eq_true rfl) ?_
    rw [Tryz.ntmps99]; refine Nav.imp ?_
    refine awp_region cx [] fun K hK => ?_
    simp [push_cast]
    repeat (refine And.intro (by clear hK; intros; first | omega | (simp_all; done) | (simp_all <;> omega)) ?_)
    refine hK _ ?_; clear hK K; refine Nav.imp ?_
    refine awp_region cx [(8, .p (.bool v))] fun K hK => ?_
    simp [push_cast, c1, e1, e2]
    repeat (refine And.intro (by clear hK; intros; first | omega | (simp_all; done) | (simp_all <;> omega)) ?_)
    refine hK _ ?_; clear hK K; refine Nav.imp ?_
    simp [push_cast, e1, e2]
  · have e : (decide (0 ≤ k) && decide (k ≤ 64)) = false := by simp; omega
    rw [e]
    by_cases h0 : 0 ≤ k
    · have e2 : ¬ k ≤ 64 := by omega
      refine pc_of_awp cx (fn := Tryz.f99) (c := _) Tryz.func99 rfl rfl (Nat.le_of_ble_eq_true rfl) ?_
      rw [Tryz.ntmps99]; refine Nav.imp ?_
      refine awp_region cx [] fun K hK => ?_
      simp [push_cast]
      repeat (refine And.intro (by clear hK; intros; first | omega | (simp_all; done) | (simp_all <;> omega)) ?_)
      refine hK _ ?_; clear hK K; refine Nav.imp ?_
      refine awp_region cx [(8, .skip)] fun K hK => ?_
      simp [push_cast, h0, e2]
      repeat (refine And.intro (by clear hK; intros; first | omega | (simp_all; done) | (simp_all <;> omega)) ?_)
      refine hK _ ?_; clear hK K; refine Nav.imp ?_
      simp [push_cast, h0, e2]
    · refine pc_of_awp cx (fn := Tryz.f99) (c := _) Tryz.func99 rfl rfl (Nat.le_of_ble_eq_true rfl) ?_
      rw [Tryz.ntmps99]; refine Nav.imp ?_
      refine awp_region cx [] fun K hK => ?_
      simp [push_cast]
      repeat (refine And.intro (by clear hK; intros; first | omega | (simp_all; done) | (simp_all <;> omega)) ?_)
      refine hK _ ?_; clear hK K; refine Nav.imp ?_
      refine awp_region cx [(8, .skip)] fun K hK => ?_
      simp [push_cast, h0]
      repeat (refine And.intro (by clear hK; intros; first | omega | (simp_all; done) | (simp_all <;> omega)) ?_)
      refine hK _ ?_; clear hK K; refine Nav.imp ?_
      simp [push_cast, h0]

theorem mvalid_ok (R : List Row) (k : Int) (hR : smallR R) : PC Tryz.prog 99 [.agg (regRow R), .int .i64 k] (.p (.bool (reachB R k))) := mvalid_big R k (big_of hR)

def shrRun (k : Int) (r : Run) : List Run := if r.a + k < r.b - k then [⟨r.a + k, r.b - k⟩] else []
def shrK (k : Int) (l : List Run) : List Run := l.flatMap (shrRun k)
def shrB (l : List Run) (k : Int) : List Run := if rvalid l && decide (0 ≤ k) && decide (k ≤ 1048576) then shrK k l else []
theorem shrRun_len (k : Int) (r : Run) : (shrRun k r).length ≤ 1 := by unfold shrRun; split <;> simp
theorem flat_one_len {α β : Type} {f : α → List β} (h : ∀ x, (f x).length ≤ 1) : ∀ m : List α, (m.flatMap f).length ≤ m.length
  | [] => by simp
  | x :: m => by have := h x; have := flat_one_len h m; rw [List.flatMap_cons, List.length_append, List.length_cons]; omega

set_option maxHeartbeats 1000000 in
theorem shrink_ok (l : List Run) (k : Int) (hl : l.length ≤ 1000000) : PC Tryz.prog 104 [encRuns l, .int .i64 k] (.p (encRuns (shrB l k))) := by
  have c1 := rvalid_ok l hl
  have hB : shrB l k = if rvalid l && decide (0 ≤ k) && decide (k ≤ 1048576) then shrK k l else [] := rfl
  cases hv : rvalid l with
  | false =>
    rw [hv] at c1 hB
    rw [if_neg (by simp)] at hB
    rw [hB]
    refine pc_of_awp cx (fn := Tryz.f104) (c := _) Tryz.func104 rfl rfl (Nat.le_of_ble_eq_true rfl) ?_
    rw [Tryz.ntmps104]; refine Nav.imp ?_
    refine awp_region cx [] fun K hK => ?_
    simp [push_cast]
    repeat (refine And.intro (by clear hK; intros; first | omega | (simp_all; done) | (simp_all <;> omega)) ?_)
    refine hK _ ?_; clear hK K; refine Nav.imp ?_
    refine awp_region cx [(1, .p (.bool false))] fun K hK => ?_
    simp [push_cast, c1]
    repeat (refine And.intro (by clear hK; intros; first | omega | (simp_all; done) | (simp_all <;> omega)) ?_)
    refine hK _ ?_; clear hK K; refine Nav.imp ?_
    refine awp_cond (b := true) (by simp [push_cast]) (fun hb => ?_) (fun hb => ?_) <;> (refine Nav.imp ?_)
    · refine awp_region cx [] fun K hK => ?_
      simp [push_cast]
      repeat (refine And.intro (by clear hK; intros; first | omega | (simp_all; done) | (simp_all <;> omega)) ?_)
      refine hK _ ?_; clear hK K; refine Nav.imp ?_
      simp [push_cast]
    · simp at hb
  | true =>
    rw [hv] at c1 hB
    by_cases hk : 0 ≤ k ∧ k ≤ 1048576
    · rw [if_pos (by simp; omega)] at hB
      rw [hB]
      clear hB
      have e1 : ¬ k < 0 := by omega
      have e2 : ¬ 1048576 < k := by omega
      refine pc_of_awp cx (fn := Tryz.f104) (c := _) Tryz.func104 rfl rfl (Nat.le_of_ble_eq_true rfl) ?_
      rw [Tryz.ntmps104]; refine Nav.imp ?_
      refine awp_region cx [] fun K hK => ?_
      simp [push_cast]
      repeat (refine And.intro (by clear hK; intros; first | omega | (simp_all; done) | (simp_all <;> omega)) ?_)
      refine hK _ ?_; clear hK K; refine Nav.imp ?_
      refine awp_region cx [(1, .p (.bool true))] fun K hK => ?_
      simp [push_cast, c1]
      repeat (refine And.intro (by clear hK; intros; first | omega | (simp_all; done) | (simp_all <;> omega)) ?_)
      refine hK _ ?_; clear hK K; refine Nav.imp ?_
      refine awp_cond (b := false) (by simp [push_cast, e1, e2]) (fun hb => ?_) (fun hb => ?_) <;> (refine Nav.imp ?_)
      · simp at hb
      · refine awp_region cx [] fun K hK => ?_
        simp [push_cast]
        repeat (refine And.intro (by clear hK; intros; first | omega | (simp_all; done) | (simp_all <;> omega)) ?_)
        refine hK _ ?_; clear hK K; refine Nav.imp ?_
        refine awp_region cx [] fun K hK => ?_
        simp [push_cast]
        repeat (refine And.intro (by clear hK; intros; first | omega | (simp_all; done) | (simp_all <;> omega)) ?_)
        refine hK _ ?_; clear hK K; refine Nav.imp ?_
        refine awp_loop (β := Nat × List Run) (fun s => ⟨48, [(1, .d (.int .i64 k)), (5, .hs 0 0 s.2.length), (19, .d (encRuns l)), (20, .d (.int .i64 l.length)), (21, .d (.int .i64 s.1))], [(0, some ⟨54, 2, dr (s.2.map Run.row)⟩)], 1⟩) (fun s => s.1 ≤ l.length ∧ s.2 = shrK k (l.take s.1)) (fun s => l.length - s.1) (0, []) ?_ ⟨Nat.zero_le _, by simp [shrK]⟩ ?_
        · refine weak_of [(0, none)] rfl (by simp [upT, up, upL, push_cast]) (by simp [upH, upR, upL, up, push_cast]) (by simp [namesOk, push_cast]) (by simp [olds])
        · rintro ⟨i, Z⟩ ⟨hi, hZ⟩
          simp only at hi hZ
          refine Nav.imp ?_
          refine awp_region cx [] fun K hK => ?_
          simp [push_cast]
          repeat (refine And.intro (by clear hK; intros; first | omega | (simp_all; done) | (simp_all <;> omega)) ?_)
          refine hK _ ?_; clear hK K; refine Nav.imp ?_
          refine awp_cond (b := decide ((i : Int) < l.length)) (by simp [push_cast]) (fun hb => ?_) (fun hb => ?_) <;> (refine Nav.imp ?_)
          · have hlt : i < l.length := by simpa using hb
            obtain ⟨r, hr⟩ := getq hlt
            have e0 := wrap_i64 (n := (i : Int) + 1) (by omega) (by omega)
            have hbd := fitsB_bd (rvalid_at hv hr).2
            have hZl : Z.length ≤ 1000000 := by
              have := flat_one_len (shrRun_len k) (l.take i)
              rw [hZ]; unfold shrK; rw [List.length_take] at this; omega
            have hZ16 : (Z.length + 1) * 16 ≤ 140737488355328 := by omega
            have hnx : shrK k (l.take (i + 1)) = Z ++ shrRun k r := by rw [hZ]; exact flat_take _ hr
            obtain ⟨ra, rb⟩ := r
            simp only [shrRun] at hnx hbd
            have w1 := wrap_i64 (n := ra + k) (by omega) (by omega)
            have w2 := wrap_i64 (n := rb - k) (by omega) (by omega)
            refine awp_region cx [] fun K hK => ?_
            simp [push_cast, hr, Run.row]
            repeat (refine And.intro (by clear hK; intros; first | omega | (simp_all; done) | (simp_all <;> omega)) ?_)
            refine hK _ ?_; clear hK K; refine Nav.imp ?_
            refine awp_region cx [] fun K hK => ?_
            simp [push_cast, w1, w2]
            repeat (refine And.intro (by clear hK; intros; first | omega | (simp_all; done) | (simp_all <;> omega)) ?_)
            refine hK _ ?_; clear hK K; refine Nav.imp ?_
            refine awp_cond (b := decide (ra + k < rb - k)) (by simp [push_cast]) (fun hb => ?_) (fun hb => ?_) <;> (refine Nav.imp ?_)
            · have hb : ra + k < rb - k := by simpa using hb
              rw [if_pos hb] at hnx
              refine awp_region cx [] fun K hK => ?_
              simp [push_cast, w1, w2, hZ16]
              repeat (refine And.intro (by clear hK; intros; first | omega | (simp_all; done) | (simp_all <;> omega)) ?_)
              refine hK _ ?_; clear hK K; refine Nav.imp ?_
              refine awp_region cx [] fun K hK => ?_
              simp [push_cast, e0]
              repeat (refine And.intro (by clear hK; intros; first | omega | (simp_all; done) | (simp_all <;> omega)) ?_)
              refine hK _ ?_; clear hK K; refine Nav.imp ?_
              refine ⟨(i + 1, Z ++ [⟨ra + k, rb - k⟩]), ⟨hlt, hnx.symm⟩, by simp only; omega, ?_⟩
              refine weak_of [(0, some 26)] rfl (by simp [upT, up, upL, push_cast, Run.row]) (by simp [upH, upR, upL, up, push_cast, Run.row]) (by simp [namesOk, push_cast]) (by simp [olds])
            · have hb : ¬ ra + k < rb - k := by simpa using hb
              rw [if_neg hb, List.append_nil] at hnx
              refine awp_region cx [] fun K hK => ?_
              simp [push_cast, e0]
              repeat (refine And.intro (by clear hK; intros; first | omega | (simp_all; done) | (simp_all <;> omega)) ?_)
              refine hK _ ?_; clear hK K; refine Nav.imp ?_
              refine ⟨(i + 1, Z), ⟨hlt, hnx.symm⟩, by simp only; omega, ?_⟩
              refine weak_of [(0, some 0)] rfl (by simp [upT, up, upL, push_cast]) (by simp [upH, upR, upL, up, push_cast]) (by simp [namesOk, push_cast]) (by simp [olds])
          · have hge : i = l.length := by simp at hb; omega
            subst hge
            rw [List.take_length] at hZ
            rw [← hZ]
            refine awp_region cx [] fun K hK => ?_
            simp [push_cast]
            repeat (refine And.intro (by clear hK; intros; first | omega | (simp_all; done) | (simp_all <;> omega)) ?_)
            refine hK _ ?_; clear hK K; refine Nav.imp ?_
            have ht : List.take Z.length (Z.map Run.row) = Z.map Run.row := List.take_of_length_le (by simp)
            simp [push_cast, ht]
    · rw [if_neg (by simp; omega)] at hB
      rw [hB]
      have e : (decide (k < 0) || decide (1048576 < k)) = true := by simp; omega
      refine pc_of_awp cx (fn := Tryz.f104) (c := _) Tryz.func104 rfl rfl (Nat.le_of_ble_eq_true rfl) ?_
      rw [Tryz.ntmps104]; refine Nav.imp ?_
      refine awp_region cx [] fun K hK => ?_
      simp [push_cast]
      repeat (refine And.intro (by clear hK; intros; first | omega | (simp_all; done) | (simp_all <;> omega)) ?_)
      refine hK _ ?_; clear hK K; refine Nav.imp ?_
      refine awp_region cx [(1, .p (.bool true))] fun K hK => ?_
      simp [push_cast, c1]
      repeat (refine And.intro (by clear hK; intros; first | omega | (simp_all; done) | (simp_all <;> omega)) ?_)
      refine hK _ ?_; clear hK K; refine Nav.imp ?_
      refine awp_cond (b := true) (by simp [push_cast, e]) (fun hb => ?_) (fun hb => ?_) <;> (refine Nav.imp ?_)
      · refine awp_region cx [] fun K hK => ?_
        simp [push_cast]
        repeat (refine And.intro (by clear hK; intros; first | omega | (simp_all; done) | (simp_all <;> omega)) ?_)
        refine hK _ ?_; clear hK K; refine Nav.imp ?_
        simp [push_cast]
      · simp at hb
end Go.Proofs.YtagakfaiimaifaaGreat

set_option linter.unusedVariables false
set_option linter.unusedSimpArgs false
set_option maxRecDepth 100000
namespace Go.Proofs.YtagakfaiimaifaaGreat
open Go.Abs

set_option maxHeartbeats 8000000 in
theorem inter6_ok (a b : List Run) (ha : a.length ≤ 10000) (hb0 : b.length ≤ 10000) (hva : rvalid a = true) (hvb : rvalid b = true) : PC Tryz.prog 157 [encRuns a, encRuns b, .int .i64 1] (.p (encRuns (sweep fI a b))) := by
  have v1 := valid6_ok a (by omega) hva
  have v2 := valid6_ok b (by omega) hvb
  have c1 := bounds6_ok (a ++ b) (by rw [List.length_append]; omega)
  have hBl := (bnd6_facts (a ++ b)).2.2
  rw [List.length_append] at hBl
  have hin1 := fun x => in6_ok a x (by omega)
  have hin2 := fun x => in6_ok b x (by omega)
  have hres : sweep fI a b = putTo (fun z => inR a z && inR b z) (bnd6 (a ++ b)) ((bnd6 (a ++ b)).length - 1) := (int6 hva hvb).symm
  have hnx := fun k x y (h1 : (bnd6 (a ++ b))[k]? = some x) (h2 : (bnd6 (a ++ b))[k + 1]? = some y) => putTo_next (P := fun z => inR a z && inR b z) h1 h2
  have hOl := putTo_len (fun z => inR a z && inR b z) (bnd6 (a ++ b))
  generalize sweep fI a b = W at *
  generalize bnd6 (a ++ b) = B at *
  have h16 : a.length * 16 ≤ 140737488355328 := by omega
  have h16b : (a.length + b.length) * 16 ≤ 140737488355328 := by omega
  clear hva hvb
  refine pc_of_awp cx (fn := Tryz.f157) (c := _) Tryz.func157 rfl rfl (Nat.le_of_ble_eq_true rfl) ?_
  rw [Tryz.ntmps157]; refine Nav.imp ?_
  refine awp_region cx [] fun K hK => ?_
  simp [push_cast]
  repeat (refine And.intro (by clear hK; intros; first | omega | (simp_all; done) | (simp_all <;> omega)) ?_)
  refine hK _ ?_; clear hK K; refine Nav.imp ?_
  refine awp_region cx [(1, .p (.bool true)), (5, .p (.bool true))] fun K hK => ?_
  simp [push_cast, v1, v2]
  repeat (refine And.intro (by clear hK; intros; first | omega | (simp_all; done) | (simp_all <;> omega)) ?_)
  refine hK _ ?_; clear hK K; refine Nav.imp ?_
  refine awp_cond (b := false) (by simp [push_cast]) (fun hb => ?_) (fun hb => ?_) <;> (refine Nav.imp ?_)
  · simp at hb
  · refine awp_region cx [] fun K hK => ?_
    simp [push_cast, h16]
    repeat (refine And.intro (by clear hK; intros; first | omega | (simp_all; done) | (simp_all <;> omega)) ?_)
    refine hK _ ?_; clear hK K; refine Nav.imp ?_
    refine awp_region cx [] fun K hK => ?_
    simp [push_cast, h16b]
    repeat (refine And.intro (by clear hK; intros; first | omega | (simp_all; done) | (simp_all <;> omega)) ?_)
    refine hK _ ?_; clear hK K; refine Nav.imp ?_
    have ht : List.take (a.length + b.length) (a.map Run.row ++ b.map Run.row) = a.map Run.row ++ b.map Run.row := List.take_of_length_le (by simp)
    have c1' : PC Tryz.prog 195 [.sl (a.map Run.row ++ b.map Run.row)] (.p (encI B)) := by rw [← List.map_append]; exact c1
    refine awp_freeze 15 (a.map Run.row ++ b.map Run.row) rfl (by simp [push_cast, ht]) fun K hK => ?_
    simp [push_cast, St.fz, fzT, fzH, fzO, fz, fzL, fzR, fzR_dr, fzR_app, fzR_set, fzL_map, ht]
    refine hK _ ?_; clear hK K; refine Nav.imp ?_
    refine awp_region cx [(1, .p (encI B))] fun K hK => ?_
    simp [push_cast, c1']
    repeat (refine And.intro (by clear hK; intros; first | omega | (simp_all; done) | (simp_all <;> omega)) ?_)
    refine hK _ ?_; clear hK K; refine Nav.imp ?_
    clear c1 c1' ht
    refine awp_region cx [] fun K hK => ?_
    simp [push_cast]
    repeat (refine And.intro (by clear hK; intros; first | omega | (simp_all; done) | (simp_all <;> omega)) ?_)
    refine hK _ ?_; clear hK K; refine Nav.imp ?_
    refine awp_region cx [] fun K hK => ?_
    simp [push_cast]
    repeat (refine And.intro (by clear hK; intros; first | omega | (simp_all; done) | (simp_all <;> omega)) ?_)
    refine hK _ ?_; clear hK K; refine Nav.imp ?_
    refine awp_loop (β := Nat × List Run) (fun s => ⟨89, [(0, .d (encRuns a)), (1, .d (encRuns b)), (2, .d (.int .i64 1)), (8, .d (encI B)), (9, .hs 0 0 s.2.length), (10, .d (.int .i64 s.1))], [(0, some ⟨54, 2, dr (s.2.map Run.row)⟩)], 1⟩) (fun s => s.1 ≤ B.length - 1 ∧ s.2 = putTo (fun z => inR a z && inR b z) B s.1) (fun s => B.length - s.1) (0, []) ?_ ⟨Nat.zero_le _, rfl⟩ ?_
    · refine weak_of [(0, none)] rfl (by simp [upT, up, upL, push_cast]) (by simp [upH, upR, upL, up, push_cast]) (by simp [namesOk, push_cast]) (by simp [olds])
    · rintro ⟨k, X⟩ ⟨hk, hX⟩
      simp only at hk hX
      have hXl := hOl k
      rw [← hX] at hXl
      have e0 := wrap_i64 (n := (k : Int) + 1) (by omega) (by omega)
      refine Nav.imp ?_
      refine awp_region cx [] fun K hK => ?_
      simp [push_cast, e0]
      repeat (refine And.intro (by clear hK; intros; first | omega | (simp_all; done) | (simp_all <;> omega)) ?_)
      refine hK _ ?_; clear hK K; refine Nav.imp ?_
      refine awp_cond (b := decide ((k : Int) + 1 < B.length)) (by simp [push_cast]) (fun hb => ?_) (fun hb => ?_) <;> (refine Nav.imp ?_)
      · have hlt : k + 1 < B.length := by have : (k : Int) + 1 < B.length := by simpa using hb
                                          omega
        obtain ⟨x, hx⟩ := getq (show k < B.length by omega)
        obtain ⟨y, hy⟩ := getq hlt
        have q := hnx k x y hx hy
        rw [← hX] at q
        have c2 := hin1 x
        have c3 := hin2 x
        have q : putTo (fun z => inR a z && inR b z) B (k + 1) = if (inR a x && inR b x) = true then putU X x y else X := q
        generalize inR a x = v1 at *
        generalize inR b x = v2 at *
        have c4 := put6_px X x y (by omega)
        have e1 : ((k : Int) + 1).toNat = k + 1 := by omega
        have e2 : (0 : Int) ≤ (k : Int) + 1 := by omega
        generalize putU X x y = Y at *
        refine awp_region cx [(5, .p (.bool v1))] fun K hK => ?_
        simp [push_cast, c2, hx, intRow]
        repeat (refine And.intro (by clear hK; intros; first | omega | (simp_all; done) | (simp_all <;> omega)) ?_)
        refine hK _ ?_; clear hK K; refine Nav.imp ?_
        refine awp_region cx [(5, .p (.bool v2))] fun K hK => ?_
        simp [push_cast, c3, hx, intRow]
        repeat (refine And.intro (by clear hK; intros; first | omega | (simp_all; done) | (simp_all <;> omega)) ?_)
        refine hK _ ?_; clear hK K; refine Nav.imp ?_
        have hno : (v1 && v2) = false → putTo (fun z => inR a z && inR b z) B (k + 1) = X := fun h => by rw [q, if_neg (by rw [h]; simp)]
        have hyes : v1 = true → v2 = true → putTo (fun z => inR a z && inR b z) B (k + 1) = Y := fun h1 h2 => by rw [q, if_pos (by rw [h1, h2]; rfl)]
        cases v1 with
        | false =>
          refine awp_region cx [] fun K hK => ?_
          simp [push_cast]
          repeat (refine And.intro (by clear hK; intros; first | omega | (simp_all; done) | (simp_all <;> omega)) ?_)
          refine hK _ ?_; clear hK K; refine Nav.imp ?_
          refine awp_cond (b := false) (by simp [push_cast]) (fun hb => ?_) (fun hb => ?_) <;> (refine Nav.imp ?_)
          · simp at hb
          · refine awp_region cx [] fun K hK => ?_
            simp [push_cast, e0]
            repeat (refine And.intro (by clear hK; intros; first | omega | (simp_all; done) | (simp_all <;> omega)) ?_)
            refine hK _ ?_; clear hK K; refine Nav.imp ?_
            refine ⟨(k + 1, X), ⟨by simp only; omega, (hno rfl).symm⟩, by simp only; omega, ?_⟩
            refine weak_of [(0, some 0)] rfl (by simp [upT, up, upL, push_cast]) (by simp [upH, upR, upL, up, push_cast]) (by simp [namesOk, push_cast]) (by simp [olds])
        | true =>
          cases v2 with
          | false =>
            refine awp_region cx [] fun K hK => ?_
            simp [push_cast]
            repeat (refine And.intro (by clear hK; intros; first | omega | (simp_all; done) | (simp_all <;> omega)) ?_)
            refine hK _ ?_; clear hK K; refine Nav.imp ?_
            refine awp_cond (b := false) (by simp [push_cast]) (fun hb => ?_) (fun hb => ?_) <;> (refine Nav.imp ?_)
            · simp at hb
            · refine awp_region cx [] fun K hK => ?_
              simp [push_cast, e0]
              repeat (refine And.intro (by clear hK; intros; first | omega | (simp_all; done) | (simp_all <;> omega)) ?_)
              refine hK _ ?_; clear hK K; refine Nav.imp ?_
              refine ⟨(k + 1, X), ⟨by simp only; omega, (hno rfl).symm⟩, by simp only; omega, ?_⟩
              refine weak_of [(0, some 0)] rfl (by simp [upT, up, upL, push_cast]) (by simp [upH, upR, upL, up, push_cast]) (by simp [namesOk, push_cast]) (by simp [olds])
          | true =>
            refine awp_region cx [] fun K hK => ?_
            simp [push_cast]
            repeat (refine And.intro (by clear hK; intros; first | omega | (simp_all; done) | (simp_all <;> omega)) ?_)
            refine hK _ ?_; clear hK K; refine Nav.imp ?_
            refine awp_cond (b := true) (by simp [push_cast]) (fun hb => ?_) (fun hb => ?_) <;> (refine Nav.imp ?_)
            · refine awp_region_draw cx mixed [(10, .x ⟨[(0, 0)], [.hs 0 0 X.length, .d (.int .i64 x), .d (.int .i64 y)], [(0, ⟨54, 2, dr (X.map Run.row)⟩)], [], some 1, [(1, ⟨54, 2, dr (Y.map Run.row)⟩)], .hs 1 0 Y.length⟩)] fun K hK => ?_
              simp [push_cast, c4, hx, hy, e0, e1, e2, hlt, intRow]
              repeat (refine And.intro (by clear hK; intros; first | omega | (simp_all; done) | (simp_all <;> omega)) ?_)
              refine hK _ _ (by kernel_rfl) ?_; clear hK K; refine Nav.imp ?_
              refine awp_region cx [] fun K hK => ?_
              simp [push_cast, e0]
              repeat (refine And.intro (by clear hK; intros; first | omega | (simp_all; done) | (simp_all <;> omega)) ?_)
              refine hK _ ?_; clear hK K; refine Nav.imp ?_
              refine ⟨(k + 1, Y), ⟨by simp only; omega, (hyes rfl rfl).symm⟩, by simp only; omega, ?_⟩
              refine weak_of [(0, some 59)] rfl (by simp [upT, up, upL, push_cast]) (by simp [upH, upR, upL, up, push_cast]) (by simp [namesOk, push_cast]) (by simp [olds])
            · simp at hb
      · have hke : k = B.length - 1 := by
          have : ¬ ((k : Int) + 1 < B.length) := by simpa using hb
          omega
        rw [hke, ← hres] at hX
        subst hX
        have ht : List.take X.length (X.map Run.row) = X.map Run.row := List.take_of_length_le (by simp)
        refine awp_region cx [] fun K hK => ?_
        simp [push_cast]
        repeat (refine And.intro (by clear hK; intros; first | omega | (simp_all; done) | (simp_all <;> omega)) ?_)
        refine hK _ ?_; clear hK K; refine Nav.imp ?_
        simp [push_cast, ht]

theorem intersect6_ok (a b : List Run) (ha : a.length ≤ 10000) (hb0 : b.length ≤ 10000) (hva : rvalid a = true) (hvb : rvalid b = true) : PC Tryz.prog 110 [encRuns a, encRuns b] (.p (encRuns (sweep fI a b))) := by
  have c1 := inter6_ok a b ha hb0 hva hvb
  generalize sweep fI a b = W at *
  refine pc_of_awp cx (fn := Tryz.f110) (c := _) Tryz.func110 rfl rfl (Nat.le_of_ble_eq_true rfl) ?_
  rw [Tryz.ntmps110]; refine Nav.imp ?_
  refine awp_region cx [] fun K hK => ?_
  simp [push_cast]
  repeat (refine And.intro (by clear hK; intros; first | omega | (simp_all; done) | (simp_all <;> omega)) ?_)
  refine hK _ ?_; clear hK K; refine Nav.imp ?_
  refine awp_region cx [(2, .p (encRuns W))] fun K hK => ?_
  simp [push_cast, c1]
  repeat (refine And.intro (by clear hK; intros; first | omega | (simp_all; done) | (simp_all <;> omega)) ?_)
  refine hK _ ?_; clear hK K; refine Nav.imp ?_
  simp [push_cast]

set_option maxHeartbeats 4000000 in
theorem shrink6_ok (l : List Run) (hl : l.length ≤ 1000000) (hv : rvalid l = true) : PC Tryz.prog 109 [encRuns l, .int .i64 1] (.p (encRuns (shrK 1 l))) := by
  have c1 := valid6_ok l hl hv
  have hbd := fun k r (h : l[k]? = some r) => fitsB_bd (rvalid_at hv h).2
  have hall : (l.take l.length).flatMap (shrRun 1) = shrK 1 l := by rw [List.take_length]; rfl
  have hnx := fun k r (h : l[k]? = some r) => flat_take (shrRun 1) h
  have hlen := fun k => flat_one_len (shrRun_len 1) (l.take k)
  generalize shrK 1 l = W at *
  refine pc_of_awp cx (fn := Tryz.f109) (c := _) Tryz.func109 rfl rfl (Nat.le_of_ble_eq_true rfl) ?_
  rw [Tryz.ntmps109]; refine Nav.imp ?_
  refine awp_region cx [] fun K hK => ?_
  simp [push_cast]
  repeat (refine And.intro (by clear hK; intros; first | omega | (simp_all; done) | (simp_all <;> omega)) ?_)
  refine hK _ ?_; clear hK K; refine Nav.imp ?_
  refine awp_region cx [(1, .p (.bool true))] fun K hK => ?_
  simp [push_cast, c1]
  repeat (refine And.intro (by clear hK; intros; first | omega | (simp_all; done) | (simp_all <;> omega)) ?_)
  refine hK _ ?_; clear hK K; refine Nav.imp ?_
  refine awp_cond (b := false) (by simp [push_cast]) (fun hb => ?_) (fun hb => ?_) <;> (refine Nav.imp ?_)
  · simp at hb
  · refine awp_region cx [] fun K hK => ?_
    simp [push_cast]
    repeat (refine And.intro (by clear hK; intros; first | omega | (simp_all; done) | (simp_all <;> omega)) ?_)
    refine hK _ ?_; clear hK K; refine Nav.imp ?_
    refine awp_region cx [] fun K hK => ?_
    simp [push_cast]
    repeat (refine And.intro (by clear hK; intros; first | omega | (simp_all; done) | (simp_all <;> omega)) ?_)
    refine hK _ ?_; clear hK K; refine Nav.imp ?_
    refine awp_loop (β := Nat × List Run) (fun s => ⟨58, [(0, .d (encRuns l)), (1, .d (.int .i64 1)), (5, .hs 0 0 s.2.length), (6, .d (.int .i64 s.1))], [(0, some ⟨54, 2, dr (s.2.map Run.row)⟩)], 1⟩) (fun s => s.1 ≤ l.length ∧ s.2 = (l.take s.1).flatMap (shrRun 1)) (fun s => l.length - s.1) (0, []) ?_ ⟨Nat.zero_le _, rfl⟩ ?_
    · refine weak_of [(0, none)] rfl (by simp [upT, up, upL, push_cast]) (by simp [upH, upR, upL, up, push_cast]) (by simp [namesOk, push_cast]) (by simp [olds])
    · rintro ⟨k, X⟩ ⟨hk, hX⟩
      simp only at hk hX
      have hXl := hlen k
      rw [← hX, List.length_take] at hXl
      have h16 : (X.length + 1) * 16 ≤ 140737488355328 := by omega
      refine Nav.imp ?_
      refine awp_region cx [] fun K hK => ?_
      simp [push_cast]
      repeat (refine And.intro (by clear hK; intros; first | omega | (simp_all; done) | (simp_all <;> omega)) ?_)
      refine hK _ ?_; clear hK K; refine Nav.imp ?_
      refine awp_cond (b := decide ((k : Int) < l.length)) (by simp [push_cast]) (fun hb => ?_) (fun hb => ?_) <;> (refine Nav.imp ?_)
      · have hlt : k < l.length := by simpa using hb
        obtain ⟨r, hr⟩ := getq hlt
        have e0 := wrap_i64 (n := (k : Int) + 1) (by omega) (by omega)
        have q := hnx k r hr
        rw [← hX] at q
        unfold shrRun at q
        have hb2 := hbd k r hr
        obtain ⟨a, b⟩ := r
        simp only at q hb2
        have w1 := wrap_i64 (n := a + 1) (by omega) (by omega)
        have w2 := wrap_i64 (n := b - 1) (by omega) (by omega)
        have hq2 : (l.take (k + 1)).flatMap (shrRun 1) = X ++ (if a + 1 < b - 1 then [⟨a + 1, b - 1⟩] else []) := q
        clear q
        by_cases hab : a + 1 < b - 1
        · rw [if_pos hab] at hq2
          refine awp_region_draw cx mixed [] fun K hK => ?_
          simp [push_cast, hr, w1, w2, hab, Run.row]
          repeat (refine And.intro (by clear hK; intros; first | omega | (simp_all; done) | (simp_all <;> omega)) ?_)
          refine hK _ _ (by kernel_rfl) ?_; clear hK K; refine Nav.imp ?_
          refine awp_cond (b := true) (by simp [push_cast, hab]) (fun hb => ?_) (fun hb => ?_) <;> (refine Nav.imp ?_)
          · refine awp_region_draw cx mixed [] fun K hK => ?_
            simp [push_cast, hr, w1, w2, h16, Run.row]
            repeat (refine And.intro (by clear hK; intros; first | omega | (simp_all; done) | (simp_all <;> omega)) ?_)
            refine hK _ _ (by kernel_rfl) ?_; clear hK K; refine Nav.imp ?_
            refine awp_region cx [] fun K hK => ?_
            simp [push_cast, e0]
            repeat (refine And.intro (by clear hK; intros; first | omega | (simp_all; done) | (simp_all <;> omega)) ?_)
            refine hK _ ?_; clear hK K; refine Nav.imp ?_
            refine ⟨(k + 1, X ++ [⟨a + 1, b - 1⟩]), ⟨hlt, hq2.symm⟩, by simp only; omega, ?_⟩
            refine weak_of [(0, some 37)] rfl (by simp [upT, up, upL, push_cast, Run.row]) (by simp [upH, upR, upL, up, push_cast, Run.row]) (by simp [namesOk, push_cast]) (by simp [olds])
          · simp at hb
        · rw [if_neg hab, List.append_nil] at hq2
          refine awp_region_draw cx mixed [] fun K hK => ?_
          simp [push_cast, hr, w1, w2, hab, Run.row]
          repeat (refine And.intro (by clear hK; intros; first | omega | (simp_all; done) | (simp_all <;> omega)) ?_)
          refine hK _ _ (by kernel_rfl) ?_; clear hK K; refine Nav.imp ?_
          refine awp_cond (b := false) (by simp [push_cast, hab]) (fun hb => ?_) (fun hb => ?_) <;> (refine Nav.imp ?_)
          · simp at hb
          · refine awp_region cx [] fun K hK => ?_
            simp [push_cast, e0]
            repeat (refine And.intro (by clear hK; intros; first | omega | (simp_all; done) | (simp_all <;> omega)) ?_)
            refine hK _ ?_; clear hK K; refine Nav.imp ?_
            refine ⟨(k + 1, X), ⟨hlt, hq2.symm⟩, by simp only; omega, ?_⟩
            refine weak_of [(0, some 0)] rfl (by simp [upT, up, upL, push_cast]) (by simp [upH, upR, upL, up, push_cast]) (by simp [namesOk, push_cast]) (by simp [olds])
      · have hke : k = l.length := by simp at hb; omega
        subst hke
        rw [hall] at hX
        subst hX
        have ht : List.take X.length (X.map Run.row) = X.map Run.row := List.take_of_length_le (by simp)
        refine awp_region cx [] fun K hK => ?_
        simp [push_cast]
        repeat (refine And.intro (by clear hK; intros; first | omega | (simp_all; done) | (simp_all <;> omega)) ?_)
        refine hK _ ?_; clear hK K; refine Nav.imp ?_
        simp [push_cast, ht]
end Go.Proofs.YtagakfaiimaifaaGreat

set_option linter.unusedVariables false
set_option linter.unusedSimpArgs false
set_option maxRecDepth 100000
namespace Go.Proofs.YtagakfaiimaifaaGreat
open Go.Abs

/-! Runs that overlap or touch are joined. -/
def joinOne (out : List Run) (r : Run) : List Run := match out.getLast? with
  | some q => if r.a ≤ q.b then out.dropLast ++ [⟨q.a, max q.b r.b⟩] else out ++ [r]
  | none => [r]
def joinL (l : List Run) : List Run := l.foldl joinOne []
theorem joinOne_nil (r : Run) : joinOne [] r = [r] := rfl
theorem joinOne_end (o : List Run) (q r : Run) : joinOne (o ++ [q]) r = if r.a ≤ q.b then o ++ [⟨q.a, max q.b r.b⟩] else o ++ [q] ++ [r] := by simp [joinOne]
theorem joinL_take {l : List Run} {k : Nat} {r : Run} (h : l[k]? = some r) : joinL (l.take (k + 1)) = joinOne (joinL (l.take k)) r := by
  unfold joinL; rw [take_get h, List.foldl_append]; rfl
theorem joinOne_len (out : List Run) (r : Run) : (joinOne out r).length ≤ out.length + 1 := by
  rcases List.eq_nil_or_concat out with rfl | ⟨o, q, rfl⟩
  · simp [joinOne_nil]
  · rw [List.concat_eq_append, joinOne_end]; split <;> simp

set_option maxHeartbeats 2000000 in
theorem join_ok (l : List Run) (hl : l.length ≤ 1000000) : PC Tryz.prog 146 [encRuns l] (.p (encRuns (joinL l))) := by
  refine pc_of_awp cx (fn := Tryz.f146) (c := _) Tryz.func146 rfl rfl (Nat.le_of_ble_eq_true rfl) ?_
  rw [Tryz.ntmps146]; refine Nav.imp ?_
  refine awp_region cx [] fun K hK => ?_
  simp [push_cast]
  repeat (refine And.intro (by clear hK; intros; first | omega | (simp_all; done) | (simp_all <;> omega)) ?_)
  refine hK _ ?_; clear hK K; refine Nav.imp ?_
  refine awp_region cx [] fun K hK => ?_
  simp [push_cast]
  repeat (refine And.intro (by clear hK; intros; first | omega | (simp_all; done) | (simp_all <;> omega)) ?_)
  refine hK _ ?_; clear hK K; refine Nav.imp ?_
  refine awp_region cx [] fun K hK => ?_
  simp [push_cast]
  repeat (refine And.intro (by clear hK; intros; first | omega | (simp_all; done) | (simp_all <;> omega)) ?_)
  refine hK _ ?_; clear hK K; refine Nav.imp ?_
  refine awp_loop (β := Nat × List Run) (fun s => ⟨46, [(3, .hs 0 0 s.2.length), (7, .d (encRuns l)), (8, .d (.int .i64 l.length)), (9, .d (.int .i64 s.1))], [(0, some ⟨54, 2, dr (s.2.map Run.row)⟩)], 1⟩) (fun s => s.1 ≤ l.length ∧ s.2.length ≤ s.1 ∧ s.2 = joinL (l.take s.1)) (fun s => l.length - s.1) (0, []) ?_ ⟨Nat.zero_le _, by simp, by simp [joinL]⟩ ?_
  · refine weak_of [(0, none)] rfl (by simp [upT, up, upL, push_cast]) (by simp [upH, upR, upL, up, push_cast]) (by simp [namesOk, push_cast]) (by simp [olds])
  · rintro ⟨i, out⟩ ⟨hi, hol, hZ⟩
    simp only at hi hol hZ
    refine Nav.imp ?_
    refine awp_region cx [] fun K hK => ?_
    simp [push_cast]
    repeat (refine And.intro (by clear hK; intros; first | omega | (simp_all; done) | (simp_all <;> omega)) ?_)
    refine hK _ ?_; clear hK K; refine Nav.imp ?_
    refine awp_cond (b := decide ((i : Int) < l.length)) (by simp [push_cast]) (fun hb => ?_) (fun hb => ?_) <;> (refine Nav.imp ?_)
    · have hlt : i < l.length := by simpa using hb
      obtain ⟨r, hr⟩ := getq hlt
      have e0 := wrap_i64 (n := (i : Int) + 1) (by omega) (by omega)
      have hnx : joinL (l.take (i + 1)) = joinOne out r := by rw [joinL_take hr, hZ]
      have hnl : (joinOne out r).length ≤ i + 1 := Nat.le_trans (joinOne_len out r) (by omega)
      have hO16 : (out.length + 1) * 16 ≤ 140737488355328 := by omega
      clear hZ
      obtain ⟨ra, rb⟩ := r
      rcases List.eq_nil_or_concat out with rfl | ⟨o, q, rfl⟩
      · rw [joinOne_nil] at hnx hnl
        have e1 := wrap_i64 (n := (((0 : Nat)) : Int) - 1) (by omega) (by omega)
        refine awp_region cx [] fun K hK => ?_
        simp [push_cast, hr, Run.row]
        repeat (refine And.intro (by clear hK; intros; first | omega | (simp_all; done) | (simp_all <;> omega)) ?_)
        refine hK _ ?_; clear hK K; refine Nav.imp ?_
        refine awp_region cx [] fun K hK => ?_
        simp [push_cast, e1]
        repeat (refine And.intro (by clear hK; intros; first | omega | (simp_all; done) | (simp_all <;> omega)) ?_)
        refine hK _ ?_; clear hK K; refine Nav.imp ?_
        refine awp_region_draw cx mixed [] fun K hK => ?_
        simp [push_cast]
        repeat (refine And.intro (by clear hK; intros; first | omega | (simp_all; done) | (simp_all <;> omega)) ?_)
        refine hK _ _ (by kernel_rfl) ?_; clear hK K; refine Nav.imp ?_
        refine awp_cond (b := false) (by simp [push_cast]) (fun hb => ?_) (fun hb => ?_) <;> (refine Nav.imp ?_)
        · simp at hb
        · refine awp_region cx [] fun K hK => ?_
          simp [push_cast]
          repeat (refine And.intro (by clear hK; intros; first | omega | (simp_all; done) | (simp_all <;> omega)) ?_)
          refine hK _ ?_; clear hK K; refine Nav.imp ?_
          refine awp_region cx [] fun K hK => ?_
          simp [push_cast, e0]
          repeat (refine And.intro (by clear hK; intros; first | omega | (simp_all; done) | (simp_all <;> omega)) ?_)
          refine hK _ ?_; clear hK K; refine Nav.imp ?_
          refine ⟨(i + 1, [⟨ra, rb⟩]), ⟨hlt, hnl, hnx.symm⟩, by simp only; omega, ?_⟩
          refine weak_of [(0, some 25)] rfl (by simp [upT, up, upL, push_cast, Run.row]) (by simp [upH, upR, upL, up, push_cast, Run.row]) (by simp [namesOk, push_cast]) (by simp [olds])
      · rw [List.concat_eq_append] at *
        rw [joinOne_end] at hnx hnl
        have hz : (o ++ [q])[o.length]? = some q := by simp
        have hlen : (o ++ [q]).length = o.length + 1 := by simp
        obtain ⟨qa, qb⟩ := q
        simp only at hnx hnl
        have hset : ∀ Y : Int, (dr ((o ++ [(⟨qa, qb⟩ : Run)]).map Run.row)).set o.length [.d (.int .i64 qa), .d (.int .i64 Y)] = dr ((o ++ [(⟨qa, Y⟩ : Run)]).map Run.row) := fun Y => by simp [dr, List.map_set, Run.row]
        have hset := hset (max qb rb)
        have e1 := wrap_i64 (n := ((o.length + 1 : Nat) : Int) - 1) (by omega) (by omega)
        have e2 : (((o.length + 1 : Nat) : Int) - 1) = o.length := by omega
        rw [e2] at e1
        have e3 : (0 : Int) ≤ (o.length : Int) := by omega
        have hjl : (o ++ [(⟨qa, max qb rb⟩ : Run)]).length = o.length + 1 := by simp
        generalize hJ : o ++ [(⟨qa, max qb rb⟩ : Run)] = J at *
        generalize hA : o ++ [(⟨qa, qb⟩ : Run)] = A at *
        rw [hlen]
        refine awp_region cx [] fun K hK => ?_
        simp [push_cast, hr, Run.row]
        repeat (refine And.intro (by clear hK; intros; first | omega | (simp_all; done) | (simp_all <;> omega)) ?_)
        refine hK _ ?_; clear hK K; refine Nav.imp ?_
        refine awp_region cx [] fun K hK => ?_
        simp [push_cast, e1, e2]
        repeat (refine And.intro (by clear hK; intros; first | omega | (simp_all; done) | (simp_all <;> omega)) ?_)
        refine hK _ ?_; clear hK K; refine Nav.imp ?_
        refine awp_region_draw cx mixed [] fun K hK => ?_
        simp [push_cast, hz, e1, e2, e3, Run.row]
        repeat (refine And.intro (by clear hK; intros; first | omega | (simp_all; done) | (simp_all <;> omega)) ?_)
        refine hK _ _ (by kernel_rfl) ?_; clear hK K; refine Nav.imp ?_
        refine awp_cond (b := decide (ra ≤ qb)) (by simp [push_cast, e3]) (fun hb => ?_) (fun hb => ?_) <;> (refine Nav.imp ?_)
        · have hq : ra ≤ qb := by simpa using hb
          rw [if_pos hq] at hnx hnl
          refine awp_region_draw cx mixed [] fun K hK => ?_
          simp [push_cast, hz, e1, e2, e3, Run.row, hset]
          repeat (refine And.intro (by clear hK; intros; first | omega | (simp_all; done) | (simp_all <;> omega)) ?_)
          refine hK _ _ (by kernel_rfl) ?_; clear hK K; refine Nav.imp ?_
          refine awp_region cx [] fun K hK => ?_
          simp [push_cast, e0]
          repeat (refine And.intro (by clear hK; intros; first | omega | (simp_all; done) | (simp_all <;> omega)) ?_)
          refine hK _ ?_; clear hK K; refine Nav.imp ?_
          refine ⟨(i + 1, J), ⟨hlt, hnl, hnx.symm⟩, by simp only; omega, ?_⟩
          refine weak_of [(0, some 0)] rfl (by simp [upT, up, upL, push_cast, Run.row, hjl]) (by simp [upH, upR, upL, up, push_cast, Run.row, hjl]) (by simp [namesOk, push_cast]) (by simp [olds])
        · have hq : ¬ ra ≤ qb := by simpa using hb
          rw [if_neg hq] at hnx hnl
          rw [← hlen]
          refine awp_region cx [] fun K hK => ?_
          simp [push_cast, hO16]
          repeat (refine And.intro (by clear hK; intros; first | omega | (simp_all; done) | (simp_all <;> omega)) ?_)
          refine hK _ ?_; clear hK K; refine Nav.imp ?_
          refine awp_region cx [] fun K hK => ?_
          simp [push_cast, e0]
          repeat (refine And.intro (by clear hK; intros; first | omega | (simp_all; done) | (simp_all <;> omega)) ?_)
          refine hK _ ?_; clear hK K; refine Nav.imp ?_
          refine ⟨(i + 1, A ++ [⟨ra, rb⟩]), ⟨hlt, hnl, hnx.symm⟩, by simp only; omega, ?_⟩
          refine weak_of [(0, some 25)] rfl (by simp [upT, up, upL, push_cast, Run.row]) (by simp [upH, upR, upL, up, push_cast, Run.row]) (by simp [namesOk, push_cast]) (by simp [olds])
    · have hge : i = l.length := by simp at hb; omega
      subst hge
      rw [List.take_length] at hZ
      rw [← hZ]
      refine awp_region cx [] fun K hK => ?_
      simp [push_cast]
      repeat (refine And.intro (by clear hK; intros; first | omega | (simp_all; done) | (simp_all <;> omega)) ?_)
      refine hK _ ?_; clear hK K; refine Nav.imp ?_
      have ht : List.take out.length (out.map Run.row) = out.map Run.row := List.take_of_length_le (by simp)
      simp [push_cast, ht]
end Go.Proofs.YtagakfaiimaifaaGreat

set_option linter.unusedVariables false
set_option linter.unusedSimpArgs false
set_option maxRecDepth 100000
namespace Go.Proofs.YtagakfaiimaifaaGreat
open Go.Abs

/-! Runs made longer: which numbers they hold. Maps from rows' numbers to runs. -/
theorem inR_append (C D : List Run) (y : Int) : inR (C ++ D) y = (inR C y || inR D y) := by simp [inR]
theorem inR_one (r : Run) (y : Int) : inR [r] y = (decide (r.a ≤ y) && decide (y < r.b)) := by simp [inR]

theorem joinL_app (l : List Run) (r : Run) : joinL (l ++ [r]) = joinOne (joinL l) r := by simp [joinL]
theorem joinL_facts : ∀ (n : Nat) (l : List Run), l.length = n → (∀ r ∈ l, r.a < r.b) → l.Pairwise (fun p r => p.a ≤ r.a) → Apart (joinL l) ∧ (∀ x, inR (joinL l) x = inR l x) ∧ ∀ q ∈ joinL l, ∃ r ∈ l, q.a = r.a
  | 0, l, hn, _, _ => by
    have : l = [] := List.eq_nil_of_length_eq_zero hn
    subst this
    exact ⟨⟨by simp [joinL], by simp [joinL]⟩, fun x => rfl, by simp [joinL]⟩
  | n + 1, l, hn, hlt, hs => by
    obtain ⟨m, r, rfl⟩ : ∃ m r, l = m ++ [r] := ⟨l.dropLast, l.getLast (by intro e; simp [e] at hn), (List.dropLast_concat_getLast _).symm⟩
    have hs' := List.pairwise_append.1 hs
    obtain ⟨i1, i2, i3⟩ := joinL_facts n m (by simpa using hn) (fun q hq => hlt q (by simp [hq])) hs'.1
    have hr := hlt r (by simp)
    rw [joinL_app]
    by_cases h0 : joinL m = []
    · rw [h0, joinOne_nil]
      refine ⟨⟨by simpa using hr, by simp⟩, fun x => ?_, fun q hq => ⟨r, by simp, by simp at hq; rw [hq]⟩⟩
      rw [inR_append, ← i2, h0]; simp [inR]
    · obtain ⟨o, q, hq⟩ : ∃ o q, joinL m = o ++ [q] := ⟨(joinL m).dropLast, (joinL m).getLast h0, (List.dropLast_concat_getLast h0).symm⟩
      rw [hq] at i1 i2 i3 ⊢
      rw [joinOne_end]
      have hqa : q.a ≤ r.a := by
        obtain ⟨p, hp, e⟩ := i3 q (by simp)
        rw [e]; exact hs'.2.2 p hp r (by simp)
      have hqb := i1.1 q (by simp)
      have ipw := List.pairwise_append.1 i1.2
      split
      · rename_i hle
        refine ⟨⟨fun p hp => ?_, ?_⟩, fun x => ?_, fun p hp => ?_⟩
        · simp only [List.mem_append, List.mem_singleton] at hp
          rcases hp with hp | rfl
          · exact i1.1 p (by simp [hp])
          · simp only; omega
        · refine List.pairwise_append.2 ⟨ipw.1, by simp, fun p hp s hs => ?_⟩
          simp only [List.mem_singleton] at hs
          subst hs
          exact ipw.2.2 p hp q (by simp)
        · rw [inR_append, inR_append, ← i2, inR_append, inR_one, inR_one, inR_one, Bool.or_assoc]
          congr 1
          rw [Bool.eq_iff_iff]
          simp only [Bool.or_eq_true, Bool.and_eq_true, decide_eq_true_eq]
          omega
        · simp only [List.mem_append, List.mem_singleton] at hp
          rcases hp with hp | rfl
          · obtain ⟨s, hs, e⟩ := i3 p (by simp [hp]); exact ⟨s, by simp [hs], e⟩
          · obtain ⟨s, hs, e⟩ := i3 q (by simp); exact ⟨s, by simp [hs], e⟩
      · rename_i hgt
        refine ⟨⟨fun p hp => ?_, ?_⟩, fun x => ?_, fun p hp => ?_⟩
        · simp only [List.mem_append, List.mem_singleton] at hp
          rcases hp with (hp | rfl) | rfl
          · exact i1.1 p (by simp [hp])
          · exact hqb
          · exact hr
        · refine List.pairwise_append.2 ⟨i1.2, by simp, fun p hp s hs => ?_⟩
          simp only [List.mem_singleton] at hs
          subst hs
          simp only [List.mem_append, List.mem_singleton] at hp
          rcases hp with hp | rfl
          · have := ipw.2.2 p hp q (by simp); have := i1.1 q (by simp); omega
          · omega
        · rw [inR_append, i2, inR_append]
        · simp only [List.mem_append, List.mem_singleton] at hp
          rcases hp with (hp | rfl) | rfl
          · obtain ⟨s, hs, e⟩ := i3 p (by simp [hp]); exact ⟨s, by simp [hs], e⟩
          · obtain ⟨s, hs, e⟩ := i3 p (by simp); exact ⟨s, by simp [hs], e⟩
          · exact ⟨p, by simp, rfl⟩

def groRun (k : Int) (r : Run) : Run := ⟨r.a - k, r.b + k⟩
def groL (l : List Run) (k : Int) : List Run := joinL (l.map (groRun k))
theorem groL_facts {l : List Run} (hf : fine l = true) {k : Int} (hk : 0 ≤ k ∧ k ≤ 64) : Apart (groL l k) ∧ (∀ r ∈ groL l k, -4160 ≤ r.a ∧ r.b ≤ 4160) ∧ ∀ x, inR (groL l k) x = true ↔ ∃ r ∈ l, r.a - k ≤ x ∧ x < r.b + k := by
  obtain ⟨_, ha, hb⟩ := fine_apart.1 hf
  obtain ⟨h1, h2, _⟩ := joinL_facts _ (l.map (groRun k)) rfl (fun r hr => by
    obtain ⟨q, hq, rfl⟩ := List.mem_map.1 hr
    have := ha.1 q hq
    simp only [groRun]; omega) (by
    rw [List.pairwise_map]
    refine ha.2.imp_of_mem fun {p r} hp hr h => ?_
    have := ha.1 p hp
    simp only [groRun]; omega)
  have hm : ∀ x, inR (groL l k) x = true ↔ ∃ r ∈ l, r.a - k ≤ x ∧ x < r.b + k := fun x => by
    unfold groL
    rw [h2, inR_iff]
    constructor
    · rintro ⟨r, hr, h⟩
      obtain ⟨q, hq, rfl⟩ := List.mem_map.1 hr
      exact ⟨q, hq, h⟩
    · rintro ⟨q, hq, h⟩
      exact ⟨groRun k q, List.mem_map.2 ⟨q, hq, rfl⟩, h⟩
  refine ⟨h1, apart_bounds h1 fun y hy => ?_, hm⟩
  obtain ⟨r, hr, h3, h4⟩ := (hm y).1 hy
  have := hb r hr
  omega
theorem apart_rv {l : List Run} (h : Apart l) (hb : ∀ r ∈ l, -4160 ≤ r.a ∧ r.b ≤ 4160) : rvalid l = true :=
  rvalid_iff.2 ⟨h, fun r hr => by have := hb r hr; have := h.1 r hr; simp [fitsB]; omega⟩
theorem apart_small {l : List Run} (h : Apart l) (hb : ∀ r ∈ l, -4160 ≤ r.a ∧ r.b ≤ 4160) : l.length ≤ 8320 := by
  have := apart_len h hb; omega

/-- A map from rows' numbers to runs, as its entries. -/
def mpRows (M : List (Int × List Run)) : List (List D) := rowL (fun y => .int .i64 y) encRuns M
def mget (M : List (Int × List Run)) (y : Int) : List Run := (getL M y).getD []
theorem eqK_int (a b : Int) : eqK (.int .i64 a) (.int .i64 b) = some (decide (a = b)) := by
  simp only [eqK, if_true, Option.some.injEq]
  by_cases h : a = b <;> simp [h]
theorem putR_mp (y : Int) (b : List Run) (M : List (Int × List Run)) : putR (.int .i64 y) (.d (.sl (b.map Run.row))) (dr (mpRows M)) = some (dr (mpRows (putL M y b))) :=
  putR_row (kd := fun y => D.int .i64 y) (vd := encRuns) eqK_int y b M
theorem look_mp (y : Int) (M : List (Int × List Run)) : lookIs .nl false (lookA (.int .i64 y) (dr (mpRows M))) (.sl ((mget M y).map Run.row)) = True := by
  rw [show dr (mpRows M) = dr (rowL (fun y => D.int .i64 y) encRuns M) from rfl, lookA_row (kd := fun y => D.int .i64 y) (vd := encRuns) eqK_int y M]
  unfold mget
  cases getL M y <;> simp [lookIs, outD, encRuns]
theorem mp_nil : ([] : List (List AV)) = dr (mpRows []) := rfl
theorem mget_put (M : List (Int × List Run)) (y z : Int) (l : List Run) : mget (putL M y l) z = if z = y then l else mget M z := by
  unfold mget; rw [getL_putL]; split <;> rfl
end Go.Proofs.YtagakfaiimaifaaGreat

set_option linter.unusedVariables false
set_option linter.unusedSimpArgs false
set_option maxRecDepth 100000
namespace Go.Proofs.YtagakfaiimaifaaGreat
open Go.Abs

/-! The runs of a row of a valid region, made longer. -/

set_option maxHeartbeats 1000000 in
theorem grow_ok (l : List Run) (d : Int) (hf : fine l = true) (hl : l.length ≤ 1000000) (hd : 0 ≤ d ∧ d ≤ 64) : PC Tryz.prog 101 [encRuns l, .int .i64 d] (.p (.tup [encRuns (groL l d), .int .i64 0])) := by
  have c1 := rvalid_ok l hl
  have c2 := join_ok (l.map (groRun d)) (by simpa using hl)
  have hG : groL l d = joinL (l.map (groRun d)) := rfl
  rw [← hG] at c2
  generalize groL l d = res at *
  clear hG
  rw [fine_rv hf] at c1
  obtain ⟨f, z, hf0, hz, q1, q2, q3⟩ := fine_ends hf
  have hm1 : 16 * (l.length : Int) ≤ 281474976710656 := by omega
  have hm2 : (l.length : Int) ≤ 9223372036854775807 := by omega
  have e1 := wrap_i64 (n := (l.length : Int) - 1) (by omega) (by omega)
  have e2 : ((l.length : Int) - 1).toNat = l.length - 1 := by omega
  have e3 : (0 : Int) ≤ (l.length : Int) - 1 := by omega
  have e4 : ((l.length : Int) == 0) = false := by simp; rintro rfl; simp at q3
  obtain ⟨fa, fb⟩ := f
  obtain ⟨za, zb⟩ := z
  simp only at q1 q2
  have d1 := wrap_i64 (n := fa - d) (by omega) (by omega)
  have d2 := wrap_i64 (n := zb + d) (by omega) (by omega)
  have n1 : ¬ d < 0 := by omega
  have n2 : ¬ (65536 : Int) < d := by omega
  have n3 : ¬ fa - d < -1048576 := by omega
  have n4 : ¬ (1048576 : Int) < zb + d := by omega
  refine pc_of_awp cx (fn := Tryz.f101) (c := _) Tryz.func101 rfl rfl (Nat.le_of_ble_eq_true rfl) ?_
  rw [Tryz.ntmps101]; refine Nav.imp ?_
  refine awp_region cx [] fun K hK => ?_
  simp [push_cast]
  repeat (refine And.intro (by clear hK; intros; first | omega | (simp_all; done) | (simp_all <;> omega)) ?_)
  refine hK _ ?_; clear hK K; refine Nav.imp ?_
  refine awp_region cx [(1, .p (.bool true))] fun K hK => ?_
  simp [push_cast, c1, n1, n2]
  repeat (refine And.intro (by clear hK; intros; first | omega | (simp_all; done) | (simp_all <;> omega)) ?_)
  refine hK _ ?_; clear hK K; refine Nav.imp ?_
  refine awp_cond (b := false) (by simp [push_cast, n1, n2]) (fun hb => ?_) (fun hb => ?_) <;> (refine Nav.imp ?_)
  · simp at hb
  · refine awp_region cx [] fun K hK => ?_
    simp [push_cast]
    repeat (refine And.intro (by clear hK; intros; first | omega | (simp_all; done) | (simp_all <;> omega)) ?_)
    refine hK _ ?_; clear hK K; refine Nav.imp ?_
    refine awp_cond (b := false) (by simp [push_cast, e4]) (fun hb => ?_) (fun hb => ?_) <;> (refine Nav.imp ?_)
    · simp at hb
    · refine awp_region cx [] fun K hK => ?_
      simp [push_cast, hf0, hz, e1, e2, e3, d1, d2, n3, n4, Run.row]
      repeat (refine And.intro (by clear hK; intros; first | omega | (simp_all; done) | (simp_all <;> omega)) ?_)
      refine hK _ ?_; clear hK K; refine Nav.imp ?_
      refine awp_cond (b := false) (by simp [push_cast, n3, n4]) (fun hb => ?_) (fun hb => ?_) <;> (refine Nav.imp ?_)
      · simp at hb
      · refine awp_region cx [] fun K hK => ?_
        simp [push_cast, hm1, hm2]
        repeat (refine And.intro (by clear hK; intros; first | omega | (simp_all; done) | (simp_all <;> omega)) ?_)
        refine hK _ ?_; clear hK K; refine Nav.imp ?_
        refine awp_region cx [] fun K hK => ?_
        simp [push_cast]
        repeat (refine And.intro (by clear hK; intros; first | omega | (simp_all; done) | (simp_all <;> omega)) ?_)
        refine hK _ ?_; clear hK K; refine Nav.imp ?_
        refine awp_loop (β := Nat × List Run) (fun b => ⟨70, [(1, .d (.int .i64 d)), (6, .hs 0 0 b.2.length), (48, .d (encRuns l)), (49, .d (.int .i64 l.length)), (50, .d (.int .i64 b.1))], [(0, some ⟨54, 2, dr (b.2.map Run.row)⟩)], 1⟩) (fun b => b.1 ≤ l.length ∧ b.2.length = l.length ∧ b.2.take b.1 = (l.take b.1).map (groRun d)) (fun b => l.length - b.1) (0, List.replicate l.length ⟨0, 0⟩) ?_ ⟨Nat.zero_le _, by simp, by simp⟩ ?_
        · have hrep : List.replicate l.length [AV.d (.int .i64 0), AV.d (.int .i64 0)] = dr ((List.replicate l.length (⟨0, 0⟩ : Run)).map Run.row) := by simp [dr, Run.row]
          refine weak_of [(0, some 40)] rfl (by simp [upT, up, upL, push_cast, hrep]) (by simp [upH, upR, upL, up, push_cast, hrep]) (by simp [namesOk, push_cast]) (by simp [olds])
        · rintro ⟨k, Z⟩ ⟨hk, hZl, hZ⟩
          simp only at hk hZl hZ
          refine Nav.imp ?_
          refine awp_region cx [] fun K hK => ?_
          simp [push_cast]
          repeat (refine And.intro (by clear hK; intros; first | omega | (simp_all; done) | (simp_all <;> omega)) ?_)
          refine hK _ ?_; clear hK K; refine Nav.imp ?_
          refine awp_cond (b := decide ((k : Int) < l.length)) (by simp [push_cast]) (fun hb => ?_) (fun hb => ?_) <;> (refine Nav.imp ?_)
          · have hlt : k < l.length := by simpa using hb
            obtain ⟨r, hr⟩ := getq hlt
            have hrb := fine_at hf hr
            have e0 := wrap_i64 (n := (k : Int) + 1) (by omega) (by omega)
            obtain ⟨ra, rb⟩ := r
            simp only at hrb
            have s1 := wrap_i64 (n := ra - d) (by omega) (by omega)
            have s2 := wrap_i64 (n := rb + d) (by omega) (by omega)
            obtain ⟨y, hy⟩ : ∃ y, Z[k]? = some y := getq (by omega)
            obtain ⟨Y, hY⟩ : ∃ Y, Y = Z.set k ⟨ra - d, rb + d⟩ := ⟨_, rfl⟩
            have hset : (dr (Z.map Run.row)).set k [.d (.int .i64 (ra - d)), .d (.int .i64 (rb + d))] = dr (Y.map Run.row) := by rw [hY]; simp [dr, List.map_set]
            have hYl : Y.length = Z.length := by rw [hY]; simp
            have hYt : Y.take (k + 1) = (l.take (k + 1)).map (groRun d) := by
              rw [hY, take_get hr, List.map_append, ← hZ, take_get (x := ⟨ra - d, rb + d⟩) (by rw [List.getElem?_set_self (by omega)]), List.take_set_of_le (by omega)]
              rfl
            clear hY
            refine awp_region cx [] fun K hK => ?_
            simp [push_cast, hr, Run.row]
            repeat (refine And.intro (by clear hK; intros; first | omega | (simp_all; done) | (simp_all <;> omega)) ?_)
            refine hK _ ?_; clear hK K; refine Nav.imp ?_
            refine awp_region cx [] fun K hK => ?_
            simp [push_cast, hy, s1, s2, hset, Run.row]
            repeat (refine And.intro (by clear hK; intros; first | omega | (simp_all; done) | (simp_all <;> omega)) ?_)
            refine hK _ ?_; clear hK K; refine Nav.imp ?_
            refine awp_region cx [] fun K hK => ?_
            simp [push_cast, e0]
            repeat (refine And.intro (by clear hK; intros; first | omega | (simp_all; done) | (simp_all <;> omega)) ?_)
            refine hK _ ?_; clear hK K; refine Nav.imp ?_
            rw [← hYl]
            refine ⟨(k + 1, Y), ⟨hlt, by simp only; omega, hYt⟩, by simp only; omega, ?_⟩
            refine weak_of [(0, some 0)] rfl (by simp [upT, up, upL, push_cast]) (by simp [upH, upR, upL, up, push_cast]) (by simp [namesOk, push_cast]) (by simp [olds])
          · have hge : k = l.length := by simp at hb; omega
            subst hge
            rw [List.take_length, ← hZl, List.take_length] at hZ
            rw [← hZ] at c2
            have ht : List.take Z.length (Z.map Run.row) = Z.map Run.row := List.take_of_length_le (by simp)
            refine awp_freeze 0 (Z.map Run.row) rfl (by simp [push_cast, Run.row, ht]) fun K hK => ?_
            simp [push_cast, St.fz, fzT, fzH, fzO, fz, fzL, fzR, fzR_dr, fzR_app, fzR_set, fzL_map, Run.row, ht]
            refine hK _ ?_; clear hK K; refine Nav.imp ?_
            refine awp_region cx [(1, .p (encRuns res))] fun K hK => ?_
            simp [push_cast, c2, ht]
            repeat (refine And.intro (by clear hK; intros; first | omega | (simp_all; done) | (simp_all <;> omega)) ?_)
            refine hK _ ?_; clear hK K; refine Nav.imp ?_
            simp [push_cast, ht]
end Go.Proofs.YtagakfaiimaifaaGreat

set_option linter.unusedVariables false
set_option linter.unusedSimpArgs false
set_option maxRecDepth 100000
namespace Go.Proofs.YtagakfaiimaifaaGreat
open Go.Abs

/-! What is marked around a region, row by row. -/
def nearStep (g : List Run) (M : List (Int × List Run)) (y : Int) : List (Int × List Run) := putL M y (sweep fU (mget M y) g)
def ysN (y : Int) (K j : Nat) : List Int := (List.range j).map fun i : Nat => y - K + i
def nearRow (K : Nat) (M : List (Int × List Run)) (w : Row) : List (Int × List Run) := (ysN w.y K (2 * K + 1)).foldl (nearStep (groL w.runs K)) M
def nearM (R : List Row) (K : Nat) : List (Int × List Run) := R.foldl (nearRow K) []
theorem ysN_succ (y : Int) (K j : Nat) : ysN y K (j + 1) = ysN y K j ++ [y - K + j] := by simp [ysN, List.range_succ]
theorem nearM_take {R : List Row} {K i : Nat} {w : Row} (h : R[i]? = some w) : nearM (R.take (i + 1)) K = nearRow K (nearM (R.take i) K) w := by simp [nearM, take_get h]
theorem ysN_mem (y : Int) (K : Nat) (z : Int) (j : Nat) : z ∈ ysN y K j ↔ y - K ≤ z ∧ z < y - K + j := by
  simp only [ysN, List.mem_map, List.mem_range]
  constructor
  · rintro ⟨i, hi, rfl⟩; omega
  · intro h; exact ⟨(z - (y - K)).toNat, by omega, by omega⟩
theorem ysN_pw (y : Int) (K j : Nat) : (ysN y K j).Pairwise (· < ·) := by
  simp only [ysN, List.pairwise_map]
  exact List.pairwise_lt_range.imp (fun {a b} h => by omega)

/-- What a map of runs holds. -/
def NI (P : Int → Int → Prop) (M : List (Int × List Run)) : Prop := ∀ y, Apart (mget M y) ∧ (∀ r ∈ mget M y, -4160 ≤ r.a ∧ r.b ≤ 4160) ∧ ∀ x, inR (mget M y) x = true ↔ P y x
theorem NI.nil : NI (fun _ _ => False) [] := fun y => ⟨⟨by simp [mget, getL], by simp [mget, getL]⟩, by simp [mget, getL], by simp [mget, getL, inR]⟩
theorem NI.congr {P Q : Int → Int → Prop} {M : List (Int × List Run)} (h : NI P M) (he : ∀ y x, P y x ↔ Q y x) : NI Q M := fun y => ⟨(h y).1, (h y).2.1, fun x => ((h y).2.2 x).trans (he y x)⟩
theorem NI.step {P : Int → Int → Prop} {M : List (Int × List Run)} (h : NI P M) {g : List Run} (hg : Apart g) (hb : ∀ r ∈ g, -4160 ≤ r.a ∧ r.b ≤ 4160) (z : Int) : NI (fun y x => P y x ∨ (y = z ∧ inR g x = true)) (nearStep g M z) := by
  intro y
  have h1 := h z
  have hs := sweep_facts (f := fU) rfl (apart_rv h1.1 h1.2.1) (apart_rv hg hb)
  unfold nearStep
  rw [mget_put]
  split
  · rename_i e
    subst e
    refine ⟨hs.1, apart_bounds hs.1 fun x hx => ?_, fun x => ?_⟩
    · rw [hs.2] at hx
      simp only [fU, Bool.or_eq_true] at hx
      rcases hx with hx | hx
      · obtain ⟨r, hr, h3, h4⟩ := inR_iff.1 hx; have := h1.2.1 r hr; omega
      · obtain ⟨r, hr, h3, h4⟩ := inR_iff.1 hx; have := hb r hr; omega
    · rw [hs.2]
      simp only [fU, Bool.or_eq_true, true_and, h1.2.2]
  · rename_i e
    refine ⟨(h y).1, (h y).2.1, fun x => ?_⟩
    rw [(h y).2.2]
    simp [e]
theorem NI.fold {g : List Run} (hg : Apart g) (hb : ∀ r ∈ g, -4160 ≤ r.a ∧ r.b ≤ 4160) : ∀ (l : List Int) {P : Int → Int → Prop} {M : List (Int × List Run)}, NI P M → NI (fun y x => P y x ∨ (y ∈ l ∧ inR g x = true)) (l.foldl (nearStep g) M)
  | [], P, M, h => h.congr fun y x => by simp
  | z :: l, P, M, h => (NI.fold hg hb l (h.step hg hb z)).congr fun y x => by
    simp only [List.mem_cons]
    constructor
    · rintro ((h1 | h1) | h1)
      · exact .inl h1
      · exact .inr ⟨.inl h1.1, h1.2⟩
      · exact .inr ⟨.inr h1.1, h1.2⟩
    · rintro (h1 | ⟨h1 | h1, h2⟩)
      · exact .inl (.inl h1)
      · exact .inl (.inr ⟨h1, h2⟩)
      · exact .inr ⟨h1, h2⟩
def nearP (R : List Row) (K : Nat) (y x : Int) : Prop := ∃ w ∈ R, w.y - K ≤ y ∧ y ≤ w.y + K ∧ ∃ r ∈ w.runs, r.a - K ≤ x ∧ x < r.b + K
theorem near_rows {K : Nat} (hK : K ≤ 64) : ∀ (R : List Row) {P : Int → Int → Prop} {M : List (Int × List Run)}, (∀ w ∈ R, fine w.runs = true) → NI P M → NI (fun y x => P y x ∨ nearP R K y x) (R.foldl (nearRow K) M)
  | [], P, M, _, h => h.congr fun y x => by simp [nearP]
  | w :: R, P, M, hf, h => by
    have hw := hf w (by simp)
    obtain ⟨g1, g2, g3⟩ := groL_facts hw (k := K) (by omega)
    refine (near_rows hK R (fun v hv => hf v (by simp [hv])) (NI.fold g1 g2 (ysN w.y K (2 * K + 1)) h)).congr fun y x => ?_
    rw [ysN_mem, g3]
    unfold nearP
    simp only [List.mem_cons, exists_eq_or_imp, or_assoc]
    constructor
    · rintro (h1 | ⟨h1, h2⟩ | h1)
      · exact .inl h1
      · exact .inr (.inl ⟨by omega, by omega, h2⟩)
      · exact .inr (.inr h1)
    · rintro (h1 | ⟨h1, h2, h3⟩ | h1)
      · exact .inl h1
      · exact .inr (.inl ⟨by omega, h3⟩)
      · exact .inr (.inr h1)
theorem near_facts {R : List Row} (hv : validR R = true) {K : Nat} (hK : K ≤ 64) : NI (nearP R K) (nearM R K) :=
  (near_rows hK R (fun w hw => (row_fine hv hw).2) NI.nil).congr fun y x => by simp
/-- .. in the middle of a row. -/
theorem near_mid {R : List Row} (hv : validR R = true) {K : Nat} (hK : K ≤ 64) {i : Nat} {w : Row} (hw : R[i]? = some w) (l : List Int) : ∃ P, NI P (l.foldl (nearStep (groL w.runs K)) (nearM (R.take i) K)) := by
  have h1 := near_rows hK (R.take i) (fun v hv' => (row_fine hv (List.mem_of_mem_take hv')).2) NI.nil
  obtain ⟨g1, g2, _⟩ := groL_facts (row_fine hv (List.mem_of_getElem? hw)).2 (k := K) (by omega)
  exact ⟨_, NI.fold g1 g2 l h1⟩

end Go.Proofs.YtagakfaiimaifaaGreat
