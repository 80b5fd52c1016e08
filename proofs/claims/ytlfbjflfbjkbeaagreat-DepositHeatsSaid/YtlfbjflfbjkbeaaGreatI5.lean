/-
  Texts of this seat put together: P5, P6, R1, R2, R3, R4, R5, P0, Q1, Q2, G1, G2.
-/
import Derived.Test.YtlfbjflfbjkbeaaGreatI4
set_option linter.unusedVariables false
set_option linter.unusedSimpArgs false
set_option maxRecDepth 100000
namespace Go.Proofs.YtlfbjflfbjkbeaaGreat
open Go.Abs

end Go.Proofs.YtlfbjflfbjkbeaaGreat

namespace Go.Proofs.YtlfbjflfbjkbeaaGreat
open Go.Abs

structure Sett where
  pitch : Int
  height : Int
  walls : Int
  top : Int
  bottom : Int
  pattern : Int
  spacing : Int
  support : Bool
  reach : Int
  gap : Int
  brim : Int
  skirt : Int
  drop : Int
  feed : Int
  travel : Int
  retract : Int
  mintime : Int
  minfeed : Int
  nozzle : Int
  bed : Int
abbrev Sett.row (s : Sett) : List D := [.int .i64 s.pitch, .int .i64 s.height, .int .i64 s.walls, .int .i64 s.top, .int .i64 s.bottom, .int .i64 s.pattern, .int .i64 s.spacing, .bool s.support, .int .i64 s.reach, .int .i64 s.gap, .int .i64 s.brim, .int .i64 s.skirt, .int .i64 s.drop, .int .i64 s.feed, .int .i64 s.travel, .int .i64 s.retract, .int .i64 s.mintime, .int .i64 s.minfeed, .int .i64 s.nozzle, .int .i64 s.bed]
def rightB (m : Mach) (s : Sett) : Bool := machB m && decide (32 ≤ s.pitch) && decide (s.pitch ≤ 1024) && decide (4 ≤ s.height) && decide (s.height ≤ 1024)
theorem right_ok (m : Mach) (s : Sett) : PC Tryz.prog 17 [.agg m.row, .agg s.row] (.p (.bool (rightB m s))) := by
  have c1 := kvalid_ok m
  unfold rightB
  generalize machB m = b at *
  refine pc_of_awp cx (fn := Tryz.f17) (c := _) Tryz.func17 rfl rfl (Nat.le_of_ble_eq_true rfl) ?_
  rw [Tryz.ntmps17]; refine Nav.imp ?_
  refine awp_region cx [] fun K hK => ?_
  simp [push_cast]
  repeat (refine And.intro (by clear hK; intros; first | omega | (simp_all; done) | (simp_all <;> omega)) ?_)
  refine hK _ ?_; clear hK K; refine Nav.imp ?_
  refine awp_region cx [(1, .p (.bool b))] fun K hK => ?_
  simp [push_cast, c1]
  repeat (refine And.intro (by clear hK; intros; first | omega | (simp_all; done) | (simp_all <;> omega)) ?_)
  refine hK _ ?_; clear hK K; refine Nav.imp ?_
  simp [push_cast]
def underB (m : Mach) (s : Sett) (x : Pos) : Bool := (posB x && uniB m (corePos m x)) && rightB m s
def underC (m : Mach) (s : Sett) (x : Pos) : Cell := if underB m s x then ⟨unitZ m 0 (corePos m x).p / s.pitch, unitZ m 1 (corePos m x).q / s.pitch⟩ else ⟨0, 0⟩
def layZ (z h : Int) : Int := if 1 ≤ z then (z - 1) / h else -1
def underL (m : Mach) (s : Sett) (x : Pos) : Int := if underB m s x then layZ (unitZ m 2 (corePos m x).r) s.height else -1
theorem unit_range {m : Mach} {n : Int} {k : Nat} (hk : k < 4) (h : unitB m n = true) : -4611686018427387905 ≤ unitZ m k n ∧ unitZ m k n ≤ 4611686018427387905 := by
  simp only [unitB, Bool.and_eq_true] at h
  obtain ⟨⟨f1, f2⟩, f3⟩ := unit_facts h.1 hk h.2
  exact (round_range f1 (by omega) f3).2
def underD (m : Mach) (s : Sett) (x : Pos) : D := .tup [.agg (underC m s x).row, .int .i64 (underL m s x)]
theorem under_cases (m : Mach) (s : Sett) (x : Pos) : ((posB x && uniB m (corePos m x)) = false ∧ positionD m x = vecN ∧ underD m s x = .tup [.agg [.int .i64 0, .int .i64 0], .int .i64 (-1)]) ∨ ((posB x && uniB m (corePos m x)) = true ∧ rightB m s = false ∧ ∃ a b c d : Int, positionD m x = .tup [.agg [.int .i64 a, .int .i64 b, .int .i64 c], .int .i64 d, .int .i64 0] ∧ underD m s x = .tup [.agg [.int .i64 0, .int .i64 0], .int .i64 (-1)]) ∨ ((posB x && uniB m (corePos m x)) = true ∧ rightB m s = true ∧ ∃ a b c d : Int, positionD m x = .tup [.agg [.int .i64 a, .int .i64 b, .int .i64 c], .int .i64 d, .int .i64 0] ∧ underD m s x = .tup [.agg [.int .i64 (a / s.pitch), .int .i64 (b / s.pitch)], .int .i64 (layZ c s.height)] ∧ (-4611686018427387905 ≤ a ∧ a ≤ 4611686018427387905) ∧ (-4611686018427387905 ≤ b ∧ b ≤ 4611686018427387905) ∧ (-4611686018427387905 ≤ c ∧ c ≤ 4611686018427387905) ∧ (32 ≤ s.pitch ∧ s.pitch ≤ 1024) ∧ 4 ≤ s.height ∧ s.height ≤ 1024) := by
  cases h1 : (posB x && uniB m (corePos m x)) with
  | false =>
    refine .inl ⟨rfl, ?_, ?_⟩
    · unfold positionD
      split
      · rename_i h2; rw [h2] at h1; simp only [Bool.true_and] at h1; rw [if_neg (by rw [h1]; simp)]
      · rfl
    · have : underB m s x = false := by simp [underB, h1]
      simp [underD, underC, underL, this]
  | true =>
    have h2 := h1
    simp only [Bool.and_eq_true] at h2
    have hp : positionD m x = vecD m (corePos m x) := by unfold positionD; rw [if_pos h2.1, if_pos h2.2]
    cases hr : rightB m s with
    | false =>
      refine .inr (.inl ⟨rfl, rfl, _, _, _, _, hp, ?_⟩)
      have : underB m s x = false := by simp [underB, hr]
      simp [underD, underC, underL, this]
    | true =>
      have hu := uniB_at.1 h2.2
      have u0 := unit_range (k := 0) (by omega) (hu 0 (by omega))
      have u1 := unit_range (k := 1) (by omega) (hu 1 (by omega))
      have u2 := unit_range (k := 2) (by omega) (hu 2 (by omega))
      simp [rightB] at hr
      refine .inr (.inr ⟨rfl, rfl, _, _, _, _, hp, ?_, u0, u1, u2, by omega, by omega⟩)
      have : underB m s x = true := by simp [underB, h1, rightB, hr]
      simp [underD, underC, underL, this]
theorem lay_range {c h : Int} (hc : -4611686018427387905 ≤ c ∧ c ≤ 4611686018427387905) (hh : 4 ≤ h) : -1 ≤ layZ c h ∧ layZ c h ≤ 4611686018427387905 := by
  unfold layZ
  split
  · have := Int.ediv_le_self h (show 0 ≤ c - 1 by omega)
    have := Int.ediv_nonneg (show 0 ≤ c - 1 by omega) (show 0 ≤ h by omega)
    omega
  · omega
theorem under_ok (m : Mach) (s : Sett) (x : Pos) : PC Tryz.prog 19 [.agg m.row, .agg s.row, .agg x.row] (.p (underD m s x)) := by
  have c1 := position_ok m x
  have c2 := right_ok m s
  rcases under_cases m s x with ⟨_, hp, hd⟩ | ⟨_, hr, a, b, c, d, hp, hd⟩ | ⟨_, hr, a, b, c, d, hp, hd, ha, hb1, hc1, hpi, hh⟩
  · rw [hp] at c1
    rw [hd]
    unfold vecN at c1
    refine pc_of_awp cx (fn := Tryz.f19) (c := _) Tryz.func19 rfl rfl (Nat.le_of_ble_eq_true rfl) ?_
    rw [Tryz.ntmps19]; refine Nav.imp ?_
    refine awp_region cx [] fun K hK => ?_
    simp [push_cast]
    repeat (refine And.intro (by clear hK; intros; first | omega | (simp_all; done) | (simp_all <;> omega)) ?_)
    refine hK _ ?_; clear hK K; refine Nav.imp ?_
    refine awp_region cx [(2, .p (.tup [.agg [.int .i64 0, .int .i64 0, .int .i64 0], .int .i64 0, .int .i64 1]))] fun K hK => ?_
    simp [push_cast, c1]
    repeat (refine And.intro (by clear hK; intros; first | omega | (simp_all; done) | (simp_all <;> omega)) ?_)
    refine hK _ ?_; clear hK K; refine Nav.imp ?_
    refine awp_region cx [(5, .skip)] fun K hK => ?_
    simp [push_cast]
    repeat (refine And.intro (by clear hK; intros; first | omega | (simp_all; done) | (simp_all <;> omega)) ?_)
    refine hK _ ?_; clear hK K; refine Nav.imp ?_
    refine awp_cond (b := true) (by simp [push_cast]) (fun hb => ?_) (fun hb => ?_) <;> (refine Nav.imp ?_)
    · refine awp_region cx [] fun K hK => ?_
      simp [push_cast]
      repeat (refine And.intro (by clear hK; intros; first | omega | (simp_all; done) | (simp_all <;> omega)) ?_)
      refine hK _ ?_; clear hK K; refine Nav.imp ?_
      simp [push_cast]
    · simp at hb
  · rw [hp] at c1
    rw [hr] at c2
    rw [hd]
    refine pc_of_awp cx (fn := Tryz.f19) (c := _) Tryz.func19 rfl rfl (Nat.le_of_ble_eq_true rfl) ?_
    rw [Tryz.ntmps19]; refine Nav.imp ?_
    refine awp_region cx [] fun K hK => ?_
    simp [push_cast]
    repeat (refine And.intro (by clear hK; intros; first | omega | (simp_all; done) | (simp_all <;> omega)) ?_)
    refine hK _ ?_; clear hK K; refine Nav.imp ?_
    refine awp_region cx [(2, .p (.tup [.agg [.int .i64 a, .int .i64 b, .int .i64 c], .int .i64 d, .int .i64 0]))] fun K hK => ?_
    simp [push_cast, c1]
    repeat (refine And.intro (by clear hK; intros; first | omega | (simp_all; done) | (simp_all <;> omega)) ?_)
    refine hK _ ?_; clear hK K; refine Nav.imp ?_
    refine awp_region cx [(5, .p (.bool false))] fun K hK => ?_
    simp [push_cast, c2]
    repeat (refine And.intro (by clear hK; intros; first | omega | (simp_all; done) | (simp_all <;> omega)) ?_)
    refine hK _ ?_; clear hK K; refine Nav.imp ?_
    refine awp_cond (b := true) (by simp [push_cast]) (fun hb => ?_) (fun hb => ?_) <;> (refine Nav.imp ?_)
    · refine awp_region cx [] fun K hK => ?_
      simp [push_cast]
      repeat (refine And.intro (by clear hK; intros; first | omega | (simp_all; done) | (simp_all <;> omega)) ?_)
      refine hK _ ?_; clear hK K; refine Nav.imp ?_
      simp [push_cast]
    · simp at hb
  · rw [hp] at c1
    rw [hr] at c2
    rw [hd]
    have c3 := nfloor_ok a s.pitch (by omega) (by omega) (by omega)
    have c4 := nfloor_ok b s.pitch (by omega) (by omega) (by omega)
    unfold flD at c3 c4
    have hl := lay_range hc1 hh.1
    have hlz : layZ c s.height = if 1 ≤ c then (c - 1) / s.height else -1 := rfl
    generalize a / s.pitch = va at *
    generalize b / s.pitch = vb at *
    refine pc_of_awp cx (fn := Tryz.f19) (c := _) Tryz.func19 rfl rfl (Nat.le_of_ble_eq_true rfl) ?_
    rw [Tryz.ntmps19]; refine Nav.imp ?_
    refine awp_region cx [] fun K hK => ?_
    simp [push_cast]
    repeat (refine And.intro (by clear hK; intros; first | omega | (simp_all; done) | (simp_all <;> omega)) ?_)
    refine hK _ ?_; clear hK K; refine Nav.imp ?_
    refine awp_region cx [(2, .p (.tup [.agg [.int .i64 a, .int .i64 b, .int .i64 c], .int .i64 d, .int .i64 0]))] fun K hK => ?_
    simp [push_cast, c1]
    repeat (refine And.intro (by clear hK; intros; first | omega | (simp_all; done) | (simp_all <;> omega)) ?_)
    refine hK _ ?_; clear hK K; refine Nav.imp ?_
    refine awp_region cx [(5, .p (.bool true))] fun K hK => ?_
    simp [push_cast, c2]
    repeat (refine And.intro (by clear hK; intros; first | omega | (simp_all; done) | (simp_all <;> omega)) ?_)
    refine hK _ ?_; clear hK K; refine Nav.imp ?_
    refine awp_cond (b := false) (by simp [push_cast]) (fun hb => ?_) (fun hb => ?_) <;> (refine Nav.imp ?_)
    · simp at hb
    · refine awp_region cx [(4, .p (.tup [.int .i64 va, .int .i64 0]))] fun K hK => ?_
      simp [push_cast, c3]
      repeat (refine And.intro (by clear hK; intros; first | omega | (simp_all; done) | (simp_all <;> omega)) ?_)
      refine hK _ ?_; clear hK K; refine Nav.imp ?_
      refine awp_region cx [(4, .p (.tup [.int .i64 vb, .int .i64 0]))] fun K hK => ?_
      simp [push_cast, c4]
      repeat (refine And.intro (by clear hK; intros; first | omega | (simp_all; done) | (simp_all <;> omega)) ?_)
      refine hK _ ?_; clear hK K; refine Nav.imp ?_
      refine awp_region cx [] fun K hK => ?_
      simp [push_cast]
      repeat (refine And.intro (by clear hK; intros; first | omega | (simp_all; done) | (simp_all <;> omega)) ?_)
      refine hK _ ?_; clear hK K; refine Nav.imp ?_
      refine awp_region cx [] fun K hK => ?_
      simp [push_cast]
      repeat (refine And.intro (by clear hK; intros; first | omega | (simp_all; done) | (simp_all <;> omega)) ?_)
      refine hK _ ?_; clear hK K; refine Nav.imp ?_
      by_cases q : 1 ≤ c
      · rw [if_pos q] at hlz
        have e1 := wrap_i64 (n := c - 1) (by omega) (by omega)
        have e2 : (c - 1).tdiv s.height = (c - 1) / s.height := Int.tdiv_eq_ediv_of_nonneg (by omega)
        rw [hlz] at hl
        have e3 := wrap_i64 (n := (c - 1) / s.height) (by omega) (by omega)
        have n1 : ¬ s.height = 0 := by omega
        rw [hlz]
        refine awp_cond (b := true) (by simp [push_cast, q]) (fun hb => ?_) (fun hb => ?_) <;> (refine Nav.imp ?_)
        · refine awp_region cx [] fun K hK => ?_
          simp [push_cast, e1, e2, e3, n1]
          repeat (refine And.intro (by clear hK; intros; first | omega | (simp_all; done) | (simp_all <;> omega)) ?_)
          refine hK _ ?_; clear hK K; refine Nav.imp ?_
          refine awp_region cx [] fun K hK => ?_
          simp [push_cast]
          repeat (refine And.intro (by clear hK; intros; first | omega | (simp_all; done) | (simp_all <;> omega)) ?_)
          refine hK _ ?_; clear hK K; refine Nav.imp ?_
          simp [push_cast]
        · simp at hb
      · rw [if_neg q] at hlz
        rw [hlz]
        refine awp_cond (b := false) (by simp [push_cast, q]) (fun hb => ?_) (fun hb => ?_) <;> (refine Nav.imp ?_)
        · simp at hb
        · refine awp_region cx [] fun K hK => ?_
          simp [push_cast]
          repeat (refine And.intro (by clear hK; intros; first | omega | (simp_all; done) | (simp_all <;> omega)) ?_)
          refine hK _ ?_; clear hK K; refine Nav.imp ?_
          simp [push_cast]
end Go.Proofs.YtlfbjflfbjkbeaaGreat

namespace Go.Proofs.YtlfbjflfbjkbeaaGreat
open Go.Abs

def okB (x : Int) : Bool := decide (-4096 ≤ x) && decide (x < 4096)
def fitsB (r : Run) : Bool := decide (-1048576 ≤ r.a) && decide (r.a ≤ 1048576) && decide (-1048576 ≤ r.b) && decide (r.b ≤ 1048576)
def rvAt (l : List Run) (i : Nat) : Bool := match l[i]?, l[i - 1]? with
  | some r, some p => decide (r.a < r.b) && fitsB r && (i == 0 || decide (p.b < r.a))
  | _, _ => false
def rvalid (l : List Run) : Bool := (List.range l.length).all (rvAt l)
def fnAt (l : List Run) (i : Nat) : Bool := match l[i]?, l[i - 1]? with
  | some r, some p => decide (-4096 ≤ r.a) && decide (r.a < r.b) && decide (r.b ≤ 4096) && (i == 0 || decide (p.b < r.a))
  | _, _ => false
def fine (l : List Run) : Bool := (List.range l.length).all (fnAt l) && decide (0 < l.length)
def rowAt (l : List Row) (i : Nat) : Bool := match l[i]?, l[i - 1]? with
  | some r, some p => okB r.y && (i == 0 || decide (p.y < r.y)) && fine r.runs
  | _, _ => false
def validR (l : List Row) : Bool := (List.range l.length).all (rowAt l)

theorem rvAt_some {l : List Run} {i : Nat} {r p : Run} (h : l[i]? = some r) (hp : l[i - 1]? = some p) : rvAt l i = (decide (r.a < r.b) && fitsB r && (i == 0 || decide (p.b < r.a))) := by simp only [rvAt, h, hp]
theorem fnAt_some {l : List Run} {i : Nat} {r p : Run} (h : l[i]? = some r) (hp : l[i - 1]? = some p) : fnAt l i = (decide (-4096 ≤ r.a) && decide (r.a < r.b) && decide (r.b ≤ 4096) && (i == 0 || decide (p.b < r.a))) := by simp only [fnAt, h, hp]
theorem rowAt_some {l : List Row} {i : Nat} {r p : Row} (h : l[i]? = some r) (hp : l[i - 1]? = some p) : rowAt l i = (okB r.y && (i == 0 || decide (p.y < r.y)) && fine r.runs) := by simp only [rowAt, h, hp]

theorem fitsB_bd {r : Run} (h : fitsB r = true) : -1048576 ≤ r.a ∧ r.a ≤ 1048576 ∧ -1048576 ≤ r.b ∧ r.b ≤ 1048576 := by
  simp [fitsB] at h; omega

theorem rvalid_asc {l : List Run} (h : rvalid l = true) : ∀ (j i : Nat) (r p : Run), i ≤ j → l[i]? = some p → l[j]? = some r → p.a ≤ r.a ∧ p.b ≤ r.b
  | 0, i, r, p, hij, hp, hr => by
    have : i = 0 := by omega
    subst this
    rw [hp] at hr; cases hr; exact ⟨Int.le_refl _, Int.le_refl _⟩
  | j + 1, i, r, p, hij, hp, hr => by
    by_cases e : i = j + 1
    · subst e; rw [hp] at hr; cases hr; exact ⟨Int.le_refl _, Int.le_refl _⟩
    · have hj := (List.getElem?_eq_some_iff.1 hr).1
      obtain ⟨q, hq⟩ : ∃ q, l[j]? = some q := getq (by omega)
      have ih := rvalid_asc h j i q p (by omega) hp hq
      have h1 := all_range_at h hj
      have h2 := all_range_at h (show j < l.length by omega)
      obtain ⟨q', hq'⟩ : ∃ q, l[j - 1]? = some q := getq (by omega)
      rw [rvAt_some hr (by simpa using hq)] at h1
      rw [rvAt_some hq hq'] at h2
      simp at h1 h2
      omega
theorem rvalid_at {l : List Run} (h : rvalid l = true) {i : Nat} {r : Run} (hr : l[i]? = some r) : r.a < r.b ∧ fitsB r = true := by
  have hi := (List.getElem?_eq_some_iff.1 hr).1
  obtain ⟨p, hp⟩ : ∃ q, l[i - 1]? = some q := getq (by omega)
  have h1 := all_range_at h hi
  rw [rvAt_some hr hp] at h1
  simp at h1
  exact ⟨h1.1.1, h1.1.2⟩

theorem fine_rv {l : List Run} (h : fine l = true) : rvalid l = true := by
  simp only [fine, Bool.and_eq_true] at h
  apply List.all_eq_true.2
  intro i hi
  have hi : i < l.length := by simpa using hi
  obtain ⟨r, hr⟩ := getq hi
  obtain ⟨p, hp⟩ : ∃ q, l[i - 1]? = some q := getq (by omega)
  have h1 := all_range_at h.1 hi
  rw [fnAt_some hr hp] at h1
  rw [rvAt_some hr hp]
  simp [fitsB] at h1 ⊢
  refine ⟨⟨by omega, by omega⟩, h1.2⟩

theorem fine_iff {l : List Run} {f z : Run} (hf : l[0]? = some f) (hz : l[l.length - 1]? = some z) : fine l = (rvalid l && okB f.a && okB (z.b - 1)) := by
  have hl := (List.getElem?_eq_some_iff.1 hf).1
  apply Bool.eq_iff_iff.2
  constructor
  · intro h
    have h0 := fine_rv h
    simp only [fine, Bool.and_eq_true] at h
    have h1 := all_range_at h.1 hl
    have h2 := all_range_at h.1 (show l.length - 1 < l.length by omega)
    obtain ⟨p, hp⟩ : ∃ q, l[l.length - 1 - 1]? = some q := getq (by omega)
    rw [fnAt_some hf (by simpa using hf)] at h1
    rw [fnAt_some hz hp] at h2
    simp [okB] at h1 h2 ⊢
    exact ⟨⟨h0, by omega⟩, by omega⟩
  · intro h
    simp only [Bool.and_eq_true] at h
    obtain ⟨⟨h0, h1⟩, h2⟩ := h
    simp [okB] at h1 h2
    simp only [fine, Bool.and_eq_true]
    refine ⟨List.all_eq_true.2 fun i hi => ?_, by simpa using hl⟩
    have hi : i < l.length := by simpa using hi
    obtain ⟨r, hr⟩ := getq hi
    obtain ⟨p, hp⟩ : ∃ q, l[i - 1]? = some q := getq (by omega)
    have a1 := rvalid_asc h0 i 0 r f (Nat.zero_le _) hf hr
    have a2 := rvalid_asc h0 (l.length - 1) i z r (by omega) hr hz
    have a3 := rvalid_at h0 hr
    have a4 := all_range_at h0 hi
    rw [rvAt_some hr hp] at a4
    rw [fnAt_some hr hp]
    simp at a4 ⊢
    exact ⟨⟨⟨by omega, a3.1⟩, by omega⟩, a4.2⟩

theorem ok_ok (x : Int) : PC Tryz.prog 58 [.int .i64 x] (.p (.bool (okB x))) := by
  refine pc_of_awp cx (fn := Tryz.f58) (c := _) Tryz.func58 rfl rfl (Nat.le_of_ble_eq_true rfl) ?_
  rw [Tryz.ntmps58]; refine Nav.imp ?_
  refine awp_region cx [] fun K hK => ?_
  simp [push_cast]
  repeat (refine And.intro (by clear hK; intros; first | omega | (simp_all; done) | (simp_all <;> omega)) ?_)
  refine hK _ ?_; clear hK K; refine Nav.imp ?_
  refine awp_region cx [] fun K hK => ?_
  simp [push_cast]
  repeat (refine And.intro (by clear hK; intros; first | omega | (simp_all; done) | (simp_all <;> omega)) ?_)
  refine hK _ ?_; clear hK K; refine Nav.imp ?_
  simp [push_cast, okB]

theorem fits_ok (r : Run) : PC Tryz.prog 70 [.agg r.row] (.p (.bool (fitsB r))) := by
  refine pc_of_awp cx (fn := Tryz.f70) (c := _) Tryz.func70 rfl rfl (Nat.le_of_ble_eq_true rfl) ?_
  rw [Tryz.ntmps70]; refine Nav.imp ?_
  refine awp_region cx [] fun K hK => ?_
  simp [push_cast]
  repeat (refine And.intro (by clear hK; intros; first | omega | (simp_all; done) | (simp_all <;> omega)) ?_)
  refine hK _ ?_; clear hK K; refine Nav.imp ?_
  refine awp_region cx [] fun K hK => ?_
  simp [push_cast]
  repeat (refine And.intro (by clear hK; intros; first | omega | (simp_all; done) | (simp_all <;> omega)) ?_)
  refine hK _ ?_; clear hK K; refine Nav.imp ?_
  simp [push_cast, fitsB, Bool.and_assoc]

theorem rvalid_big (l : List Run) (hl : l.length ≤ 9223372036854775807) : PC Tryz.prog 59 [encRuns l] (.p (.bool (rvalid l))) := by
  refine pc_of_awp cx (fn := Tryz.f59) (c := _) Tryz.func59 rfl rfl (Nat.le_of_ble_eq_true rfl) ?_
  rw [Tryz.ntmps59]; refine Nav.imp ?_
  refine awp_region cx [] fun K hK => ?_
  simp [push_cast]
  repeat (refine And.intro (by clear hK; intros; first | omega | (simp_all; done) | (simp_all <;> omega)) ?_)
  refine hK _ ?_; clear hK K; refine Nav.imp ?_
  refine awp_region cx [] fun K hK => ?_
  simp [push_cast]
  repeat (refine And.intro (by clear hK; intros; first | omega | (simp_all; done) | (simp_all <;> omega)) ?_)
  refine hK _ ?_; clear hK K; refine Nav.imp ?_
  refine awp_loop (β := Nat) (fun k => ⟨38, [(0, .d (encRuns l)), (5, .d (encRuns l)), (6, .d (.int .i64 l.length)), (7, .d (.int .i64 k))], [], 1⟩) (fun k => k ≤ l.length ∧ (List.range k).all (rvAt l) = true) (fun k => l.length - k) 0 ?_ ⟨Nat.zero_le _, rfl⟩ ?_
  · refine weak_of [] rfl (by simp [upT, up, upL, push_cast]) (by simp [upH, upR, upL, up, push_cast]) (by simp [namesOk, push_cast]) (by simp [olds])
  · intro k ⟨hk, hall⟩
    refine Nav.imp ?_
    refine awp_region cx [] fun K hK => ?_
    simp [push_cast]
    repeat (refine And.intro (by clear hK; intros; first | omega | (simp_all; done) | (simp_all <;> omega)) ?_)
    refine hK _ ?_; clear hK K; refine Nav.imp ?_
    refine awp_cond (b := decide ((k : Int) < l.length)) (by simp [push_cast]) (fun hb => ?_) (fun hb => ?_) <;> (refine Nav.imp ?_)
    · have hlt : k < l.length := by simpa using hb
      obtain ⟨r, hr⟩ := getq hlt
      obtain ⟨p, hp⟩ : ∃ p, l[k - 1]? = some p := getq (by omega)
      have e0 := wrap_i64 (n := (k : Int) + 1) (by omega) (by omega)
      have hat := rvAt_some hr hp
      have c1 := fits_ok r
      obtain ⟨ra, rb⟩ := r
      refine awp_region cx [] fun K hK => ?_
      simp [push_cast, hr, Run.row]
      repeat (refine And.intro (by clear hK; intros; first | omega | (simp_all; done) | (simp_all <;> omega)) ?_)
      refine hK _ ?_; clear hK K; refine Nav.imp ?_
      by_cases h1 : ra < rb
      · have h1' : ¬ (rb ≤ ra) := by omega
        generalize hv : fitsB ⟨ra, rb⟩ = v at c1
        rw [hv] at hat
        cases v with
        | true =>
          by_cases hk0 : k = 0
          · subst hk0
            refine awp_region_draw cx mixed [(7, .p (.bool true))] fun K hK => ?_
            simp [push_cast, h1', c1, hr, Run.row]
            repeat (refine And.intro (by clear hK; intros; first | omega | (simp_all; done) | (simp_all <;> omega)) ?_)
            refine hK _ _ (by kernel_rfl) ?_; clear hK K; refine Nav.imp ?_
            refine awp_cond (b := false) (by simp [push_cast]) (fun hb => ?_) (fun hb => ?_) <;> (refine Nav.imp ?_)
            · simp at hb
            · refine awp_region cx [] fun K hK => ?_
              simp [push_cast, e0]
              repeat (refine And.intro (by clear hK; intros; first | omega | (simp_all; done) | (simp_all <;> omega)) ?_)
              refine hK _ ?_; clear hK K; refine Nav.imp ?_
              refine ⟨1, ⟨hlt, by rw [all_range_succ, hall, hat]; simp [h1]⟩, by omega, ?_⟩
              refine weak_of [] rfl (by simp [upT, up, upL, push_cast]) (by simp [upH, upR, upL, up, push_cast]) (by simp [namesOk, push_cast]) (by simp [olds])
          · have e1 := wrap_i64 (n := (k : Int) - 1) (by omega) (by omega)
            have e2 : ((k : Int) - 1).toNat = k - 1 := by omega
            have hk1 : (0 : Int) < k := by omega
            have hk2 : (0 : Int) ≤ k - 1 := by omega
            have hk3 : 0 < k := by omega
            obtain ⟨pa, pb⟩ := p
            refine awp_region_draw cx mixed [(7, .p (.bool true))] fun K hK => ?_
            simp [push_cast, h1', c1, hk1, hk3, hk2, e1, e2, hp, Run.row]
            repeat (refine And.intro (by clear hK; intros; first | omega | (simp_all; done) | (simp_all <;> omega)) ?_)
            refine hK _ _ (by kernel_rfl) ?_; clear hK K; refine Nav.imp ?_
            refine awp_cond (b := decide (ra ≤ pb)) (by simp [push_cast, hk3]) (fun hb => ?_) (fun hb => ?_) <;> (refine Nav.imp ?_)
            · have h3 : ¬ pb < ra := by simpa using hb
              refine awp_region cx [] fun K hK => ?_
              simp [push_cast]
              repeat (refine And.intro (by clear hK; intros; first | omega | (simp_all; done) | (simp_all <;> omega)) ?_)
              refine hK _ ?_; clear hK K; refine Nav.imp ?_
              simp [push_cast]
              refine all_range_false hlt ?_
              rw [hat]; simp [h1, hk0, h3]
            · have h3 : pb < ra := by simpa using hb
              refine awp_region cx [] fun K hK => ?_
              simp [push_cast, e0]
              repeat (refine And.intro (by clear hK; intros; first | omega | (simp_all; done) | (simp_all <;> omega)) ?_)
              refine hK _ ?_; clear hK K; refine Nav.imp ?_
              refine ⟨k + 1, ⟨hlt, by rw [all_range_succ, hall, hat]; simp [h1, h3]⟩, by omega, ?_⟩
              refine weak_of [] rfl (by simp [upT, up, upL, push_cast]) (by simp [upH, upR, upL, up, push_cast]) (by simp [namesOk, push_cast]) (by simp [olds])
        | false =>
          by_cases hk0 : k = 0
          · subst hk0
            refine awp_region_draw cx mixed [(7, .p (.bool false))] fun K hK => ?_
            simp [push_cast, h1', c1, hr, Run.row]
            repeat (refine And.intro (by clear hK; intros; first | omega | (simp_all; done) | (simp_all <;> omega)) ?_)
            refine hK _ _ (by kernel_rfl) ?_; clear hK K; refine Nav.imp ?_
            refine awp_cond (b := true) (by simp [push_cast]) (fun hb => ?_) (fun hb => ?_) <;> (refine Nav.imp ?_)
            · refine awp_region cx [] fun K hK => ?_
              simp [push_cast]
              repeat (refine And.intro (by clear hK; intros; first | omega | (simp_all; done) | (simp_all <;> omega)) ?_)
              refine hK _ ?_; clear hK K; refine Nav.imp ?_
              simp [push_cast]
              refine all_range_false hlt ?_
              rw [hat]; simp
            · simp at hb
          · have e1 := wrap_i64 (n := (k : Int) - 1) (by omega) (by omega)
            have e2 : ((k : Int) - 1).toNat = k - 1 := by omega
            obtain ⟨pa, pb⟩ := p
            refine awp_region_draw cx mixed [(7, .p (.bool false))] fun K hK => ?_
            simp [push_cast, h1', c1, e1, e2, hp, Run.row]
            repeat (refine And.intro (by clear hK; intros; first | omega | (simp_all; done) | (simp_all <;> omega)) ?_)
            refine hK _ _ (by kernel_rfl) ?_; clear hK K; refine Nav.imp ?_
            refine awp_cond (b := true) (by simp [push_cast]) (fun hb => ?_) (fun hb => ?_) <;> (refine Nav.imp ?_)
            · refine awp_region cx [] fun K hK => ?_
              simp [push_cast]
              repeat (refine And.intro (by clear hK; intros; first | omega | (simp_all; done) | (simp_all <;> omega)) ?_)
              refine hK _ ?_; clear hK K; refine Nav.imp ?_
              simp [push_cast]
              refine all_range_false hlt ?_
              rw [hat]; simp
            · simp at hb
      · have h1' : rb ≤ ra := by omega
        have e1 := wrap_i64 (n := (k : Int) - 1) (by omega) (by omega)
        by_cases hk0 : k = 0
        · subst hk0
          refine awp_region_draw cx mixed [(7, .skip)] fun K hK => ?_
          simp [push_cast, h1', hr, Run.row]
          repeat (refine And.intro (by clear hK; intros; first | omega | (simp_all; done) | (simp_all <;> omega)) ?_)
          refine hK _ _ (by kernel_rfl) ?_; clear hK K; refine Nav.imp ?_
          refine awp_cond (b := true) (by simp [push_cast]) (fun hb => ?_) (fun hb => ?_) <;> (refine Nav.imp ?_)
          · refine awp_region cx [] fun K hK => ?_
            simp [push_cast]
            repeat (refine And.intro (by clear hK; intros; first | omega | (simp_all; done) | (simp_all <;> omega)) ?_)
            refine hK _ ?_; clear hK K; refine Nav.imp ?_
            simp [push_cast]
            refine all_range_false hlt ?_
            rw [hat]; simp [h1]
          · simp at hb
        · have e2 : ((k : Int) - 1).toNat = k - 1 := by omega
          obtain ⟨pa, pb⟩ := p
          refine awp_region_draw cx mixed [(7, .skip)] fun K hK => ?_
          simp [push_cast, h1', e1, e2, hp, Run.row]
          repeat (refine And.intro (by clear hK; intros; first | omega | (simp_all; done) | (simp_all <;> omega)) ?_)
          refine hK _ _ (by kernel_rfl) ?_; clear hK K; refine Nav.imp ?_
          refine awp_cond (b := true) (by simp [push_cast]) (fun hb => ?_) (fun hb => ?_) <;> (refine Nav.imp ?_)
          · refine awp_region cx [] fun K hK => ?_
            simp [push_cast]
            repeat (refine And.intro (by clear hK; intros; first | omega | (simp_all; done) | (simp_all <;> omega)) ?_)
            refine hK _ ?_; clear hK K; refine Nav.imp ?_
            simp [push_cast]
            refine all_range_false hlt ?_
            rw [hat]; simp [h1]
          · simp at hb
    · have hge : k = l.length := by simp at hb; omega
      subst hge
      refine awp_region cx [] fun K hK => ?_
      simp [push_cast]
      repeat (refine And.intro (by clear hK; intros; first | omega | (simp_all; done) | (simp_all <;> omega)) ?_)
      refine hK _ ?_; clear hK K; refine Nav.imp ?_
      simp [push_cast]
      exact hall
theorem rvalid_ok (l : List Run) (hl : l.length ≤ 1000000) : PC Tryz.prog 59 [encRuns l] (.p (.bool (rvalid l))) := rvalid_big l (by omega)
end Go.Proofs.YtlfbjflfbjkbeaaGreat

namespace Go.Proofs.YtlfbjflfbjkbeaaGreat
open Go.Abs

set_option maxRecDepth 100000 in
theorem fine_big (l : List Run) (hl : l.length ≤ 9223372036854775807) : PC Tryz.prog 66 [encRuns l] (.p (.bool (fine l))) := by
  refine pc_of_awp cx (fn := Tryz.f66) (c := _) Tryz.func66 rfl rfl (Nat.le_of_ble_eq_true rfl) ?_
  rw [Tryz.ntmps66]; refine Nav.imp ?_
  refine awp_region cx [] fun K hK => ?_
  simp [push_cast]
  repeat (refine And.intro (by clear hK; intros; first | omega | (simp_all; done) | (simp_all <;> omega)) ?_)
  refine hK _ ?_; clear hK K; refine Nav.imp ?_
  refine awp_region cx [] fun K hK => ?_
  simp [push_cast]
  repeat (refine And.intro (by clear hK; intros; first | omega | (simp_all; done) | (simp_all <;> omega)) ?_)
  refine hK _ ?_; clear hK K; refine Nav.imp ?_
  refine awp_loop (β := Nat) (fun k => ⟨58, [(0, .d (encRuns l)), (3, .d (.int .i64 k))], [], 1⟩) (fun k => k ≤ l.length ∧ (List.range k).all (fnAt l) = true) (fun k => l.length - k) 0 ?_ ⟨Nat.zero_le _, rfl⟩ ?_
  · refine weak_of [] rfl (by simp [upT, up, upL, push_cast]) (by simp [upH, upR, upL, up, push_cast]) (by simp [namesOk, push_cast]) (by simp [olds])
  · intro k ⟨hk, hall⟩
    refine Nav.imp ?_
    refine awp_region cx [] fun K hK => ?_
    simp [push_cast]
    repeat (refine And.intro (by clear hK; intros; first | omega | (simp_all; done) | (simp_all <;> omega)) ?_)
    refine hK _ ?_; clear hK K; refine Nav.imp ?_
    refine awp_cond (b := decide ((k : Int) < l.length)) (by simp [push_cast]) (fun hb => ?_) (fun hb => ?_) <;> (refine Nav.imp ?_)
    · have hlt : k < l.length := by simpa using hb
      obtain ⟨r, hr⟩ := getq hlt
      obtain ⟨p, hp⟩ : ∃ p, l[k - 1]? = some p := getq (by omega)
      have e0 := wrap_i64 (n := (k : Int) + 1) (by omega) (by omega)
      have hat := fnAt_some hr hp
      obtain ⟨ra, rb⟩ := r
      by_cases hk0 : k = 0
      · subst hk0
        refine awp_region_draw cx mixed [] fun K hK => ?_
        simp [push_cast, hr, Run.row]
        repeat (refine And.intro (by clear hK; intros; first | omega | (simp_all; done) | (simp_all <;> omega)) ?_)
        refine hK _ _ (by kernel_rfl) ?_; clear hK K; refine Nav.imp ?_
        refine awp_cond (by simp [push_cast] <;> exact rfl) (fun hb => ?_) (fun hb => ?_) <;> (refine Nav.imp ?_)
        · simp at hb
          refine awp_region cx [] fun K hK => ?_
          simp [push_cast]
          repeat (refine And.intro (by clear hK; intros; first | omega | (simp_all; done) | (simp_all <;> omega)) ?_)
          refine hK _ ?_; clear hK K; refine Nav.imp ?_
          simp [push_cast]
          simp only [fine, Bool.and_eq_false_iff]
          refine .inl (all_range_false hlt ?_)
          rw [hat]; simp; omega
        · simp at hb
          refine awp_region cx [] fun K hK => ?_
          simp [push_cast, e0]
          repeat (refine And.intro (by clear hK; intros; first | omega | (simp_all; done) | (simp_all <;> omega)) ?_)
          refine hK _ ?_; clear hK K; refine Nav.imp ?_
          refine ⟨1, ⟨hlt, by rw [all_range_succ, hall, hat]; simp; omega⟩, by omega, ?_⟩
          refine weak_of [] rfl (by simp [upT, up, upL, push_cast]) (by simp [upH, upR, upL, up, push_cast]) (by simp [namesOk, push_cast]) (by simp [olds])
      · have e1 := wrap_i64 (n := (k : Int) - 1) (by omega) (by omega)
        have e2 : ((k : Int) - 1).toNat = k - 1 := by omega
        have hk1 : (0 : Int) < k := by omega
        have hk2 : (0 : Int) ≤ k - 1 := by omega
        have hk3 : 0 < k := by omega
        obtain ⟨pa, pb⟩ := p
        refine awp_region_draw cx mixed [] fun K hK => ?_
        simp [push_cast, hr, hp, Run.row, e1, e2, hk1, hk2, hk3]
        repeat (refine And.intro (by clear hK; intros; first | omega | (simp_all; done) | (simp_all <;> omega)) ?_)
        refine hK _ _ (by kernel_rfl) ?_; clear hK K; refine Nav.imp ?_
        refine awp_cond (by simp [push_cast] <;> exact rfl) (fun hb => ?_) (fun hb => ?_) <;> (refine Nav.imp ?_)
        · simp [hk3] at hb
          refine awp_region cx [] fun K hK => ?_
          simp [push_cast]
          repeat (refine And.intro (by clear hK; intros; first | omega | (simp_all; done) | (simp_all <;> omega)) ?_)
          refine hK _ ?_; clear hK K; refine Nav.imp ?_
          simp [push_cast]
          simp only [fine, Bool.and_eq_false_iff]
          refine .inl (all_range_false hlt ?_)
          rw [hat]; simp [hk0]; omega
        · simp [hk3] at hb
          refine awp_region cx [] fun K hK => ?_
          simp [push_cast, e0]
          repeat (refine And.intro (by clear hK; intros; first | omega | (simp_all; done) | (simp_all <;> omega)) ?_)
          refine hK _ ?_; clear hK K; refine Nav.imp ?_
          refine ⟨k + 1, ⟨hlt, by rw [all_range_succ, hall, hat]; simp [hk0]; omega⟩, by omega, ?_⟩
          refine weak_of [] rfl (by simp [upT, up, upL, push_cast]) (by simp [upH, upR, upL, up, push_cast]) (by simp [namesOk, push_cast]) (by simp [olds])
    · have hge : k = l.length := by simp at hb; omega
      subst hge
      refine awp_region cx [] fun K hK => ?_
      simp [push_cast]
      repeat (refine And.intro (by clear hK; intros; first | omega | (simp_all; done) | (simp_all <;> omega)) ?_)
      refine hK _ ?_; clear hK K; refine Nav.imp ?_
      simp [push_cast, fine, hall]

def smallR (R : List Row) : Prop := R.length ≤ 1000000 ∧ ∀ w ∈ R, w.runs.length ≤ 1000000
def bigR (R : List Row) : Prop := R.length ≤ 9223372036854775807 ∧ ∀ w ∈ R, w.runs.length ≤ 9223372036854775807
theorem big_of {R : List Row} (h : smallR R) : bigR R := ⟨by have := h.1; omega, fun w hw => by have := h.2 w hw; omega⟩

theorem validR_big (R : List Row) (hR : bigR R) : PC Tryz.prog 46 [.agg (regRow R)] (.p (.bool (validR R))) := by
  have hl := hR.1
  refine pc_of_awp cx (fn := Tryz.f46) (c := _) Tryz.func46 rfl rfl (Nat.le_of_ble_eq_true rfl) ?_
  rw [Tryz.ntmps46]; refine Nav.imp ?_
  refine awp_region cx [] fun K hK => ?_
  simp [push_cast]
  repeat (refine And.intro (by clear hK; intros; first | omega | (simp_all; done) | (simp_all <;> omega)) ?_)
  refine hK _ ?_; clear hK K; refine Nav.imp ?_
  refine awp_region cx [] fun K hK => ?_
  simp [push_cast]
  repeat (refine And.intro (by clear hK; intros; first | omega | (simp_all; done) | (simp_all <;> omega)) ?_)
  refine hK _ ?_; clear hK K; refine Nav.imp ?_
  refine awp_loop (β := Nat) (fun k => ⟨49, [(1, .ptr 0 0 0), (3, .d (.int .i64 k))], [(0, some ⟨48, 1, [(regRow R).map .d]⟩)], 1⟩) (fun k => k ≤ R.length ∧ (List.range k).all (rowAt R) = true) (fun k => R.length - k) 0 ?_ ⟨Nat.zero_le _, rfl⟩ ?_
  · refine weak_of [(0, some 0)] rfl (by simp [upT, up, upL, push_cast]) (by simp [upH, upR, upL, up, push_cast]) (by simp [namesOk, push_cast]) (by simp [olds])
  · intro k ⟨hk, hall⟩
    refine Nav.imp ?_
    refine awp_region cx [] fun K hK => ?_
    simp [push_cast]
    repeat (refine And.intro (by clear hK; intros; first | omega | (simp_all; done) | (simp_all <;> omega)) ?_)
    refine hK _ ?_; clear hK K; refine Nav.imp ?_
    refine awp_cond (b := decide ((k : Int) < R.length)) (by simp [push_cast]) (fun hb => ?_) (fun hb => ?_) <;> (refine Nav.imp ?_)
    · have hlt : k < R.length := by simpa using hb
      obtain ⟨r, hr⟩ := getq hlt
      obtain ⟨p, hp⟩ : ∃ p, R[k - 1]? = some p := getq (by omega)
      have e0 := wrap_i64 (n := (k : Int) + 1) (by omega) (by omega)
      have hat := rowAt_some hr hp
      have c1 := fine_big r.runs (hR.2 r (List.mem_of_getElem? hr))
      obtain ⟨y, ru⟩ := r
      simp only at c1 hat
      generalize hv : fine ru = v at c1
      rw [hv] at hat
      refine awp_region cx [] fun K hK => ?_
      simp [push_cast, hr, Row.row]
      repeat (refine And.intro (by clear hK; intros; first | omega | (simp_all; done) | (simp_all <;> omega)) ?_)
      refine hK _ ?_; clear hK K; refine Nav.imp ?_
      by_cases h1 : okB y = true
      · simp [okB] at h1
        have h1a : ¬ y < -4096 := by omega
        have h1b : ¬ (4096 ≤ y) := by omega
        have h1c : okB y = true := by simp [okB]; omega
        by_cases hk0 : k = 0
        · subst hk0
          refine awp_region cx [(28, .p (.bool v))] fun K hK => ?_
          simp [push_cast, h1a, h1b, hr, Row.row, c1]
          repeat (refine And.intro (by clear hK; intros; first | omega | (simp_all; done) | (simp_all <;> omega)) ?_)
          refine hK _ ?_; clear hK K; refine Nav.imp ?_
          refine awp_cond (b := !v) (by simp [push_cast]) (fun hb => ?_) (fun hb => ?_) <;> (refine Nav.imp ?_)
          · simp at hb
            refine awp_region cx [] fun K hK => ?_
            simp [push_cast]
            repeat (refine And.intro (by clear hK; intros; first | omega | (simp_all; done) | (simp_all <;> omega)) ?_)
            refine hK _ ?_; clear hK K; refine Nav.imp ?_
            simp [push_cast]
            exact all_range_false hlt (by rw [hat, hb]; simp)
          · simp at hb
            refine awp_region cx [] fun K hK => ?_
            simp [push_cast, e0]
            repeat (refine And.intro (by clear hK; intros; first | omega | (simp_all; done) | (simp_all <;> omega)) ?_)
            refine hK _ ?_; clear hK K; refine Nav.imp ?_
            refine ⟨1, ⟨hlt, by rw [all_range_succ, hall, hat]; simp [h1c, hb]⟩, by omega, ?_⟩
            refine weak_of [(0, some 0)] rfl (by simp [upT, up, upL, push_cast]) (by simp [upH, upR, upL, up, push_cast]) (by simp [namesOk, push_cast]) (by simp [olds])
        · have e1 := wrap_i64 (n := (k : Int) - 1) (by omega) (by omega)
          have e2 : ((k : Int) - 1).toNat = k - 1 := by omega
          have hk1 : (0 : Int) < k := by omega
          have hk2 : (0 : Int) ≤ k - 1 := by omega
          have hk3 : 0 < k := by omega
          obtain ⟨py, pr⟩ := p
          by_cases h2 : py < y
          · have h2' : ¬ (y ≤ py) := by omega
            refine awp_region cx [(28, .p (.bool v))] fun K hK => ?_
            simp [push_cast, h1a, h1b, hr, hp, Row.row, c1, hk1, hk3, e1, e2, hk2, h2']
            repeat (refine And.intro (by clear hK; intros; first | omega | (simp_all; done) | (simp_all <;> omega)) ?_)
            refine hK _ ?_; clear hK K; refine Nav.imp ?_
            refine awp_cond (b := !v) (by simp [push_cast]) (fun hb => ?_) (fun hb => ?_) <;> (refine Nav.imp ?_)
            · simp at hb
              refine awp_region cx [] fun K hK => ?_
              simp [push_cast]
              repeat (refine And.intro (by clear hK; intros; first | omega | (simp_all; done) | (simp_all <;> omega)) ?_)
              refine hK _ ?_; clear hK K; refine Nav.imp ?_
              simp [push_cast]
              exact all_range_false hlt (by rw [hat, hb]; simp)
            · simp at hb
              refine awp_region cx [] fun K hK => ?_
              simp [push_cast, e0]
              repeat (refine And.intro (by clear hK; intros; first | omega | (simp_all; done) | (simp_all <;> omega)) ?_)
              refine hK _ ?_; clear hK K; refine Nav.imp ?_
              refine ⟨k + 1, ⟨hlt, by rw [all_range_succ, hall, hat]; simp [h1c, hb, h2]⟩, by omega, ?_⟩
              refine weak_of [(0, some 0)] rfl (by simp [upT, up, upL, push_cast]) (by simp [upH, upR, upL, up, push_cast]) (by simp [namesOk, push_cast]) (by simp [olds])
          · have h2' : y ≤ py := by omega
            refine awp_region cx [(28, .skip)] fun K hK => ?_
            simp [push_cast, h1a, h1b, hr, hp, Row.row, c1, hk1, hk3, e1, e2, hk2, h2']
            repeat (refine And.intro (by clear hK; intros; first | omega | (simp_all; done) | (simp_all <;> omega)) ?_)
            refine hK _ ?_; clear hK K; refine Nav.imp ?_
            refine awp_cond (b := true) (by simp [push_cast]) (fun hb => ?_) (fun hb => ?_) <;> (refine Nav.imp ?_)
            · refine awp_region cx [] fun K hK => ?_
              simp [push_cast]
              repeat (refine And.intro (by clear hK; intros; first | omega | (simp_all; done) | (simp_all <;> omega)) ?_)
              refine hK _ ?_; clear hK K; refine Nav.imp ?_
              simp [push_cast]
              exact all_range_false hlt (by rw [hat]; simp [h2, hk0])
            · simp at hb
      · have hF : rowAt R k = false := by rw [hat]; simp [h1]
        by_cases h1a : y < -4096
        · by_cases hk0 : k = 0
          · subst hk0
            refine awp_region cx [(28, .skip)] fun K hK => ?_
            simp [push_cast, h1a, hr, Row.row]
            repeat (refine And.intro (by clear hK; intros; first | omega | (simp_all; done) | (simp_all <;> omega)) ?_)
            refine hK _ ?_; clear hK K; refine Nav.imp ?_
            refine awp_cond (b := true) (by simp [push_cast]) (fun hb => ?_) (fun hb => ?_) <;> (refine Nav.imp ?_)
            · refine awp_region cx [] fun K hK => ?_
              simp [push_cast]
              repeat (refine And.intro (by clear hK; intros; first | omega | (simp_all; done) | (simp_all <;> omega)) ?_)
              refine hK _ ?_; clear hK K; refine Nav.imp ?_
              simp [push_cast]
              exact all_range_false hlt hF
            · simp at hb
          · have e1 := wrap_i64 (n := (k : Int) - 1) (by omega) (by omega)
            have e2 : ((k : Int) - 1).toNat = k - 1 := by omega
            obtain ⟨py, pr⟩ := p
            refine awp_region cx [(28, .skip)] fun K hK => ?_
            simp [push_cast, h1a, hr, hp, e1, e2, Row.row]
            repeat (refine And.intro (by clear hK; intros; first | omega | (simp_all; done) | (simp_all <;> omega)) ?_)
            refine hK _ ?_; clear hK K; refine Nav.imp ?_
            refine awp_cond (b := true) (by simp [push_cast]) (fun hb => ?_) (fun hb => ?_) <;> (refine Nav.imp ?_)
            · refine awp_region cx [] fun K hK => ?_
              simp [push_cast]
              repeat (refine And.intro (by clear hK; intros; first | omega | (simp_all; done) | (simp_all <;> omega)) ?_)
              refine hK _ ?_; clear hK K; refine Nav.imp ?_
              simp [push_cast]
              exact all_range_false hlt hF
            · simp at hb
        · have h1b : 4096 ≤ y := by simp [okB] at h1; omega
          by_cases hk0 : k = 0
          · subst hk0
            refine awp_region cx [(28, .skip)] fun K hK => ?_
            simp [push_cast, h1a, h1b, hr, Row.row]
            repeat (refine And.intro (by clear hK; intros; first | omega | (simp_all; done) | (simp_all <;> omega)) ?_)
            refine hK _ ?_; clear hK K; refine Nav.imp ?_
            refine awp_cond (b := true) (by simp [push_cast]) (fun hb => ?_) (fun hb => ?_) <;> (refine Nav.imp ?_)
            · refine awp_region cx [] fun K hK => ?_
              simp [push_cast]
              repeat (refine And.intro (by clear hK; intros; first | omega | (simp_all; done) | (simp_all <;> omega)) ?_)
              refine hK _ ?_; clear hK K; refine Nav.imp ?_
              simp [push_cast]
              exact all_range_false hlt hF
            · simp at hb
          · have e1 := wrap_i64 (n := (k : Int) - 1) (by omega) (by omega)
            have e2 : ((k : Int) - 1).toNat = k - 1 := by omega
            obtain ⟨py, pr⟩ := p
            refine awp_region cx [(28, .skip)] fun K hK => ?_
            simp [push_cast, h1a, h1b, hr, hp, e1, e2, Row.row]
            repeat (refine And.intro (by clear hK; intros; first | omega | (simp_all; done) | (simp_all <;> omega)) ?_)
            refine hK _ ?_; clear hK K; refine Nav.imp ?_
            refine awp_cond (b := true) (by simp [push_cast]) (fun hb => ?_) (fun hb => ?_) <;> (refine Nav.imp ?_)
            · refine awp_region cx [] fun K hK => ?_
              simp [push_cast]
              repeat (refine And.intro (by clear hK; intros; first | omega | (simp_all; done) | (simp_all <;> omega)) ?_)
              refine hK _ ?_; clear hK K; refine Nav.imp ?_
              simp [push_cast]
              exact all_range_false hlt hF
            · simp at hb
    · have hge : k = R.length := by simp at hb; omega
      subst hge
      refine awp_region cx [] fun K hK => ?_
      simp [push_cast]
      repeat (refine And.intro (by clear hK; intros; first | omega | (simp_all; done) | (simp_all <;> omega)) ?_)
      refine hK _ ?_; clear hK K; refine Nav.imp ?_
      simp [push_cast, validR, hall]

theorem rows_at (R : List Row) {k : Nat} {r p : Row} {f z : Run} (hr : R[k]? = some r) (hp : R[k - 1]? = some p) (hf : r.runs[0]? = some f) (hz : r.runs[r.runs.length - 1]? = some z) :
    rowAt R k = (okB r.y && (k == 0 || decide (p.y < r.y)) && rvalid r.runs && okB f.a && okB (z.b - 1)) := by
  rw [rowAt_some hr hp, fine_iff hf hz]
  simp only [Bool.and_assoc]
theorem rows_nil (R : List Row) {k : Nat} {r : Row} (hr : R[k]? = some r) (h : r.runs = []) : rowAt R k = false := by
  have := (List.getElem?_eq_some_iff.1 hr).1
  obtain ⟨p, hp⟩ : ∃ p, R[k - 1]? = some p := getq (by omega)
  rw [rowAt_some hr hp, h]; simp [fine]

set_option maxHeartbeats 1000000 in
theorem valid_big (R : List Row) (hR : bigR R) : PC Tryz.prog 39 [.agg (regRow R)] (.p (.bool (validR R))) := by
  have hl := hR.1
  refine pc_of_awp cx (fn := Tryz.f39) (c := _) Tryz.func39 rfl rfl (Nat.le_of_ble_eq_true rfl) ?_
  rw [Tryz.ntmps39]; refine Nav.imp ?_
  refine awp_region cx [] fun K hK => ?_
  simp [push_cast]
  repeat (refine And.intro (by clear hK; intros; first | omega | (simp_all; done) | (simp_all <;> omega)) ?_)
  refine hK _ ?_; clear hK K; refine Nav.imp ?_
  refine awp_region cx [] fun K hK => ?_
  simp [push_cast]
  repeat (refine And.intro (by clear hK; intros; first | omega | (simp_all; done) | (simp_all <;> omega)) ?_)
  refine hK _ ?_; clear hK K; refine Nav.imp ?_
  refine awp_loop (β := Nat) (fun k => ⟨67, [(1, .ptr 0 0 0), (6, .d (encRows R)), (7, .d (.int .i64 R.length)), (8, .d (.int .i64 k))], [(0, some ⟨48, 1, [(regRow R).map .d]⟩)], 1⟩) (fun k => k ≤ R.length ∧ (List.range k).all (rowAt R) = true) (fun k => R.length - k) 0 ?_ ⟨Nat.zero_le _, rfl⟩ ?_
  · refine weak_of [(0, some 0)] rfl (by simp [upT, up, upL, push_cast]) (by simp [upH, upR, upL, up, push_cast]) (by simp [namesOk, push_cast]) (by simp [olds])
  · intro k ⟨hk, hall⟩
    refine Nav.imp ?_
    refine awp_region cx [] fun K hK => ?_
    simp [push_cast]
    repeat (refine And.intro (by clear hK; intros; first | omega | (simp_all; done) | (simp_all <;> omega)) ?_)
    refine hK _ ?_; clear hK K; refine Nav.imp ?_
    refine awp_cond (b := decide ((k : Int) < R.length)) (by simp [push_cast]) (fun hb => ?_) (fun hb => ?_) <;> (refine Nav.imp ?_)
    · have hlt : k < R.length := by simpa using hb
      obtain ⟨r, hr⟩ := getq hlt
      obtain ⟨p, hp⟩ : ∃ p, R[k - 1]? = some p := getq (by omega)
      have e0 := wrap_i64 (n := (k : Int) + 1) (by omega) (by omega)
      have e1 := wrap_i64 (n := (k : Int) - 1) (by omega) (by omega)
      have hrl := hR.2 r (List.mem_of_getElem? hr)
      have c1 := ok_ok r.y
      have c2 := rvalid_big r.runs hrl
      have hnil := rows_nil R hr
      have hcons := fun f z => @rows_at R k r p f z hr hp
      obtain ⟨y, ru⟩ := r
      obtain ⟨py, pr⟩ := p
      simp only at c1 c2 hnil hcons hrl
      have hno : rowAt R k = false → validR R = false := fun h => all_range_false hlt h
      have hy : okB y = false → rowAt R k = false := fun h => by rw [rowAt_some hr hp]; simp [h]
      have hpy : k ≠ 0 → y ≤ py → rowAt R k = false := fun h0 h => by rw [rowAt_some hr hp]; simp [h0, show ¬ py < y by omega]
      have hrv : rvalid ru = false → rowAt R k = false := fun h => by
        cases hru : ru with
        | nil => exact hnil hru
        | cons a b =>
          obtain ⟨f, hf⟩ : ∃ f, ru[0]? = some f := getq (by rw [hru]; simp)
          obtain ⟨z, hz⟩ : ∃ f, ru[ru.length - 1]? = some f := getq (by rw [hru]; simp)
          rw [hcons f z hf hz, h]; simp
      generalize okB y = oy at *
      generalize hrvd : rvalid ru = rv at c2 hrv hcons
      refine awp_region cx [] fun K hK => ?_
      simp [push_cast, hr, Row.row]
      repeat (refine And.intro (by clear hK; intros; first | omega | (simp_all; done) | (simp_all <;> omega)) ?_)
      refine hK _ ?_; clear hK K; refine Nav.imp ?_
      cases oy with
      | false =>
        by_cases hk0 : k = 0
        · subst hk0
          refine awp_region_draw cx mixed [(2, .p (.bool false)), (29, .skip)] fun K hK => ?_
          simp [push_cast, c1, hr, Row.row]
          repeat (refine And.intro (by clear hK; intros; first | omega | (simp_all; done) | (simp_all <;> omega)) ?_)
          refine hK _ _ (by kernel_rfl) ?_; clear hK K; refine Nav.imp ?_
          refine awp_cond (b := true) (by simp [push_cast]) (fun hb => ?_) (fun hb => ?_) <;> (refine Nav.imp ?_)
          · refine awp_region cx [] fun K hK => ?_
            simp [push_cast]
            repeat (refine And.intro (by clear hK; intros; first | omega | (simp_all; done) | (simp_all <;> omega)) ?_)
            refine hK _ ?_; clear hK K; refine Nav.imp ?_
            simp [push_cast]
            exact hno (hy rfl)
          · simp at hb
        · have e2 : ((k : Int) - 1).toNat = k - 1 := by omega
          refine awp_region_draw cx mixed [(2, .p (.bool false)), (29, .skip)] fun K hK => ?_
          simp [push_cast, c1, hp, e1, e2, Row.row]
          repeat (refine And.intro (by clear hK; intros; first | omega | (simp_all; done) | (simp_all <;> omega)) ?_)
          refine hK _ _ (by kernel_rfl) ?_; clear hK K; refine Nav.imp ?_
          refine awp_cond (b := true) (by simp [push_cast]) (fun hb => ?_) (fun hb => ?_) <;> (refine Nav.imp ?_)
          · refine awp_region cx [] fun K hK => ?_
            simp [push_cast]
            repeat (refine And.intro (by clear hK; intros; first | omega | (simp_all; done) | (simp_all <;> omega)) ?_)
            refine hK _ ?_; clear hK K; refine Nav.imp ?_
            simp [push_cast]
            exact hno (hy rfl)
          · simp at hb
      | true =>
        cases hru : ru with
        | nil =>
          subst hru
          by_cases hk0 : k = 0
          · subst hk0
            refine awp_region_draw cx mixed [(2, .p (.bool true)), (29, .skip)] fun K hK => ?_
            simp [push_cast, c1, hr, Row.row]
            repeat (refine And.intro (by clear hK; intros; first | omega | (simp_all; done) | (simp_all <;> omega)) ?_)
            refine hK _ _ (by kernel_rfl) ?_; clear hK K; refine Nav.imp ?_
            refine awp_cond (b := true) (by simp [push_cast]) (fun hb => ?_) (fun hb => ?_) <;> (refine Nav.imp ?_)
            · refine awp_region cx [] fun K hK => ?_
              simp [push_cast]
              repeat (refine And.intro (by clear hK; intros; first | omega | (simp_all; done) | (simp_all <;> omega)) ?_)
              refine hK _ ?_; clear hK K; refine Nav.imp ?_
              simp [push_cast]
              exact hno (hnil rfl)
            · simp at hb
          · have e2 : ((k : Int) - 1).toNat = k - 1 := by omega
            have hk1 : (0 : Int) < k := by omega
            have hk2 : (0 : Int) ≤ k - 1 := by omega
            have hk3 : 0 < k := by omega
            by_cases h2 : y ≤ py
            · refine awp_region_draw cx mixed [(2, .p (.bool true)), (29, .skip)] fun K hK => ?_
              simp [push_cast, c1, hp, e1, e2, hk1, hk2, hk3, h2, Row.row]
              repeat (refine And.intro (by clear hK; intros; first | omega | (simp_all; done) | (simp_all <;> omega)) ?_)
              refine hK _ _ (by kernel_rfl) ?_; clear hK K; refine Nav.imp ?_
              refine awp_cond (b := true) (by simp [push_cast]) (fun hb => ?_) (fun hb => ?_) <;> (refine Nav.imp ?_)
              · refine awp_region cx [] fun K hK => ?_
                simp [push_cast]
                repeat (refine And.intro (by clear hK; intros; first | omega | (simp_all; done) | (simp_all <;> omega)) ?_)
                refine hK _ ?_; clear hK K; refine Nav.imp ?_
                simp [push_cast]
                exact hno (hnil rfl)
              · simp at hb
            · refine awp_region_draw cx mixed [(2, .p (.bool true)), (29, .skip)] fun K hK => ?_
              simp [push_cast, c1, hp, e1, e2, hk1, hk2, hk3, h2, Row.row]
              repeat (refine And.intro (by clear hK; intros; first | omega | (simp_all; done) | (simp_all <;> omega)) ?_)
              refine hK _ _ (by kernel_rfl) ?_; clear hK K; refine Nav.imp ?_
              refine awp_cond (b := true) (by simp [push_cast]) (fun hb => ?_) (fun hb => ?_) <;> (refine Nav.imp ?_)
              · refine awp_region cx [] fun K hK => ?_
                simp [push_cast]
                repeat (refine And.intro (by clear hK; intros; first | omega | (simp_all; done) | (simp_all <;> omega)) ?_)
                refine hK _ ?_; clear hK K; refine Nav.imp ?_
                simp [push_cast]
                exact hno (hnil rfl)
              · simp at hb
        | cons x0 xr =>
          have hne : ru ≠ [] := by rw [hru]; simp
          rw [← hru]
          have hnb : ((ru.length : Int) == 0) = false := by simp [hne]
          obtain ⟨f, hf⟩ : ∃ f, ru[0]? = some f := getq (by rw [hru]; simp)
          obtain ⟨z, hz⟩ : ∃ f, ru[ru.length - 1]? = some f := getq (by rw [hru]; simp)
          have hcons' := hcons f z hf hz
          have hzb : rv = true → fitsB z = true := fun h => (rvalid_at (by rw [hrvd, h]) hz).2
          have hrp : 1 ≤ ru.length := by rw [hru]; simp
          clear hru hcons
          cases rv with
          | false =>
            by_cases hk0 : k = 0
            · subst hk0
              refine awp_region_draw cx mixed [(2, .p (.bool true)), (29, .p (.bool false))] fun K hK => ?_
              simp [push_cast, c1, c2, hr, hnb, Row.row]
              repeat (refine And.intro (by clear hK; intros; first | omega | (simp_all; done) | (simp_all <;> omega)) ?_)
              refine hK _ _ (by kernel_rfl) ?_; clear hK K; refine Nav.imp ?_
              refine awp_cond (b := true) (by simp [push_cast]) (fun hb => ?_) (fun hb => ?_) <;> (refine Nav.imp ?_)
              · refine awp_region cx [] fun K hK => ?_
                simp [push_cast]
                repeat (refine And.intro (by clear hK; intros; first | omega | (simp_all; done) | (simp_all <;> omega)) ?_)
                refine hK _ ?_; clear hK K; refine Nav.imp ?_
                simp [push_cast]
                exact hno (hrv rfl)
              · simp at hb
            · have e2 : ((k : Int) - 1).toNat = k - 1 := by omega
              have hk1 : (0 : Int) < k := by omega
              have hk2 : (0 : Int) ≤ k - 1 := by omega
              have hk3 : 0 < k := by omega
              by_cases h2 : y ≤ py
              · refine awp_region_draw cx mixed [(2, .p (.bool true)), (29, .skip)] fun K hK => ?_
                simp [push_cast, c1, hp, e1, e2, hk1, hk2, hk3, h2, Row.row]
                repeat (refine And.intro (by clear hK; intros; first | omega | (simp_all; done) | (simp_all <;> omega)) ?_)
                refine hK _ _ (by kernel_rfl) ?_; clear hK K; refine Nav.imp ?_
                refine awp_cond (b := true) (by simp [push_cast]) (fun hb => ?_) (fun hb => ?_) <;> (refine Nav.imp ?_)
                · refine awp_region cx [] fun K hK => ?_
                  simp [push_cast]
                  repeat (refine And.intro (by clear hK; intros; first | omega | (simp_all; done) | (simp_all <;> omega)) ?_)
                  refine hK _ ?_; clear hK K; refine Nav.imp ?_
                  simp [push_cast]
                  exact hno (hrv rfl)
                · simp at hb
              · refine awp_region_draw cx mixed [(2, .p (.bool true)), (29, .p (.bool false))] fun K hK => ?_
                simp [push_cast, c1, c2, hp, e1, e2, hk1, hk2, hk3, h2, hnb, Row.row]
                repeat (refine And.intro (by clear hK; intros; first | omega | (simp_all; done) | (simp_all <;> omega)) ?_)
                refine hK _ _ (by kernel_rfl) ?_; clear hK K; refine Nav.imp ?_
                refine awp_cond (b := true) (by simp [push_cast]) (fun hb => ?_) (fun hb => ?_) <;> (refine Nav.imp ?_)
                · refine awp_region cx [] fun K hK => ?_
                  simp [push_cast]
                  repeat (refine And.intro (by clear hK; intros; first | omega | (simp_all; done) | (simp_all <;> omega)) ?_)
                  refine hK _ ?_; clear hK K; refine Nav.imp ?_
                  simp [push_cast]
                  exact hno (hrv rfl)
                · simp at hb
          | true =>
            by_cases hq : k ≠ 0 ∧ y ≤ py
            · obtain ⟨hk0, h2⟩ := hq
              have e2 : ((k : Int) - 1).toNat = k - 1 := by omega
              have hk1 : (0 : Int) < k := by omega
              have hk2 : (0 : Int) ≤ k - 1 := by omega
              have hk3 : 0 < k := by omega
              refine awp_region_draw cx mixed [(2, .p (.bool true)), (29, .skip)] fun K hK => ?_
              simp [push_cast, c1, hp, e1, e2, hk1, hk2, hk3, h2, Row.row]
              repeat (refine And.intro (by clear hK; intros; first | omega | (simp_all; done) | (simp_all <;> omega)) ?_)
              refine hK _ _ (by kernel_rfl) ?_; clear hK K; refine Nav.imp ?_
              refine awp_cond (b := true) (by simp [push_cast]) (fun hb => ?_) (fun hb => ?_) <;> (refine Nav.imp ?_)
              · refine awp_region cx [] fun K hK => ?_
                simp [push_cast]
                repeat (refine And.intro (by clear hK; intros; first | omega | (simp_all; done) | (simp_all <;> omega)) ?_)
                refine hK _ ?_; clear hK K; refine Nav.imp ?_
                simp [push_cast]
                exact hno (hpy hk0 h2)
              · simp at hb
            · have hat : rowAt R k = (okB f.a && okB (z.b - 1)) := by
                rw [hcons']
                by_cases h : k = 0
                · simp [h]
                · have : py < y := by
                    apply Int.not_le.1
                    exact fun h2 => hq ⟨h, h2⟩
                  simp [h, this]
              apply cut_
              · intro key
                by_cases hk0 : k ≠ 0
                · have e2 : ((k : Int) - 1).toNat = k - 1 := by omega
                  have hk1 : (0 : Int) < k := by omega
                  have hk2 : (0 : Int) ≤ k - 1 := by omega
                  have hk3 : 0 < k := by omega
                  have h2 : ¬ y ≤ py := fun h => hq ⟨hk0, h⟩
                  refine awp_region_draw cx mixed [(2, .p (.bool true)), (29, .p (.bool true))] fun K hK => ?_
                  simp [push_cast, c1, c2, hp, e1, e2, hk1, hk2, hk3, h2, hnb, Row.row]
                  repeat (refine And.intro (by clear hK; intros; first | omega | (simp_all; done) | (simp_all <;> omega)) ?_)
                  refine hK _ _ (by kernel_rfl) ?_; clear hK K; refine Nav.imp ?_
                  refine awp_cond (b := false) (by simp [push_cast]) (fun hb => ?_) (fun hb => ?_) <;> (refine Nav.imp ?_)
                  · simp at hb
                  · refine awp_weak (s' := ⟨67, [(1, .ptr 0 0 0), (4, .ptr 1 0 0), (6, .d (encRows R)), (7, .d (.int .i64 R.length)), (8, .d (.int .i64 k))], [(0, some ⟨48, 1, [(regRow R).map .d]⟩), (1, some ⟨51, 2, [(Row.row ⟨y, ru⟩).map .d]⟩)], 2⟩) ?_ key.h
                    refine weak_of [(0, some 0), (1, some 5)] rfl (by simp [upT, up, upL, push_cast, Row.row]) (by simp [upH, upR, upL, up, push_cast, Row.row]) (by simp [namesOk, push_cast]) (by simp [olds])
                · have hk0 := Classical.not_not.1 hk0
                  subst hk0
                  refine awp_region_draw cx mixed [(2, .p (.bool true)), (29, .p (.bool true))] fun K hK => ?_
                  simp [push_cast, c1, c2, hr, hnb, Row.row]
                  repeat (refine And.intro (by clear hK; intros; first | omega | (simp_all; done) | (simp_all <;> omega)) ?_)
                  refine hK _ _ (by kernel_rfl) ?_; clear hK K; refine Nav.imp ?_
                  refine awp_cond (b := false) (by simp [push_cast]) (fun hb => ?_) (fun hb => ?_) <;> (refine Nav.imp ?_)
                  · simp at hb
                  · refine awp_weak (s' := ⟨67, [(1, .ptr 0 0 0), (4, .ptr 1 0 0), (6, .d (encRows R)), (7, .d (.int .i64 R.length)), (8, .d (.int .i64 (0 : Nat)))], [(0, some ⟨48, 1, [(regRow R).map .d]⟩), (1, some ⟨51, 2, [(Row.row ⟨y, ru⟩).map .d]⟩)], 2⟩) ?_ key.h
                    refine weak_of [(0, some 0), (1, some 5)] rfl (by simp [upT, up, upL, push_cast, Row.row]) (by simp [upH, upR, upL, up, push_cast, Row.row]) (by simp [namesOk, push_cast]) (by simp [olds])
              · refine Nav.imp ?_
                have d1 := ok_ok f.a
                have d2 := ok_ok (z.b - 1)
                have hzf := fitsB_bd (hzb rfl)
                have e3 := wrap_i64 (n := (ru.length : Int) - 1) (by omega) (by omega)
                have e4 : ((ru.length : Int) - 1).toNat = ru.length - 1 := by omega
                have e5 : (0 : Int) ≤ (ru.length : Int) - 1 := by omega
                have e6 := wrap_i64 (n := z.b - 1) (by omega) (by omega)
                obtain ⟨fa, fb⟩ := f
                obtain ⟨za, zb⟩ := z
                simp only at d1 d2 hat e6
                generalize okB fa = p1 at *
                generalize okB (zb - 1) = p2 at *
                cases p1 with
                | false =>
                  refine awp_region cx [(5, .p (.bool false)), (18, .skip)] fun K hK => ?_
                  simp [push_cast, hf, hz, Row.row, Run.row, d1, e3, e4, e5, e6]
                  repeat (refine And.intro (by clear hK; intros; first | omega | (simp_all; done) | (simp_all <;> omega)) ?_)
                  refine hK _ ?_; clear hK K; refine Nav.imp ?_
                  refine awp_cond (b := true) (by simp [push_cast]) (fun hb => ?_) (fun hb => ?_) <;> (refine Nav.imp ?_)
                  · refine awp_region cx [] fun K hK => ?_
                    simp [push_cast]
                    repeat (refine And.intro (by clear hK; intros; first | omega | (simp_all; done) | (simp_all <;> omega)) ?_)
                    refine hK _ ?_; clear hK K; refine Nav.imp ?_
                    simp [push_cast]
                    exact hno (by rw [hat]; rfl)
                  · simp at hb
                | true =>
                  refine awp_region cx [(5, .p (.bool true)), (18, .p (.bool p2))] fun K hK => ?_
                  simp [push_cast, hf, hz, Row.row, Run.row, d1, d2, e3, e4, e5, e6]
                  repeat (refine And.intro (by clear hK; intros; first | omega | (simp_all; done) | (simp_all <;> omega)) ?_)
                  refine hK _ ?_; clear hK K; refine Nav.imp ?_
                  refine awp_cond (b := !p2) (by simp [push_cast]) (fun hb => ?_) (fun hb => ?_) <;> (refine Nav.imp ?_)
                  · simp at hb
                    refine awp_region cx [] fun K hK => ?_
                    simp [push_cast]
                    repeat (refine And.intro (by clear hK; intros; first | omega | (simp_all; done) | (simp_all <;> omega)) ?_)
                    refine hK _ ?_; clear hK K; refine Nav.imp ?_
                    simp [push_cast]
                    exact hno (by rw [hat, hb]; rfl)
                  · simp at hb
                    refine awp_region cx [] fun K hK => ?_
                    simp [push_cast, e0]
                    repeat (refine And.intro (by clear hK; intros; first | omega | (simp_all; done) | (simp_all <;> omega)) ?_)
                    refine hK _ ?_; clear hK K; refine Nav.imp ?_
                    refine ⟨k + 1, ⟨hlt, by rw [all_range_succ, hall, hat, hb]; rfl⟩, by omega, ?_⟩
                    refine weak_of [(0, some 0)] rfl (by simp [upT, up, upL, push_cast]) (by simp [upH, upR, upL, up, push_cast]) (by simp [namesOk, push_cast]) (by simp [olds])
    · have hge : k = R.length := by simp at hb; omega
      subst hge
      refine awp_region cx [] fun K hK => ?_
      simp [push_cast]
      repeat (refine And.intro (by clear hK; intros; first | omega | (simp_all; done) | (simp_all <;> omega)) ?_)
      refine hK _ ?_; clear hK K; refine Nav.imp ?_
      simp [push_cast, validR, hall]
theorem validR_ok (R : List Row) (hR : smallR R) : PC Tryz.prog 46 [.agg (regRow R)] (.p (.bool (validR R))) := validR_big R (big_of hR)
theorem valid_ok (R : List Row) (hR : smallR R) : PC Tryz.prog 39 [.agg (regRow R)] (.p (.bool (validR R))) := valid_big R (big_of hR)
end Go.Proofs.YtlfbjflfbjkbeaaGreat

namespace Go.Proofs.YtlfbjflfbjkbeaaGreat
open Go.Abs




end Go.Proofs.YtlfbjflfbjkbeaaGreat

namespace Go.Proofs.YtlfbjflfbjkbeaaGreat
open Go.Abs

def runCells (y : Int) (r : Run) : List Cell := (List.range (r.b - r.a).toNat).map fun k : Nat => ⟨r.a + k, y⟩
def rowCells (w : Row) : List Cell := w.runs.flatMap (runCells w.y)
def regCells (R : List Row) : List Cell := R.flatMap rowCells
def cellsOf (R : List Row) : List Cell := if validR R then regCells R else []

theorem flat_take {α β : Type} (f : α → List β) {l : List α} {i : Nat} {x : α} (h : l[i]? = some x) : (l.take (i + 1)).flatMap f = (l.take i).flatMap f ++ f x := by
  rw [take_get h]; simp
def rowsTo (R : List Row) (i : Nat) : List Cell := (R.take i).flatMap rowCells
def runsTo (w : Row) (k : Nat) : List Cell := (w.runs.take k).flatMap (runCells w.y)
theorem fine_at {l : List Run} (h : fine l = true) {k : Nat} {r : Run} (hr : l[k]? = some r) : -4096 ≤ r.a ∧ r.a < r.b ∧ r.b ≤ 4096 := by
  simp only [fine, Bool.and_eq_true] at h
  have hk := (List.getElem?_eq_some_iff.1 hr).1
  obtain ⟨p, hp⟩ : ∃ p, l[k - 1]? = some p := getq (by omega)
  have := all_range_at h.1 hk
  rw [fnAt_some hr hp] at this
  simp at this
  omega
theorem fine_gap {l : List Run} (h : fine l = true) {k : Nat} {r p : Run} (hr : l[k + 1]? = some r) (hp : l[k]? = some p) : p.b < r.a := by
  simp only [fine, Bool.and_eq_true] at h
  have hk := (List.getElem?_eq_some_iff.1 hr).1
  have := all_range_at h.1 hk
  rw [fnAt_some hr (by simpa using hp)] at this
  simp at this
  omega
theorem validR_at {R : List Row} (h : validR R = true) {i : Nat} {w : Row} (hw : R[i]? = some w) : (-4096 ≤ w.y ∧ w.y < 4096) ∧ fine w.runs = true := by
  have hk := (List.getElem?_eq_some_iff.1 hw).1
  obtain ⟨p, hp⟩ : ∃ p, R[i - 1]? = some p := getq (by omega)
  have := all_range_at h hk
  rw [rowAt_some hw hp] at this
  simp [okB] at this
  exact ⟨this.1.1, this.2⟩
theorem validR_gap {R : List Row} (h : validR R = true) {i : Nat} {w p : Row} (hw : R[i + 1]? = some w) (hp : R[i]? = some p) : p.y < w.y := by
  have hk := (List.getElem?_eq_some_iff.1 hw).1
  have := all_range_at h hk
  rw [rowAt_some hw (by simpa using hp)] at this
  simp at this
  omega

end Go.Proofs.YtlfbjflfbjkbeaaGreat

namespace Go.Proofs.YtlfbjflfbjkbeaaGreat
open Go.Abs

def trkOf (y : Int) (r : Run) : List Track := if r.b = r.a + 1 then [] else [⟨2, false, runCells y r⟩]
def sngOf (y : Int) (r : Run) : List Cell := if r.b = r.a + 1 then [⟨r.a, y⟩] else []
def rowTrk (w : Row) : List Track := w.runs.flatMap (trkOf w.y)
def rowSng (w : Row) : List Cell := w.runs.flatMap (sngOf w.y)
def regTrk (R : List Row) : List Track := R.flatMap rowTrk
def regSng (R : List Row) : List Cell := R.flatMap rowSng

theorem row_runs {R : List Row} (h : validR R = true) {w : Row} (hw : w ∈ R) {r : Run} (hr : r ∈ w.runs) : -4096 ≤ r.a ∧ r.a < r.b ∧ r.b ≤ 4096 := by
  obtain ⟨i, hi⟩ := List.mem_iff_getElem?.1 hw
  obtain ⟨k, hk⟩ := List.mem_iff_getElem?.1 hr
  exact fine_at (validR_at h hi).2 hk
end Go.Proofs.YtlfbjflfbjkbeaaGreat

namespace Go.Proofs.YtlfbjflfbjkbeaaGreat
open Go.Abs

structure Bench where
  real : Pos
  t0 : Int
  t1 : Int
  pw0 : Int
  ls0 : Int
  ms0 : Int
  am0 : Int
  pw1 : Int
  ls1 : Int
  ms1 : Int
  am1 : Int
  filament : Int
  drawn : Int
  dry : Int
  lays : List (List Row)
  hits : Int
  door : Bool
  k0 : Bool
  k1 : Bool
abbrev encLays (L : List (List Row)) : D := .sl (L.map regRow)
abbrev Bench.row (b : Bench) : List D := [.int .i64 b.real.p, .int .i64 b.real.q, .int .i64 b.real.r, .int .i64 b.real.s, .int .i64 b.t0, .int .i64 b.t1, .int .i64 b.pw0, .int .i64 b.ls0, .int .i64 b.ms0, .int .i64 b.am0, .int .i64 b.pw1, .int .i64 b.ls1, .int .i64 b.ms1, .int .i64 b.am1, .int .i64 b.filament, .int .i64 b.drawn, .int .i64 b.dry, encLays b.lays, .int .i64 b.hits, .bool b.door, .bool b.k0, .bool b.k1]
abbrev Bench.av (b : Bench) (x : AV) : List AV := [.d (.int .i64 b.real.p), .d (.int .i64 b.real.q), .d (.int .i64 b.real.r), .d (.int .i64 b.real.s), .d (.int .i64 b.t0), .d (.int .i64 b.t1), .d (.int .i64 b.pw0), .d (.int .i64 b.ls0), .d (.int .i64 b.ms0), .d (.int .i64 b.am0), .d (.int .i64 b.pw1), .d (.int .i64 b.ls1), .d (.int .i64 b.ms1), .d (.int .i64 b.am1), .d (.int .i64 b.filament), .d (.int .i64 b.drawn), .d (.int .i64 b.dry), x, .d (.int .i64 b.hits), .d (.bool b.door), .d (.bool b.k0), .d (.bool b.k1)]
abbrev benchZ : List (List AV) := [[.d (.int .i64 0), .d (.int .i64 0), .d (.int .i64 0), .d (.int .i64 0), .d (.int .i64 0), .d (.int .i64 0), .d (.int .i64 0), .d (.int .i64 0), .d (.int .i64 0), .d (.int .i64 0), .d (.int .i64 0), .d (.int .i64 0), .d (.int .i64 0), .d (.int .i64 0), .d (.int .i64 0), .d (.int .i64 0), .d (.int .i64 0), .nl, .d (.int .i64 0), .d (.bool false), .d (.bool false), .d (.bool false)]]
def smallL (L : List (List Row)) : Prop := L.length ≤ 1000 ∧ ∀ R ∈ L, smallR R
end Go.Proofs.YtlfbjflfbjkbeaaGreat

namespace Go.Proofs.YtlfbjflfbjkbeaaGreat
open Go.Abs

theorem mem_runCells {y : Int} {r : Run} {c : Cell} : c ∈ runCells y r ↔ c.y = y ∧ r.a ≤ c.x ∧ c.x < r.b := by
  simp only [runCells, List.mem_map, List.mem_range]
  constructor
  · rintro ⟨k, hk, rfl⟩
    exact ⟨rfl, by simp only; omega, by simp only; omega⟩
  · rintro ⟨h1, h2, h3⟩
    refine ⟨(c.x - r.a).toNat, by omega, ?_⟩
    cases c
    simp only [Cell.mk.injEq] at *
    exact ⟨by omega, h1.symm⟩
theorem mem_regCells {R : List Row} {c : Cell} : c ∈ regCells R ↔ ∃ w ∈ R, c.y = w.y ∧ ∃ r ∈ w.runs, r.a ≤ c.x ∧ c.x < r.b := by
  simp only [regCells, rowCells, List.mem_flatMap, mem_runCells]
  constructor
  · rintro ⟨w, hw, r, hr, h1, h2, h3⟩
    exact ⟨w, hw, h1, r, hr, h2, h3⟩
  · rintro ⟨w, hw, h1, r, hr, h2, h3⟩
    exact ⟨w, hw, r, hr, h1, h2, h3⟩

theorem rows_lt {R : List Row} (h : validR R = true) : ∀ (j i : Nat) (w p : Row), i < j → R[j]? = some w → R[i]? = some p → p.y < w.y
  | 0, i, w, p, hij, _, _ => by omega
  | j + 1, i, w, p, hij, hw, hp => by
    by_cases e : i = j
    · subst e; exact validR_gap h hw hp
    · have hj := (List.getElem?_eq_some_iff.1 hw).1
      obtain ⟨q, hq⟩ : ∃ q, R[j]? = some q := getq (by omega)
      have h1 := rows_lt h j i q p (by omega) hq hp
      have h2 := validR_gap h hw hq
      omega
theorem rows_eq {R : List Row} (h : validR R = true) {w p : Row} (hw : w ∈ R) (hp : p ∈ R) (he : w.y = p.y) : w = p := by
  obtain ⟨j, hj⟩ := List.mem_iff_getElem?.1 hw
  obtain ⟨i, hi⟩ := List.mem_iff_getElem?.1 hp
  rcases Nat.lt_trichotomy i j with hlt | e | hlt
  · have := rows_lt h j i w p hlt hj hi; omega
  · subst e; rw [hj] at hi; exact Option.some.inj hi
  · have := rows_lt h i j p w hlt hi hj; omega
theorem runs_lt {l : List Run} (h : fine l = true) : ∀ (j i : Nat) (r p : Run), i < j → l[j]? = some r → l[i]? = some p → p.b < r.a
  | 0, i, r, p, hij, _, _ => by omega
  | j + 1, i, r, p, hij, hr, hp => by
    by_cases e : i = j
    · subst e; exact fine_gap h hr hp
    · have hj := (List.getElem?_eq_some_iff.1 hr).1
      obtain ⟨q, hq⟩ : ∃ q, l[j]? = some q := getq (by omega)
      have h1 := runs_lt h j i q p (by omega) hq hp
      have h2 := fine_gap h hr hq
      have h3 := fine_at h hq
      omega
theorem row_fine {R : List Row} (h : validR R = true) {w : Row} (hw : w ∈ R) : (-4096 ≤ w.y ∧ w.y < 4096) ∧ fine w.runs = true := by
  obtain ⟨i, hi⟩ := List.mem_iff_getElem?.1 hw
  exact validR_at h hi
theorem cells_on {R : List Row} (h : validR R = true) {c : Cell} (hc : c ∈ regCells R) : onG c = true := by
  obtain ⟨w, hw, hy, r, hr, h1, h2⟩ := mem_regCells.1 hc
  have h3 := row_fine h hw
  have h4 := row_runs h hw hr
  simp [onG]; omega

def rgt (c : Cell) : Cell := ⟨c.x + 1, c.y⟩
def upc (c : Cell) : Cell := ⟨c.x, c.y + 1⟩
def hN (l : List Cell) : Nat → Cell → List Cell
  | 0, _ => []
  | n + 1, c => if c ∈ l then c :: hN l n (rgt c) else []
def hch (l : List Cell) (c : Cell) : List Cell := hN l (4096 - c.x).toNat c
def vN (l : List Cell) : Nat → Cell → List Cell
  | 0, _ => []
  | n + 1, c => if c ∈ l then c :: vN l n (upc c) else []
def vch (l : List Cell) (c : Cell) : List Cell := vN l (4096 - c.y).toNat c
def hst (l : List Cell) (c : Cell) : Bool := !decide ((⟨c.x - 1, c.y⟩ : Cell) ∈ l)
def vst (l : List Cell) (c : Cell) : Bool := !decide ((⟨c.x, c.y - 1⟩ : Cell) ∈ l)
def trk (l : List Cell) : Track := ⟨2, false, l⟩

def isLong (l : List Cell) : Bool := decide (1 < l.length)
def fT (l : List Cell) (c : Cell) : List Track := if hst l c then (if isLong (hch l c) then [trk (hch l c)] else []) else []
def fS (l : List Cell) (c : Cell) : List Cell := if hst l c then (if isLong (hch l c) then [] else [c]) else []

end Go.Proofs.YtlfbjflfbjkbeaaGreat

namespace Go.Proofs.YtlfbjflfbjkbeaaGreat
open Go.Abs

def ltY (a b : Cell) : Prop := a.y < b.y ∨ a.y = b.y ∧ a.x < b.x
def ltX (a b : Cell) : Prop := a.x < b.x ∨ a.x = b.x ∧ a.y < b.y
def leX (a b : Cell) : Bool := decide (a.x < b.x) || (decide (a.x = b.x) && decide (a.y ≤ b.y))
def sortX (l : List Cell) : List Cell := l.mergeSort leX

theorem rows_pw {R : List Row} (h : validR R = true) : R.Pairwise fun a b => a.y < b.y := by
  rw [List.pairwise_iff_getElem]
  intro i j hi hj hij
  exact rows_lt h j i R[j] R[i] hij (List.getElem?_eq_getElem hj) (List.getElem?_eq_getElem hi)
theorem runs_pw {l : List Run} (h : fine l = true) : l.Pairwise fun p r => p.b < r.a := by
  rw [List.pairwise_iff_getElem]
  intro i j hi hj hij
  exact runs_lt h j i l[j] l[i] hij (List.getElem?_eq_getElem hj) (List.getElem?_eq_getElem hi)
theorem cells_pw {R : List Row} (h : validR R = true) : (regCells R).Pairwise ltY := by
  unfold regCells
  rw [List.pairwise_flatMap]
  refine ⟨fun w hw => ?_, ?_⟩
  · unfold rowCells
    rw [List.pairwise_flatMap]
    refine ⟨fun r hr => ?_, ?_⟩
    · unfold runCells
      rw [List.pairwise_map]
      exact List.Pairwise.imp (fun {a b} hab => .inr ⟨rfl, by simp only; omega⟩) List.pairwise_lt_range
    · refine List.Pairwise.imp_of_mem (fun {p r} hp hr hpr => ?_) (runs_pw (row_fine h hw).2)
      intro a ha b hb
      have h1 := mem_runCells.1 ha
      have h2 := mem_runCells.1 hb
      exact .inr ⟨by omega, by omega⟩
  · refine List.Pairwise.imp_of_mem (fun {w v} hw hv hwv => ?_) (rows_pw h)
    intro a ha b hb
    simp only [rowCells, List.mem_flatMap] at ha hb
    obtain ⟨r, hr, ha⟩ := ha
    obtain ⟨p, hp, hb⟩ := hb
    have h1 := mem_runCells.1 ha
    have h2 := mem_runCells.1 hb
    exact .inl (by omega)

theorem nodup_of_ltY {l : List Cell} (h : l.Pairwise ltY) : l.Nodup :=
  h.imp fun {a b} hab e => by subst e; simp [ltY] at hab
def vT (s : List Cell) (c : Cell) : List Track := if vst s c then [trk (vch s c)] else []
def upAll (s : List Cell) : List Track := s.flatMap (vT s)

end Go.Proofs.YtlfbjflfbjkbeaaGreat

namespace Go.Proofs.YtlfbjflfbjkbeaaGreat
open Go.Abs

def addRun (l : List Run) (x : Int) : List Run := match l.getLast? with
  | none => [⟨x, x + 1⟩]
  | some r => if r.b < x then l ++ [⟨x, x + 1⟩] else l.dropLast ++ [⟨r.a, max r.b (x + 1)⟩]
def addC (R : List Row) (c : Cell) : List Row := match R.getLast? with
  | none => [⟨c.y, [⟨c.x, c.x + 1⟩]⟩]
  | some w => if w.y = c.y then R.dropLast ++ [⟨w.y, addRun w.runs c.x⟩] else R ++ [⟨c.y, [⟨c.x, c.x + 1⟩]⟩]
def build (l : List Cell) : List Row := l.foldl addC []

theorem addRun_nil (x : Int) : addRun [] x = [⟨x, x + 1⟩] := rfl
theorem addRun_end (l : List Run) (r : Run) (x : Int) : addRun (l ++ [r]) x = if r.b < x then l ++ [r] ++ [⟨x, x + 1⟩] else l ++ [⟨r.a, max r.b (x + 1)⟩] := by simp [addRun]
theorem addC_nil (c : Cell) : addC [] c = [⟨c.y, [⟨c.x, c.x + 1⟩]⟩] := rfl
theorem addC_end (R : List Row) (w : Row) (c : Cell) : addC (R ++ [w]) c = if w.y = c.y then R ++ [⟨w.y, addRun w.runs c.x⟩] else R ++ [w] ++ [⟨c.y, [⟨c.x, c.x + 1⟩]⟩] := by simp [addC]
theorem addC_len (R : List Row) (c : Cell) : (addC R c).length ≤ R.length + 1 := by
  rcases List.eq_nil_or_concat R with rfl | ⟨R', w, rfl⟩
  · simp [addC_nil]
  · rw [List.concat_eq_append, addC_end]; split <;> simp
theorem build_take {l : List Cell} {k : Nat} {c : Cell} (h : l[k]? = some c) : build (l.take (k + 1)) = addC (build (l.take k)) c := by
  simp [build, take_get h]

theorem build_run (P : List Row) (L : List Run) (y a : Int) : ∀ (n j : Nat), ((List.range n).map fun k : Nat => (⟨a + (j + 1) + k, y⟩ : Cell)).foldl addC (P ++ [⟨y, L ++ [⟨a, a + j + 1⟩]⟩]) = P ++ [⟨y, L ++ [⟨a, a + j + 1 + n⟩]⟩]
  | 0, j => by simp
  | n + 1, j => by
    rw [List.range_succ_eq_map, List.map_cons, List.foldl_cons, addC_end, addRun_end]
    simp only [if_true, Int.natCast_zero, Int.add_zero]
    have h1 : ¬ a + (j : Int) + 1 < a + ((j : Int) + 1) := by omega
    have h2 : max (a + (j : Int) + 1) (a + ((j : Int) + 1) + 1) = a + ((j + 1 : Nat) : Int) + 1 := by omega
    rw [if_neg h1, h2]
    have := build_run P L y a n (j + 1)
    rw [List.map_map]
    have e : ((fun k : Nat => (⟨a + ((j : Int) + 1) + k, y⟩ : Cell)) ∘ Nat.succ) = fun k : Nat => (⟨a + (((j + 1 : Nat) : Int) + 1) + k, y⟩ : Cell) := by
      funext k; simp; omega
    rw [e, this]
    congr 4
    simp; omega
theorem run_cells {y : Int} {r : Run} (h : r.a < r.b) : ∃ n : Nat, r.b = r.a + 1 + n ∧ runCells y r = ⟨r.a, y⟩ :: (List.range n).map fun k : Nat => (⟨r.a + ((0 : Nat) + 1) + k, y⟩ : Cell) := by
  refine ⟨(r.b - r.a - 1).toNat, by omega, ?_⟩
  unfold runCells
  rw [show (r.b - r.a).toNat = (r.b - r.a - 1).toNat + 1 from by omega, List.range_succ_eq_map, List.map_cons, List.map_map]
  congr 1
  · simp
  · apply List.map_congr_left; intro k _; simp; omega
theorem build_next (P : List Row) (L : List Run) (y : Int) (r : Run) (h : r.a < r.b) (hL : L ≠ []) (hgap : ∀ p, L.getLast? = some p → p.b < r.a) : (runCells y r).foldl addC (P ++ [⟨y, L⟩]) = P ++ [⟨y, L ++ [r]⟩] := by
  obtain ⟨n, hn, hc⟩ := run_cells (y := y) h
  obtain ⟨L', p, rfl⟩ : ∃ L' p, L = L' ++ [p] := by
    rcases List.eq_nil_or_concat L with e | ⟨L', p, e⟩
    · exact absurd e hL
    · exact ⟨L', p, by rw [e, List.concat_eq_append]⟩
  have := hgap p (by simp)
  rw [hc, List.foldl_cons, addC_end, addRun_end]
  simp only [if_true]
  rw [if_pos this]
  have h2 := build_run P (L' ++ [p]) y r.a n 0
  simp only [Int.natCast_zero, Int.add_zero, Int.zero_add] at h2 ⊢
  rw [h2, ← hn]
theorem build_first (P : List Row) (y : Int) (r : Run) (h : r.a < r.b) (hP : ∀ w, P.getLast? = some w → w.y ≠ y) : (runCells y r).foldl addC P = P ++ [⟨y, [r]⟩] := by
  obtain ⟨n, hn, hc⟩ := run_cells (y := y) h
  rw [hc, List.foldl_cons]
  have h1 : addC P ⟨r.a, y⟩ = P ++ [⟨y, [] ++ [⟨r.a, r.a + (0 : Nat) + 1⟩]⟩] := by
    rcases List.eq_nil_or_concat P with rfl | ⟨P', w, rfl⟩
    · simp [addC_nil]
    · rw [List.concat_eq_append] at hP ⊢
      have := hP w (by simp)
      rw [addC_end, if_neg this]; simp
  have h2 := build_run P [] y r.a n 0
  rw [h1]
  simp only [Int.natCast_zero, Int.add_zero, Int.zero_add, List.nil_append] at h2 ⊢
  rw [h2, ← hn]
theorem build_runs (P : List Row) (y : Int) : ∀ (l L : List Run), L ≠ [] → fine (L ++ l) = true → (l.flatMap (runCells y)).foldl addC (P ++ [⟨y, L⟩]) = P ++ [⟨y, L ++ l⟩]
  | [], L, _, _ => by simp
  | r :: l, L, hL, hf => by
    rw [List.flatMap_cons, List.foldl_append]
    have hr : (L ++ r :: l)[L.length]? = some r := by simp
    have h1 := fine_at hf hr
    rw [build_next P L y r h1.2.1 hL]
    · have := build_runs P y l (L ++ [r]) (by simp) (by simpa using hf)
      rw [this]; simp
    · intro p hp
      rw [List.getLast?_eq_getElem?] at hp
      have hlp : 0 < L.length := List.length_pos_iff.2 hL
      refine fine_gap hf (k := L.length - 1) (by rw [show L.length - 1 + 1 = L.length from by omega]; exact hr) ?_
      rw [List.getElem?_append_left (by omega)]; exact hp
theorem build_row (P : List Row) (w : Row) (hw : fine w.runs = true) (hP : ∀ v, P.getLast? = some v → v.y ≠ w.y) : (rowCells w).foldl addC P = P ++ [w] := by
  obtain ⟨y, l⟩ := w
  cases l with
  | nil => simp [fine] at hw
  | cons r l =>
    have h1 := fine_at hw (k := 0) (r := r) (by simp)
    simp only [rowCells, List.flatMap_cons, List.foldl_append]
    rw [build_first P y r h1.2.1 hP, build_runs P y l [r] (by simp) hw]
    simp
theorem build_rows {R : List Row} (h : validR R = true) : ∀ (n : Nat), n ≤ R.length → ((R.take n).flatMap rowCells).foldl addC [] = R.take n
  | 0, _ => by simp
  | n + 1, hn => by
    obtain ⟨w, hw⟩ : ∃ w, R[n]? = some w := getq (by omega)
    rw [take_get hw, List.flatMap_append, List.foldl_append, build_rows h n (by omega)]
    simp only [List.flatMap_cons, List.flatMap_nil, List.append_nil]
    refine build_row _ w (validR_at h hw).2 fun v hv => ?_
    rw [List.getLast?_eq_getElem?, List.length_take, Nat.min_eq_left (by omega)] at hv
    by_cases e : n = 0
    · subst e; simp at hv
    · rw [List.getElem?_take, if_pos (by omega)] at hv
      have := validR_gap h (i := n - 1) (by rw [show n - 1 + 1 = n from by omega]; exact hw) hv
      omega
theorem build_cells {R : List Row} (h : validR R = true) : build (regCells R) = R := by
  have := build_rows h R.length (Nat.le_refl _)
  rwa [List.take_length] at this

def leY (a b : Cell) : Bool := decide (a.y < b.y) || (decide (a.y = b.y) && decide (a.x ≤ b.x))
def sortY (l : List Cell) : List Cell := l.mergeSort leY
theorem sortY_perm (l : List Cell) : (sortY l).Perm l := List.mergeSort_perm l leY
theorem sortY_le (l : List Cell) : (sortY l).Pairwise fun a b => leY a b = true :=
  List.pairwise_mergeSort (fun a b c h1 h2 => by simp [leY] at *; omega) (fun a b => by simp [leY]; omega) l
theorem leY_anti {a b : Cell} (h1 : leY a b = true) (h2 : leY b a = true) : a = b := by
  cases a; cases b; simp [leY] at *; omega
theorem sortedY_uniq : ∀ {l l' : List Cell}, l.Perm l' → (l.Pairwise fun a b => leY a b = true) → (l'.Pairwise fun a b => leY a b = true) → l = l'
  | [], l', h, _, _ => by have := h.length_eq; simp at this; exact (List.length_eq_zero_iff.1 this.symm).symm
  | a :: l, [], h, _, _ => by have := h.length_eq; simp at this
  | a :: l, b :: l', h, h2, h3 => by
    have hab : a = b := by
      have ha : a ∈ b :: l' := h.subset (by simp)
      have hb : b ∈ a :: l := h.symm.subset (by simp)
      rcases List.mem_cons.1 ha with e | ha
      · exact e
      · rcases List.mem_cons.1 hb with e | hb
        · exact e.symm
        · exact leY_anti ((List.pairwise_cons.1 h2).1 b hb) ((List.pairwise_cons.1 h3).1 a ha)
    subst hab
    rw [sortedY_uniq h.cons_inv (List.pairwise_cons.1 h2).2 (List.pairwise_cons.1 h3).2]
theorem leY_of_lt {a b : Cell} (h : ltY a b) : leY a b = true := by simp [leY, ltY] at *; omega
theorem sortY_cells {R : List Row} (h : validR R = true) {l : List Cell} (hp : l.Perm (regCells R)) : sortY l = regCells R :=
  sortedY_uniq ((sortY_perm l).trans hp) (sortY_le l) ((cells_pw h).imp fun h => leY_of_lt h)
end Go.Proofs.YtlfbjflfbjkbeaaGreat

namespace Go.Proofs.YtlfbjflfbjkbeaaGreat
open Go.Abs

theorem ltY_uniq : ∀ {l l' : List Cell}, l.Pairwise ltY → l'.Pairwise ltY → (∀ c, c ∈ l ↔ c ∈ l') → l = l' := by
  intro l l' h1 h2 h
  refine sortedY_uniq ?_ (h1.imp fun h => leY_of_lt h) (h2.imp fun h => leY_of_lt h)
  exact (List.perm_ext_iff_of_nodup (nodup_of_ltY h1) (nodup_of_ltY h2)).2 h
theorem region_uniq {R S : List Row} (hR : validR R = true) (hS : validR S = true) (h : ∀ c, c ∈ regCells R ↔ c ∈ regCells S) : R = S := by
  rw [← build_cells hR, ← build_cells hS, ltY_uniq (cells_pw hR) (cells_pw hS) h]

def inR (l : List Run) (x : Int) : Bool := l.any fun r => decide (r.a ≤ x) && decide (x < r.b)
theorem inR_iff {l : List Run} {x : Int} : inR l x = true ↔ ∃ r ∈ l, r.a ≤ x ∧ x < r.b := by simp [inR]
def Apart (l : List Run) : Prop := (∀ r ∈ l, r.a < r.b) ∧ l.Pairwise fun p r => p.b < r.a
theorem rv_gap {l : List Run} (h : rvalid l = true) {k : Nat} {r p : Run} (hr : l[k + 1]? = some r) (hp : l[k]? = some p) : p.b < r.a := by
  have hk := (List.getElem?_eq_some_iff.1 hr).1
  have := all_range_at h hk
  rw [rvAt_some hr (by simpa using hp)] at this
  simp at this
  omega
theorem rv_lt {l : List Run} (h : rvalid l = true) : ∀ (j i : Nat) (r p : Run), i < j → l[j]? = some r → l[i]? = some p → p.b < r.a
  | 0, i, r, p, hij, _, _ => by omega
  | j + 1, i, r, p, hij, hr, hp => by
    by_cases e : i = j
    · subst e; exact rv_gap h hr hp
    · have hj := (List.getElem?_eq_some_iff.1 hr).1
      obtain ⟨q, hq⟩ : ∃ q, l[j]? = some q := getq (by omega)
      have h1 := rv_lt h j i q p (by omega) hq hp
      have h2 := rv_gap h hr hq
      have h3 := rvalid_at h hq
      omega
theorem rvalid_iff {l : List Run} : rvalid l = true ↔ Apart l ∧ ∀ r ∈ l, fitsB r = true := by
  constructor
  · intro h
    refine ⟨⟨fun r hr => ?_, ?_⟩, fun r hr => ?_⟩
    · obtain ⟨i, hi⟩ := List.mem_iff_getElem?.1 hr; exact (rvalid_at h hi).1
    · rw [List.pairwise_iff_getElem]
      intro i j hi hj hij
      exact rv_lt h j i l[j] l[i] hij (List.getElem?_eq_getElem hj) (List.getElem?_eq_getElem hi)
    · obtain ⟨i, hi⟩ := List.mem_iff_getElem?.1 hr; exact (rvalid_at h hi).2
  · rintro ⟨⟨h1, h2⟩, h3⟩
    apply List.all_eq_true.2
    intro i hi
    have hi : i < l.length := by simpa using hi
    obtain ⟨r, hr⟩ := getq hi
    obtain ⟨p, hp⟩ : ∃ q, l[i - 1]? = some q := getq (by omega)
    rw [rvAt_some hr hp]
    have hm := List.mem_of_getElem? hr
    simp only [Bool.and_eq_true, decide_eq_true_eq, Bool.or_eq_true, beq_iff_eq]
    refine ⟨⟨h1 r hm, h3 r hm⟩, ?_⟩
    by_cases e : i = 0
    · exact .inl e
    · right
      obtain ⟨hi', rfl⟩ := List.getElem?_eq_some_iff.1 hr
      obtain ⟨hp', rfl⟩ := List.getElem?_eq_some_iff.1 hp
      exact List.pairwise_iff_getElem.1 h2 (i - 1) i hp' hi' (by omega)
theorem fine_apart {l : List Run} : fine l = true ↔ l ≠ [] ∧ Apart l ∧ ∀ r ∈ l, -4096 ≤ r.a ∧ r.b ≤ 4096 := by
  constructor
  · intro h
    have hne : l ≠ [] := by rintro rfl; simp [fine] at h
    refine ⟨hne, (rvalid_iff.1 (fine_rv h)).1, fun r hr => ?_⟩
    obtain ⟨i, hi⟩ := List.mem_iff_getElem?.1 hr
    have := fine_at h hi
    omega
  · rintro ⟨hne, h1, h2⟩
    have hrv : rvalid l = true := rvalid_iff.2 ⟨h1, fun r hr => by
      have := h2 r hr; have := h1.1 r hr; simp [fitsB]; omega⟩
    have hlp := List.length_pos_iff.2 hne
    obtain ⟨f, hf⟩ : ∃ f, l[0]? = some f := getq hlp
    obtain ⟨z, hz⟩ : ∃ f, l[l.length - 1]? = some f := getq (by omega)
    rw [fine_iff hf hz, hrv]
    have a1 := h2 f (List.mem_of_getElem? hf)
    have a2 := h1.1 f (List.mem_of_getElem? hf)
    have a3 := h2 z (List.mem_of_getElem? hz)
    have a4 := h1.1 z (List.mem_of_getElem? hz)
    simp [okB]; omega

def bnd (l : List Run) (i : Nat) : Int := match l[i / 2]? with
  | some r => if i % 2 = 1 then r.b else r.a
  | none => 1048577
theorem bnd_even {l : List Run} {k : Nat} {r : Run} (h : l[k]? = some r) : bnd l (2 * k) = r.a := by
  have e : 2 * k / 2 = k := by omega
  have e2 : ¬ 2 * k % 2 = 1 := by omega
  simp only [bnd, e, h, if_neg e2]
theorem bnd_odd {l : List Run} {k : Nat} {r : Run} (h : l[k]? = some r) : bnd l (2 * k + 1) = r.b := by
  have e : (2 * k + 1) / 2 = k := by omega
  have e2 : (2 * k + 1) % 2 = 1 := by omega
  simp only [bnd, e, h, if_pos e2]
theorem bnd_over (l : List Run) : bnd l (2 * l.length) = 1048577 := by
  have e : 2 * l.length / 2 = l.length := by omega
  simp [bnd, e]
theorem bnd_cases {l : List Run} {i : Nat} (h : i < 2 * l.length) : ∃ k r, l[k]? = some r ∧ (i = 2 * k ∧ bnd l i = r.a ∨ i = 2 * k + 1 ∧ bnd l i = r.b) := by
  obtain ⟨r, hr⟩ : ∃ r, l[i / 2]? = some r := getq (by omega)
  refine ⟨i / 2, r, hr, ?_⟩
  by_cases e : i % 2 = 1
  · right
    have e1 : i = 2 * (i / 2) + 1 := by omega
    exact ⟨e1, (congrArg (bnd l) e1).trans (bnd_odd hr)⟩
  · left
    have e1 : i = 2 * (i / 2) := by omega
    exact ⟨e1, (congrArg (bnd l) e1).trans (bnd_even hr)⟩
theorem bnd_step {l : List Run} (h : rvalid l = true) {i : Nat} (hi : i < 2 * l.length) : bnd l i < bnd l (i + 1) := by
  obtain ⟨k, r, hr, ⟨e1, e2⟩ | ⟨e1, e2⟩⟩ := bnd_cases hi
  · rw [e2, e1, bnd_odd hr]; exact (rvalid_at h hr).1
  · by_cases hk : k + 1 < l.length
    · obtain ⟨s, hs⟩ := getq hk
      rw [e2, e1, show 2 * k + 1 + 1 = 2 * (k + 1) from by omega, bnd_even hs]
      exact rv_gap h hs hr
    · have := (List.getElem?_eq_some_iff.1 hr).1
      rw [e2, e1, show 2 * k + 1 + 1 = 2 * l.length from by omega, bnd_over]
      have := fitsB_bd (rvalid_at h hr).2
      omega
theorem bnd_asc {l : List Run} (h : rvalid l = true) : ∀ (n i : Nat), i + n ≤ 2 * l.length → bnd l i ≤ bnd l (i + n)
  | 0, i, _ => Int.le_refl _
  | n + 1, i, hi => by
    have h1 := bnd_asc h n i (by omega)
    have h2 := bnd_step h (i := i + n) (by omega)
    rw [show i + (n + 1) = i + n + 1 from by omega]
    omega
theorem bnd_fits {l : List Run} (h : rvalid l = true) {i : Nat} (hi : i < 2 * l.length) : -1048576 ≤ bnd l i ∧ bnd l i ≤ 1048576 := by
  obtain ⟨k, r, hr, ⟨e1, e2⟩ | ⟨e1, e2⟩⟩ := bnd_cases hi <;>
  · have := fitsB_bd (rvalid_at h hr).2
    omega
theorem inR_bnd {l : List Run} (h : rvalid l = true) {p : Nat} {y : Int} (hp : p ≤ 2 * l.length) (h1 : ∀ i, i < p → bnd l i ≤ y) (h2 : p < 2 * l.length → y < bnd l p) : inR l y = (p % 2 == 1) := by
  apply Bool.eq_iff_iff.2
  rw [inR_iff]
  simp only [beq_iff_eq]
  constructor
  · rintro ⟨r, hr, h3, h4⟩
    obtain ⟨k, hk⟩ := List.mem_iff_getElem?.1 hr
    have hkl := (List.getElem?_eq_some_iff.1 hk).1
    apply Classical.byContradiction
    intro he
    have e : p = 2 * (p / 2) := by omega
    by_cases hlt : k < p / 2
    · have := h1 (2 * k + 1) (by omega)
      rw [bnd_odd hk] at this
      omega
    · have h5 := h2 (by omega)
      have h6 := bnd_asc h (2 * k - p) p (by omega)
      rw [show p + (2 * k - p) = 2 * k from by omega, bnd_even hk] at h6
      omega
  · intro he
    have e : p = 2 * (p / 2) + 1 := by omega
    obtain ⟨r, hr⟩ : ∃ r, l[p / 2]? = some r := getq (by omega)
    refine ⟨r, List.mem_of_getElem? hr, ?_, ?_⟩
    · have := h1 (2 * (p / 2)) (by omega)
      rwa [bnd_even hr] at this
    · have := h2 (by omega)
      rw [e, bnd_odd hr] at this
      exact this

def swX (a b : List Run) (p q : Nat) : Int := min (bnd a p) (bnd b q)
def swP (a : List Run) (x : Int) (p : Nat) : Nat := if bnd a p = x then p + 1 else p
def swOut (now o : Bool) (out : List Run) (x : Int) : List Run :=
  if now && !o then out ++ [⟨x, 0⟩] else if !now && o then out.dropLast ++ [⟨(out.getLast?.getD ⟨0, 0⟩).a, x⟩] else out
def swF (f : Bool → Bool → Bool) (a b : List Run) : Nat → Nat → Nat → List Run → Bool → List Run
  | 0, _, _, out, _ => out
  | n + 1, p, q, out, o =>
    if p = 2 * a.length ∧ q = 2 * b.length then out else
      swF f a b n (swP a (swX a b p q) p) (swP b (swX a b p q) q)
        (swOut (f (swP a (swX a b p q) p % 2 == 1) (swP b (swX a b p q) q % 2 == 1)) o out (swX a b p q)) (f (swP a (swX a b p q) p % 2 == 1) (swP b (swX a b p q) q % 2 == 1))
def sweep (f : Bool → Bool → Bool) (a b : List Run) : List Run := if rvalid a && rvalid b then swF f a b (2 * a.length + 2 * b.length) 0 0 [] false else []

structure SwAt (f : Bool → Bool → Bool) (a b : List Run) (p q : Nat) (out : List Run) (o : Bool) (X : Int) (C : List Run) (s : Int) : Prop where
  hp : p ≤ 2 * a.length
  hq : q ≤ 2 * b.length
  p1 : ∀ i, i < p → bnd a i ≤ X
  p2 : p < 2 * a.length → X < bnd a p
  q1 : ∀ i, i < q → bnd b i ≤ X
  q2 : q < 2 * b.length → X < bnd b q
  eout : out = if o then C ++ [⟨s, 0⟩] else C
  ap : Apart C
  le : ∀ r ∈ C, r.b ≤ X
  so : o = true → s ≤ X ∧ ∀ r ∈ C, r.b < s
  eo : o = f (p % 2 == 1) (q % 2 == 1)
  mem : ∀ y, y ≤ X → (f (inR a y) (inR b y) = true ↔ (inR C y = true ∨ (o = true ∧ s ≤ y)))

theorem swP_facts {a : List Run} (ha : rvalid a = true) {p : Nat} {X x : Int} (hp : p ≤ 2 * a.length) (p1 : ∀ i, i < p → bnd a i ≤ X) (hX : X < x) (hx : x ≤ bnd a p) (hb : x ≤ 1048576) :
    swP a x p ≤ 2 * a.length ∧ (∀ i, i < swP a x p → bnd a i ≤ x) ∧ (swP a x p < 2 * a.length → x < bnd a (swP a x p)) := by
  unfold swP
  split
  · rename_i e
    have hlt : p < 2 * a.length := by
      apply Classical.byContradiction
      intro h
      have h3 : bnd a p = 1048577 := by rw [show p = 2 * a.length from by omega]; exact bnd_over a
      omega
    refine ⟨hlt, fun i hi => ?_, fun h => ?_⟩
    · by_cases e2 : i = p
      · subst e2; omega
      · have := p1 i (by omega); omega
    · have := bnd_step ha hlt; omega
  · rename_i e
    refine ⟨hp, fun i hi => by have := p1 i hi; omega, fun h => by omega⟩

theorem inR_app (C : List Run) (r : Run) (y : Int) : inR (C ++ [r]) y = (inR C y || (decide (r.a ≤ y) && decide (y < r.b))) := by simp [inR]
theorem sw_step {f : Bool → Bool → Bool} {a b : List Run} (ha : rvalid a = true) (hb : rvalid b = true) {p q : Nat} {out : List Run} {o : Bool} {X : Int} {C : List Run} {s : Int} (h : SwAt f a b p q out o X C s) (hn : ¬ (p = 2 * a.length ∧ q = 2 * b.length)) :
    X < swX a b p q ∧ ∃ C' s', SwAt f a b (swP a (swX a b p q) p) (swP b (swX a b p q) q) (swOut (f (swP a (swX a b p q) p % 2 == 1) (swP b (swX a b p q) q % 2 == 1)) o out (swX a b p q)) (f (swP a (swX a b p q) p % 2 == 1) (swP b (swX a b p q) q % 2 == 1)) (swX a b p q) C' s' := by
  obtain ⟨hp, hq, p1, p2, q1, q2, hout, hap, hle, hso, ho, hmem⟩ := h
  have x1 : swX a b p q ≤ bnd a p := Int.min_le_left _ _
  have x2 : swX a b p q ≤ bnd b q := Int.min_le_right _ _
  have x3 : swX a b p q = bnd a p ∨ swX a b p q = bnd b q := by unfold swX; omega
  have hXb : swX a b p q ≤ 1048576 := by
    by_cases e : p < 2 * a.length
    · have := bnd_fits ha e; omega
    · have := bnd_fits hb (i := q) (by omega); omega
  have hX : X < swX a b p q := by
    rcases x3 with e | e
    · rw [e]
      refine p2 ?_
      apply Classical.byContradiction
      intro h
      have h3 : bnd a p = 1048577 := by rw [show p = 2 * a.length from by omega]; exact bnd_over a
      omega
    · rw [e]
      refine q2 ?_
      apply Classical.byContradiction
      intro h
      have h3 : bnd b q = 1048577 := by rw [show q = 2 * b.length from by omega]; exact bnd_over b
      omega
  obtain ⟨P1, P2, P3⟩ := swP_facts ha hp p1 hX x1 hXb
  obtain ⟨Q1, Q2, Q3⟩ := swP_facts hb hq q1 hX x2 hXb
  generalize swX a b p q = x at *
  generalize swP a x p = p' at *
  generalize swP b x q = q' at *
  have hbet : ∀ y, X ≤ y → y < x → f (inR a y) (inR b y) = o := fun y h1 h2 => by
    rw [inR_bnd ha hp (fun i hi => Int.le_trans (p1 i hi) h1) (fun _ => by omega), inR_bnd hb hq (fun i hi => Int.le_trans (q1 i hi) h1) (fun _ => by omega)]
    exact ho.symm
  have hat : f (inR a x) (inR b x) = f (p' % 2 == 1) (q' % 2 == 1) := by rw [inR_bnd ha P1 P2 P3, inR_bnd hb Q1 Q2 Q3]
  generalize hnow : f (p' % 2 == 1) (q' % 2 == 1) = now at *
  have hnoC : ∀ y, X ≤ y → inR C y = false := fun y h1 => by
    rw [Bool.eq_false_iff]
    intro hc
    obtain ⟨r, hr, h2, h3⟩ := inR_iff.1 hc
    have := hle r hr
    omega
  refine ⟨hX, ?_⟩
  have dich : ∀ y, y ≤ x → y ≤ X ∨ (X < y ∧ y < x) ∨ y = x := fun y hy => by omega
  cases hnw : now <;> cases hoo : o
  · -- neither
    refine ⟨C, s, P1, Q1, P2, P3, Q2, Q3, ?_, hap, fun r hr => by have := hle r hr; omega, fun h => (by cases h), by rw [hnow, hnw], fun y hy => ?_⟩
    · simp [swOut, hout, hoo]
    · rcases dich y hy with h | ⟨h1, h2⟩ | h
      · rw [hmem y h, hoo]
      · rw [hbet y (by omega) h2, hoo, hnoC y (by omega)]; simp
      · rw [h, hat, hnw, hnoC x (by omega)]; simp
  · -- the run ends
    have ⟨hs1, hs2⟩ := hso hoo
    refine ⟨C ++ [⟨s, x⟩], 0, P1, Q1, P2, P3, Q2, Q3, ?_, ⟨?_, ?_⟩, ?_, fun h => (by cases h), by rw [hnow, hnw], fun y hy => ?_⟩
    · simp [swOut, hout, hoo]
    · intro r hr
      rcases List.mem_append.1 hr with hr | hr
      · exact hap.1 r hr
      · simp at hr; subst hr; simp only; omega
    · rw [List.pairwise_append]
      refine ⟨hap.2, by simp, fun r hr t ht => ?_⟩
      simp at ht; subst ht; exact hs2 r hr
    · intro r hr
      rcases List.mem_append.1 hr with hr | hr
      · have := hle r hr; omega
      · simp at hr; subst hr; simp
    · rw [inR_app]
      rcases dich y hy with h | ⟨h1, h2⟩ | h
      · have : y < x := by omega
        rw [hmem y h, hoo]; simp [this]
      · rw [hbet y (by omega) h2, hoo, hnoC y (by omega)]; simp; omega
      · rw [h, hat, hnw, hnoC x (by omega)]; simp
  · -- a run begins
    refine ⟨C, x, P1, Q1, P2, P3, Q2, Q3, ?_, hap, fun r hr => by have := hle r hr; omega, fun _ => ⟨Int.le_refl _, fun r hr => by have := hle r hr; omega⟩, by rw [hnow, hnw], fun y hy => ?_⟩
    · simp [swOut, hout, hoo]
    · rcases dich y hy with h | ⟨h1, h2⟩ | h
      · rw [hmem y h, hoo]; simp; omega
      · rw [hbet y (by omega) h2, hoo, hnoC y (by omega)]; simp; omega
      · rw [h, hat, hnw]; simp
  · -- the run goes on
    have ⟨hs1, hs2⟩ := hso hoo
    refine ⟨C, s, P1, Q1, P2, P3, Q2, Q3, ?_, hap, fun r hr => by have := hle r hr; omega, fun _ => ⟨by omega, hs2⟩, by rw [hnow, hnw], fun y hy => ?_⟩
    · simp [swOut, hout, hoo]
    · rcases dich y hy with h | ⟨h1, h2⟩ | h
      · rw [hmem y h, hoo]
      · rw [hbet y (by omega) h2, hoo]; simp; omega
      · rw [h, hat, hnw]; simp; omega
theorem sw_all {f : Bool → Bool → Bool} (hf : f false false = false) {a b : List Run} (ha : rvalid a = true) (hb : rvalid b = true) : ∀ (n p q : Nat) (out : List Run) (o : Bool) (X : Int) (C : List Run) (s : Int), SwAt f a b p q out o X C s → 2 * a.length + 2 * b.length ≤ n + (p + q) →
    Apart (swF f a b n p q out o) ∧ ∀ y, inR (swF f a b n p q out o) y = f (inR a y) (inR b y) := by
  have fin : ∀ (p q : Nat) (out : List Run) (o : Bool) (X : Int) (C : List Run) (s : Int), SwAt f a b p q out o X C s → p = 2 * a.length ∧ q = 2 * b.length → Apart out ∧ ∀ y, inR out y = f (inR a y) (inR b y) := by
    rintro p q out o X C s ⟨hp, hq, p1, p2, q1, q2, hout, hap, hle, hso, ho, hmem⟩ ⟨e1, e2⟩
    have ho0 : o = false := by
      rw [ho, e1, e2]
      have h1 : (2 * a.length % 2 == 1) = false := by simp
      have h2 : (2 * b.length % 2 == 1) = false := by simp
      rw [h1, h2, hf]
    subst ho0
    simp only [Bool.false_eq_true, if_false] at hout
    subst hout
    refine ⟨hap, fun y => ?_⟩
    by_cases hy : y ≤ X
    · have := hmem y hy
      simp only [Bool.false_eq_true, false_and, or_false] at this
      exact (Bool.eq_iff_iff.2 this).symm
    · have h1 := inR_bnd ha hp (fun i hi => Int.le_trans (p1 i hi) (by omega : X ≤ y)) (fun h => by omega)
      have h2 := inR_bnd hb hq (fun i hi => Int.le_trans (q1 i hi) (by omega : X ≤ y)) (fun h => by omega)
      rw [h1, h2, ← ho, Bool.eq_false_iff]
      intro hc
      obtain ⟨r, hr, h3, h4⟩ := inR_iff.1 hc
      have := hle r hr
      omega
  intro n
  induction n with
  | zero =>
    intro p q out o X C s h hn
    exact fin p q out o X C s h ⟨by have := h.hp; have := h.hq; omega, by have := h.hp; have := h.hq; omega⟩
  | succ n ih =>
    intro p q out o X C s h hn
    unfold swF
    split
    · rename_i e; exact fin p q out o X C s h e
    · rename_i e
      obtain ⟨hX, C', s', h'⟩ := sw_step ha hb h e
      refine ih _ _ _ _ _ C' s' h' ?_
      have : p + q + 1 ≤ swP a (swX a b p q) p + swP b (swX a b p q) q := by
        unfold swP swX
        split <;> split <;> omega
      omega
theorem sweep_facts {f : Bool → Bool → Bool} (hf : f false false = false) {a b : List Run} (ha : rvalid a = true) (hb : rvalid b = true) : Apart (sweep f a b) ∧ ∀ y, inR (sweep f a b) y = f (inR a y) (inR b y) := by
  have e : sweep f a b = swF f a b (2 * a.length + 2 * b.length) 0 0 [] false := by simp [sweep, ha, hb]
  rw [e]
  refine sw_all hf ha hb _ 0 0 [] false (-1048577) [] 0 ⟨Nat.zero_le _, Nat.zero_le _, fun i hi => by omega, fun h => ?_, fun i hi => by omega, fun h => ?_, rfl, ⟨by simp, List.Pairwise.nil⟩, by simp, fun h => (by cases h), by simp [hf], fun y hy => ?_⟩ (by omega)
  · have := bnd_fits ha h; omega
  · have := bnd_fits hb h; omega
  · have h1 := inR_bnd ha (p := 0) (y := y) (Nat.zero_le _) (fun i hi => by omega) (fun h => by have := bnd_fits ha h; omega)
    have h2 := inR_bnd hb (p := 0) (y := y) (Nat.zero_le _) (fun i hi => by omega) (fun h => by have := bnd_fits hb h; omega)
    rw [h1, h2]
    simp [hf, inR]
theorem apart_bounds {l : List Run} (h : Apart l) {lo hi : Int} (hm : ∀ y, inR l y = true → lo ≤ y ∧ y < hi) : ∀ r ∈ l, lo ≤ r.a ∧ r.b ≤ hi := fun r hr => by
  have h1 := h.1 r hr
  have h2 := hm r.a (inR_iff.2 ⟨r, hr, Int.le_refl _, h1⟩)
  have h3 := hm (r.b - 1) (inR_iff.2 ⟨r, hr, by omega, by omega⟩)
  omega
end Go.Proofs.YtlfbjflfbjkbeaaGreat
