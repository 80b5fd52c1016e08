/-
  The walks of this seat's functions and the plain laws behind them: part R1.
-/
import Derived.Test.YtmfkfgonedgjnaaBase
set_option linter.unusedVariables false
set_option linter.unusedSimpArgs false
namespace Go.Proofs.Ytmfkfgonedgjnaa
open Go.Abs

/-! Validity of runs and regions. -/
def okB (x : Int) : Bool := decide (-4096 ≤ x) && decide (x < 4096)
def fitsB (r : Run) : Bool := decide (-1048576 ≤ r.a) && decide (r.a ≤ 1048576) && decide (-1048576 ≤ r.b) && decide (r.b ≤ 1048576)
/-- Run i of a list is in order: the package's test. -/
def rvAt (l : List Run) (i : Nat) : Bool := match l[i]?, l[i - 1]? with
  | some r, some p => decide (r.a < r.b) && fitsB r && (i == 0 || decide (p.b < r.a))
  | _, _ => false
def rvalid (l : List Run) : Bool := (List.range l.length).all (rvAt l)
/-- Run i of a row is in order: the reference's test. -/
def fnAt (l : List Run) (i : Nat) : Bool := match l[i]?, l[i - 1]? with
  | some r, some p => decide (-4096 ≤ r.a) && decide (r.a < r.b) && decide (r.b ≤ 4096) && (i == 0 || decide (p.b < r.a))
  | _, _ => false
def fine (l : List Run) : Bool := (List.range l.length).all (fnAt l) && decide (0 < l.length)
def rowAt (l : List Row) (i : Nat) : Bool := match l[i]?, l[i - 1]? with
  | some r, some p => okB r.y && (i == 0 || decide (p.y < r.y)) && fine r.runs
  | _, _ => false
def validR (l : List Row) : Bool := (List.range l.length).all (rowAt l)

theorem rvAt_some {l : List Run} {i : Nat} {r p : Run} (h : l[i]? = some r) (hp : l[i - 1]? = some p) : rvAt l i = (decide (r.a < r.b) && fitsB r && (i == 0 || decide (p.b < r.a))) := by simp only [rvAt, h, hp]
theorem fnAt_some {l : List Run} {i : Nat} {r p : Run} (h : l[i]? = some r) (hp : l[i - 1]? = some p) : fnAt l i = (decide (-4096 ≤ r.a) && decide (r.a < r.b) && decide (r.b ≤ 4096) && (i == 0 || decide (p.b < r.a))) := by simp only [fnAt, h, hp]
theorem rowAt_some {l : List Row} {i : Nat} {r p : Row} (h : l[i]? = some r) (hp : l[i - 1]? = some p) : rowAt l i = (okB r.y && (i == 0 || decide (p.y < r.y)) && fine r.runs) := by simp only [rowAt, h, hp]

theorem fitsB_bd {r : Run} (h : fitsB r = true) : -1048576 ≤ r.a ∧ r.a ≤ 1048576 ∧ -1048576 ≤ r.b ∧ r.b ≤ 1048576 := by
  simp [fitsB] at h; omega

/-- A valid list of runs: each is, and the bounds ascend. -/
theorem rvalid_asc {l : List Run} (h : rvalid l = true) : ∀ (j i : Nat) (r p : Run), i ≤ j → l[i]? = some p → l[j]? = some r → p.a ≤ r.a ∧ p.b ≤ r.b
  | 0, i, r, p, hij, hp, hr => by
    have : i = 0 := by omega
    subst this
    rw [hp] at hr; cases hr; exact ⟨Int.le_refl _, Int.le_refl _⟩
  | j + 1, i, r, p, hij, hp, hr => by
    by_cases e : i = j + 1
    · subst e; rw [hp] at hr; cases hr; exact ⟨Int.le_refl _, Int.le_refl _⟩
    · have hj := (List.getElem?_eq_some_iff.1 hr).1
      obtain ⟨q, hq⟩ : ∃ q, l[j]? = some q := getq (by omega)
      have ih := rvalid_asc h j i q p (by omega) hp hq
      have h1 := all_range_at h hj
      have h2 := all_range_at h (show j < l.length by omega)
      obtain ⟨q', hq'⟩ : ∃ q, l[j - 1]? = some q := getq (by omega)
      rw [rvAt_some hr (by simpa using hq)] at h1
      rw [rvAt_some hq hq'] at h2
      simp at h1 h2
      omega
theorem rvalid_at {l : List Run} (h : rvalid l = true) {i : Nat} {r : Run} (hr : l[i]? = some r) : r.a < r.b ∧ fitsB r = true := by
  have hi := (List.getElem?_eq_some_iff.1 hr).1
  obtain ⟨p, hp⟩ : ∃ q, l[i - 1]? = some q := getq (by omega)
  have h1 := all_range_at h hi
  rw [rvAt_some hr hp] at h1
  simp at h1
  exact ⟨h1.1.1, h1.1.2⟩

theorem fine_rv {l : List Run} (h : fine l = true) : rvalid l = true := by
  simp only [fine, Bool.and_eq_true] at h
  apply List.all_eq_true.2
  intro i hi
  have hi : i < l.length := by simpa using hi
  obtain ⟨r, hr⟩ := getq hi
  obtain ⟨p, hp⟩ : ∃ q, l[i - 1]? = some q := getq (by omega)
  have h1 := all_range_at h.1 hi
  rw [fnAt_some hr hp] at h1
  rw [rvAt_some hr hp]
  simp [fitsB] at h1 ⊢
  refine ⟨⟨by omega, by omega⟩, h1.2⟩

/-- The package's test of a row's runs is the reference's. -/
theorem fine_iff {l : List Run} {f z : Run} (hf : l[0]? = some f) (hz : l[l.length - 1]? = some z) : fine l = (rvalid l && okB f.a && okB (z.b - 1)) := by
  have hl := (List.getElem?_eq_some_iff.1 hf).1
  apply Bool.eq_iff_iff.2
  constructor
  · intro h
    have h0 := fine_rv h
    simp only [fine, Bool.and_eq_true] at h
    have h1 := all_range_at h.1 hl
    have h2 := all_range_at h.1 (show l.length - 1 < l.length by omega)
    obtain ⟨p, hp⟩ : ∃ q, l[l.length - 1 - 1]? = some q := getq (by omega)
    rw [fnAt_some hf (by simpa using hf)] at h1
    rw [fnAt_some hz hp] at h2
    simp [okB] at h1 h2 ⊢
    exact ⟨⟨h0, by omega⟩, by omega⟩
  · intro h
    simp only [Bool.and_eq_true] at h
    obtain ⟨⟨h0, h1⟩, h2⟩ := h
    simp [okB] at h1 h2
    simp only [fine, Bool.and_eq_true]
    refine ⟨List.all_eq_true.2 fun i hi => ?_, by simpa using hl⟩
    have hi : i < l.length := by simpa using hi
    obtain ⟨r, hr⟩ := getq hi
    obtain ⟨p, hp⟩ : ∃ q, l[i - 1]? = some q := getq (by omega)
    have a1 := rvalid_asc h0 i 0 r f (Nat.zero_le _) hf hr
    have a2 := rvalid_asc h0 (l.length - 1) i z r (by omega) hr hz
    have a3 := rvalid_at h0 hr
    have a4 := all_range_at h0 hi
    rw [rvAt_some hr hp] at a4
    rw [fnAt_some hr hp]
    simp at a4 ⊢
    exact ⟨⟨⟨by omega, a3.1⟩, by omega⟩, a4.2⟩

theorem ok_ok (x : Int) : PC Try.prog 58 [.int .i64 x] (.p (.bool (okB x))) := by
  refine pc_of_awp cx (fn := Try.f58) (c := _) Try.func58 rfl rfl (Nat.le_of_ble_eq_true rfl) ?_
  rw [Try.ntmps58]; (repeat (first | refine awp_seq ?_ | refine awp_block ?_ | refine awp_scope ?_ | refine awp_skip ?_ | refine awp_exit ?_ | refine awp_ret ?_ | refine sq_n ?_ | refine sq_r ?_ | refine sq_x ?_ | refine bq_n ?_ | refine bq_r ?_ | refine bq_x ?_ | refine bq_y rfl ?_ | refine pq_n ?_ | refine pq_r ?_ | refine pq_x ?_))
  refine awp_region cx [] fun K hK => ?_
  simp [push_cast]
  repeat (refine And.intro (by clear hK; intros; first | omega | (simp_all; done) | (simp_all <;> omega)) ?_)
  refine hK _ ?_; clear hK K; (repeat (first | refine awp_seq ?_ | refine awp_block ?_ | refine awp_scope ?_ | refine awp_skip ?_ | refine awp_exit ?_ | refine awp_ret ?_ | refine sq_n ?_ | refine sq_r ?_ | refine sq_x ?_ | refine bq_n ?_ | refine bq_r ?_ | refine bq_x ?_ | refine bq_y rfl ?_ | refine pq_n ?_ | refine pq_r ?_ | refine pq_x ?_))
  refine awp_region cx [] fun K hK => ?_
  simp [push_cast]
  repeat (refine And.intro (by clear hK; intros; first | omega | (simp_all; done) | (simp_all <;> omega)) ?_)
  refine hK _ ?_; clear hK K; (repeat (first | refine awp_seq ?_ | refine awp_block ?_ | refine awp_scope ?_ | refine awp_skip ?_ | refine awp_exit ?_ | refine awp_ret ?_ | refine sq_n ?_ | refine sq_r ?_ | refine sq_x ?_ | refine bq_n ?_ | refine bq_r ?_ | refine bq_x ?_ | refine bq_y rfl ?_ | refine pq_n ?_ | refine pq_r ?_ | refine pq_x ?_))
  simp [push_cast, okB]

theorem fits_ok (r : Run) : PC Try.prog 92 [.agg r.row] (.p (.bool (fitsB r))) := by
  refine pc_of_awp cx (fn := Try.f92) (c := _) Try.func92 rfl rfl (Nat.le_of_ble_eq_true rfl) ?_
  rw [Try.ntmps92]; (repeat (first | refine awp_seq ?_ | refine awp_block ?_ | refine awp_scope ?_ | refine awp_skip ?_ | refine awp_exit ?_ | refine awp_ret ?_ | refine sq_n ?_ | refine sq_r ?_ | refine sq_x ?_ | refine bq_n ?_ | refine bq_r ?_ | refine bq_x ?_ | refine bq_y rfl ?_ | refine pq_n ?_ | refine pq_r ?_ | refine pq_x ?_))
  refine awp_region cx [] fun K hK => ?_
  simp [push_cast]
  repeat (refine And.intro (by clear hK; intros; first | omega | (simp_all; done) | (simp_all <;> omega)) ?_)
  refine hK _ ?_; clear hK K; (repeat (first | refine awp_seq ?_ | refine awp_block ?_ | refine awp_scope ?_ | refine awp_skip ?_ | refine awp_exit ?_ | refine awp_ret ?_ | refine sq_n ?_ | refine sq_r ?_ | refine sq_x ?_ | refine bq_n ?_ | refine bq_r ?_ | refine bq_x ?_ | refine bq_y rfl ?_ | refine pq_n ?_ | refine pq_r ?_ | refine pq_x ?_))
  refine awp_region cx [] fun K hK => ?_
  simp [push_cast]
  repeat (refine And.intro (by clear hK; intros; first | omega | (simp_all; done) | (simp_all <;> omega)) ?_)
  refine hK _ ?_; clear hK K; (repeat (first | refine awp_seq ?_ | refine awp_block ?_ | refine awp_scope ?_ | refine awp_skip ?_ | refine awp_exit ?_ | refine awp_ret ?_ | refine sq_n ?_ | refine sq_r ?_ | refine sq_x ?_ | refine bq_n ?_ | refine bq_r ?_ | refine bq_x ?_ | refine bq_y rfl ?_ | refine pq_n ?_ | refine pq_r ?_ | refine pq_x ?_))
  simp [push_cast, fitsB, Bool.and_assoc]

theorem rvalid_ok (l : List Run) (hl : l.length ≤ 1000000) : PC Try.prog 68 [encRuns l] (.p (.bool (rvalid l))) := by
  refine pc_of_awp cx (fn := Try.f68) (c := _) Try.func68 rfl rfl (Nat.le_of_ble_eq_true rfl) ?_
  rw [Try.ntmps68]; (repeat (first | refine awp_seq ?_ | refine awp_block ?_ | refine awp_scope ?_ | refine awp_skip ?_ | refine awp_exit ?_ | refine awp_ret ?_ | refine sq_n ?_ | refine sq_r ?_ | refine sq_x ?_ | refine bq_n ?_ | refine bq_r ?_ | refine bq_x ?_ | refine bq_y rfl ?_ | refine pq_n ?_ | refine pq_r ?_ | refine pq_x ?_))
  refine awp_region cx [] fun K hK => ?_
  simp [push_cast]
  repeat (refine And.intro (by clear hK; intros; first | omega | (simp_all; done) | (simp_all <;> omega)) ?_)
  refine hK _ ?_; clear hK K; (repeat (first | refine awp_seq ?_ | refine awp_block ?_ | refine awp_scope ?_ | refine awp_skip ?_ | refine awp_exit ?_ | refine awp_ret ?_ | refine sq_n ?_ | refine sq_r ?_ | refine sq_x ?_ | refine bq_n ?_ | refine bq_r ?_ | refine bq_x ?_ | refine bq_y rfl ?_ | refine pq_n ?_ | refine pq_r ?_ | refine pq_x ?_))
  refine awp_region cx [] fun K hK => ?_
  simp [push_cast]
  repeat (refine And.intro (by clear hK; intros; first | omega | (simp_all; done) | (simp_all <;> omega)) ?_)
  refine hK _ ?_; clear hK K; (repeat (first | refine awp_seq ?_ | refine awp_block ?_ | refine awp_scope ?_ | refine awp_skip ?_ | refine awp_exit ?_ | refine awp_ret ?_ | refine sq_n ?_ | refine sq_r ?_ | refine sq_x ?_ | refine bq_n ?_ | refine bq_r ?_ | refine bq_x ?_ | refine bq_y rfl ?_ | refine pq_n ?_ | refine pq_r ?_ | refine pq_x ?_))
  refine awp_loop (β := Nat) (fun k => ⟨38, [(0, .d (encRuns l)), (5, .d (encRuns l)), (6, .d (.int .i64 l.length)), (7, .d (.int .i64 k))], [], 1⟩) (fun k => k ≤ l.length ∧ (List.range k).all (rvAt l) = true) (fun k => l.length - k) 0 ?_ ⟨Nat.zero_le _, rfl⟩ ?_
  · refine weak_of [] rfl (by simp [upT, up, upL, push_cast]) (by simp [upH, upR, upL, up, push_cast]) (by simp [namesOk, push_cast]) (by simp [olds])
  · intro k ⟨hk, hall⟩
    (repeat (first | refine awp_seq ?_ | refine awp_block ?_ | refine awp_scope ?_ | refine awp_skip ?_ | refine awp_exit ?_ | refine awp_ret ?_ | refine sq_n ?_ | refine sq_r ?_ | refine sq_x ?_ | refine bq_n ?_ | refine bq_r ?_ | refine bq_x ?_ | refine bq_y rfl ?_ | refine pq_n ?_ | refine pq_r ?_ | refine pq_x ?_))
    refine awp_region cx [] fun K hK => ?_
    simp [push_cast]
    repeat (refine And.intro (by clear hK; intros; first | omega | (simp_all; done) | (simp_all <;> omega)) ?_)
    refine hK _ ?_; clear hK K; (repeat (first | refine awp_seq ?_ | refine awp_block ?_ | refine awp_scope ?_ | refine awp_skip ?_ | refine awp_exit ?_ | refine awp_ret ?_ | refine sq_n ?_ | refine sq_r ?_ | refine sq_x ?_ | refine bq_n ?_ | refine bq_r ?_ | refine bq_x ?_ | refine bq_y rfl ?_ | refine pq_n ?_ | refine pq_r ?_ | refine pq_x ?_))
    refine awp_cond (b := decide ((k : Int) < l.length)) (by simp [push_cast]) (fun hb => ?_) (fun hb => ?_) <;> ((repeat (first | refine awp_seq ?_ | refine awp_block ?_ | refine awp_scope ?_ | refine awp_skip ?_ | refine awp_exit ?_ | refine awp_ret ?_ | refine sq_n ?_ | refine sq_r ?_ | refine sq_x ?_ | refine bq_n ?_ | refine bq_r ?_ | refine bq_x ?_ | refine bq_y rfl ?_ | refine pq_n ?_ | refine pq_r ?_ | refine pq_x ?_)))
    · have hlt : k < l.length := by simpa using hb
      obtain ⟨r, hr⟩ := getq hlt
      obtain ⟨p, hp⟩ : ∃ p, l[k - 1]? = some p := getq (by omega)
      have e0 := wrap_i64 (n := (k : Int) + 1) (by omega) (by omega)
      have hat := rvAt_some hr hp
      have c1 := fits_ok r
      obtain ⟨ra, rb⟩ := r
      refine awp_region cx [] fun K hK => ?_
      simp [push_cast, hr, Run.row]
      repeat (refine And.intro (by clear hK; intros; first | omega | (simp_all; done) | (simp_all <;> omega)) ?_)
      refine hK _ ?_; clear hK K; (repeat (first | refine awp_seq ?_ | refine awp_block ?_ | refine awp_scope ?_ | refine awp_skip ?_ | refine awp_exit ?_ | refine awp_ret ?_ | refine sq_n ?_ | refine sq_r ?_ | refine sq_x ?_ | refine bq_n ?_ | refine bq_r ?_ | refine bq_x ?_ | refine bq_y rfl ?_ | refine pq_n ?_ | refine pq_r ?_ | refine pq_x ?_))
      by_cases h1 : ra < rb
      · have h1' : ¬ (rb ≤ ra) := by omega
        generalize hv : fitsB ⟨ra, rb⟩ = v at c1
        rw [hv] at hat
        cases v with
        | true =>
          by_cases hk0 : k = 0
          · subst hk0
            refine awp_region_draw cx mixed [(7, .p (.bool true))] fun K hK => ?_
            simp [push_cast, h1', c1, hr, Run.row]
            repeat (refine And.intro (by clear hK; intros; first | omega | (simp_all; done) | (simp_all <;> omega)) ?_)
            refine hK _ _ (by kernel_rfl) ?_; clear hK K; (repeat (first | refine awp_seq ?_ | refine awp_block ?_ | refine awp_scope ?_ | refine awp_skip ?_ | refine awp_exit ?_ | refine awp_ret ?_ | refine sq_n ?_ | refine sq_r ?_ | refine sq_x ?_ | refine bq_n ?_ | refine bq_r ?_ | refine bq_x ?_ | refine bq_y rfl ?_ | refine pq_n ?_ | refine pq_r ?_ | refine pq_x ?_))
            refine awp_cond (b := false) (by simp [push_cast]) (fun hb => ?_) (fun hb => ?_) <;> ((repeat (first | refine awp_seq ?_ | refine awp_block ?_ | refine awp_scope ?_ | refine awp_skip ?_ | refine awp_exit ?_ | refine awp_ret ?_ | refine sq_n ?_ | refine sq_r ?_ | refine sq_x ?_ | refine bq_n ?_ | refine bq_r ?_ | refine bq_x ?_ | refine bq_y rfl ?_ | refine pq_n ?_ | refine pq_r ?_ | refine pq_x ?_)))
            · simp at hb
            · refine awp_region cx [] fun K hK => ?_
              simp [push_cast, e0]
              repeat (refine And.intro (by clear hK; intros; first | omega | (simp_all; done) | (simp_all <;> omega)) ?_)
              refine hK _ ?_; clear hK K; (repeat (first | refine awp_seq ?_ | refine awp_block ?_ | refine awp_scope ?_ | refine awp_skip ?_ | refine awp_exit ?_ | refine awp_ret ?_ | refine sq_n ?_ | refine sq_r ?_ | refine sq_x ?_ | refine bq_n ?_ | refine bq_r ?_ | refine bq_x ?_ | refine bq_y rfl ?_ | refine pq_n ?_ | refine pq_r ?_ | refine pq_x ?_))
              refine ⟨1, ⟨hlt, by rw [all_range_succ, hall, hat]; simp [h1]⟩, by omega, ?_⟩
              refine weak_of [] rfl (by simp [upT, up, upL, push_cast]) (by simp [upH, upR, upL, up, push_cast]) (by simp [namesOk, push_cast]) (by simp [olds])
          · have e1 := wrap_i64 (n := (k : Int) - 1) (by omega) (by omega)
            have e2 : ((k : Int) - 1).toNat = k - 1 := by omega
            have hk1 : (0 : Int) < k := by omega
            have hk2 : (0 : Int) ≤ k - 1 := by omega
            have hk3 : 0 < k := by omega
            obtain ⟨pa, pb⟩ := p
            refine awp_region_draw cx mixed [(7, .p (.bool true))] fun K hK => ?_
            simp [push_cast, h1', c1, hk1, hk3, hk2, e1, e2, hp, Run.row]
            repeat (refine And.intro (by clear hK; intros; first | omega | (simp_all; done) | (simp_all <;> omega)) ?_)
            refine hK _ _ (by kernel_rfl) ?_; clear hK K; (repeat (first | refine awp_seq ?_ | refine awp_block ?_ | refine awp_scope ?_ | refine awp_skip ?_ | refine awp_exit ?_ | refine awp_ret ?_ | refine sq_n ?_ | refine sq_r ?_ | refine sq_x ?_ | refine bq_n ?_ | refine bq_r ?_ | refine bq_x ?_ | refine bq_y rfl ?_ | refine pq_n ?_ | refine pq_r ?_ | refine pq_x ?_))
            refine awp_cond (b := decide (ra ≤ pb)) (by simp [push_cast, hk3]) (fun hb => ?_) (fun hb => ?_) <;> ((repeat (first | refine awp_seq ?_ | refine awp_block ?_ | refine awp_scope ?_ | refine awp_skip ?_ | refine awp_exit ?_ | refine awp_ret ?_ | refine sq_n ?_ | refine sq_r ?_ | refine sq_x ?_ | refine bq_n ?_ | refine bq_r ?_ | refine bq_x ?_ | refine bq_y rfl ?_ | refine pq_n ?_ | refine pq_r ?_ | refine pq_x ?_)))
            · have h3 : ¬ pb < ra := by simpa using hb
              refine awp_region cx [] fun K hK => ?_
              simp [push_cast]
              repeat (refine And.intro (by clear hK; intros; first | omega | (simp_all; done) | (simp_all <;> omega)) ?_)
              refine hK _ ?_; clear hK K; (repeat (first | refine awp_seq ?_ | refine awp_block ?_ | refine awp_scope ?_ | refine awp_skip ?_ | refine awp_exit ?_ | refine awp_ret ?_ | refine sq_n ?_ | refine sq_r ?_ | refine sq_x ?_ | refine bq_n ?_ | refine bq_r ?_ | refine bq_x ?_ | refine bq_y rfl ?_ | refine pq_n ?_ | refine pq_r ?_ | refine pq_x ?_))
              simp [push_cast]
              refine all_range_false hlt ?_
              rw [hat]; simp [h1, hk0, h3]
            · have h3 : pb < ra := by simpa using hb
              refine awp_region cx [] fun K hK => ?_
              simp [push_cast, e0]
              repeat (refine And.intro (by clear hK; intros; first | omega | (simp_all; done) | (simp_all <;> omega)) ?_)
              refine hK _ ?_; clear hK K; (repeat (first | refine awp_seq ?_ | refine awp_block ?_ | refine awp_scope ?_ | refine awp_skip ?_ | refine awp_exit ?_ | refine awp_ret ?_ | refine sq_n ?_ | refine sq_r ?_ | refine sq_x ?_ | refine bq_n ?_ | refine bq_r ?_ | refine bq_x ?_ | refine bq_y rfl ?_ | refine pq_n ?_ | refine pq_r ?_ | refine pq_x ?_))
              refine ⟨k + 1, ⟨hlt, by rw [all_range_succ, hall, hat]; simp [h1, h3]⟩, by omega, ?_⟩
              refine weak_of [] rfl (by simp [upT, up, upL, push_cast]) (by simp [upH, upR, upL, up, push_cast]) (by simp [namesOk, push_cast]) (by simp [olds])
        | false =>
          by_cases hk0 : k = 0
          · subst hk0
            refine awp_region_draw cx mixed [(7, .p (.bool false))] fun K hK => ?_
            simp [push_cast, h1', c1, hr, Run.row]
            repeat (refine And.intro (by clear hK; intros; first | omega | (simp_all; done) | (simp_all <;> omega)) ?_)
            refine hK _ _ (by kernel_rfl) ?_; clear hK K; (repeat (first | refine awp_seq ?_ | refine awp_block ?_ | refine awp_scope ?_ | refine awp_skip ?_ | refine awp_exit ?_ | refine awp_ret ?_ | refine sq_n ?_ | refine sq_r ?_ | refine sq_x ?_ | refine bq_n ?_ | refine bq_r ?_ | refine bq_x ?_ | refine bq_y rfl ?_ | refine pq_n ?_ | refine pq_r ?_ | refine pq_x ?_))
            refine awp_cond (b := true) (by simp [push_cast]) (fun hb => ?_) (fun hb => ?_) <;> ((repeat (first | refine awp_seq ?_ | refine awp_block ?_ | refine awp_scope ?_ | refine awp_skip ?_ | refine awp_exit ?_ | refine awp_ret ?_ | refine sq_n ?_ | refine sq_r ?_ | refine sq_x ?_ | refine bq_n ?_ | refine bq_r ?_ | refine bq_x ?_ | refine bq_y rfl ?_ | refine pq_n ?_ | refine pq_r ?_ | refine pq_x ?_)))
            · refine awp_region cx [] fun K hK => ?_
              simp [push_cast]
              repeat (refine And.intro (by clear hK; intros; first | omega | (simp_all; done) | (simp_all <;> omega)) ?_)
              refine hK _ ?_; clear hK K; (repeat (first | refine awp_seq ?_ | refine awp_block ?_ | refine awp_scope ?_ | refine awp_skip ?_ | refine awp_exit ?_ | refine awp_ret ?_ | refine sq_n ?_ | refine sq_r ?_ | refine sq_x ?_ | refine bq_n ?_ | refine bq_r ?_ | refine bq_x ?_ | refine bq_y rfl ?_ | refine pq_n ?_ | refine pq_r ?_ | refine pq_x ?_))
              simp [push_cast]
              refine all_range_false hlt ?_
              rw [hat]; simp
            · simp at hb
          · have e1 := wrap_i64 (n := (k : Int) - 1) (by omega) (by omega)
            have e2 : ((k : Int) - 1).toNat = k - 1 := by omega
            obtain ⟨pa, pb⟩ := p
            refine awp_region_draw cx mixed [(7, .p (.bool false))] fun K hK => ?_
            simp [push_cast, h1', c1, e1, e2, hp, Run.row]
            repeat (refine And.intro (by clear hK; intros; first | omega | (simp_all; done) | (simp_all <;> omega)) ?_)
            refine hK _ _ (by kernel_rfl) ?_; clear hK K; (repeat (first | refine awp_seq ?_ | refine awp_block ?_ | refine awp_scope ?_ | refine awp_skip ?_ | refine awp_exit ?_ | refine awp_ret ?_ | refine sq_n ?_ | refine sq_r ?_ | refine sq_x ?_ | refine bq_n ?_ | refine bq_r ?_ | refine bq_x ?_ | refine bq_y rfl ?_ | refine pq_n ?_ | refine pq_r ?_ | refine pq_x ?_))
            refine awp_cond (b := true) (by simp [push_cast]) (fun hb => ?_) (fun hb => ?_) <;> ((repeat (first | refine awp_seq ?_ | refine awp_block ?_ | refine awp_scope ?_ | refine awp_skip ?_ | refine awp_exit ?_ | refine awp_ret ?_ | refine sq_n ?_ | refine sq_r ?_ | refine sq_x ?_ | refine bq_n ?_ | refine bq_r ?_ | refine bq_x ?_ | refine bq_y rfl ?_ | refine pq_n ?_ | refine pq_r ?_ | refine pq_x ?_)))
            · refine awp_region cx [] fun K hK => ?_
              simp [push_cast]
              repeat (refine And.intro (by clear hK; intros; first | omega | (simp_all; done) | (simp_all <;> omega)) ?_)
              refine hK _ ?_; clear hK K; (repeat (first | refine awp_seq ?_ | refine awp_block ?_ | refine awp_scope ?_ | refine awp_skip ?_ | refine awp_exit ?_ | refine awp_ret ?_ | refine sq_n ?_ | refine sq_r ?_ | refine sq_x ?_ | refine bq_n ?_ | refine bq_r ?_ | refine bq_x ?_ | refine bq_y rfl ?_ | refine pq_n ?_ | refine pq_r ?_ | refine pq_x ?_))
              simp [push_cast]
              refine all_range_false hlt ?_
              rw [hat]; simp
            · simp at hb
      · have h1' : rb ≤ ra := by omega
        have e1 := wrap_i64 (n := (k : Int) - 1) (by omega) (by omega)
        by_cases hk0 : k = 0
        · subst hk0
          refine awp_region_draw cx mixed [(7, .skip)] fun K hK => ?_
          simp [push_cast, h1', hr, Run.row]
          repeat (refine And.intro (by clear hK; intros; first | omega | (simp_all; done) | (simp_all <;> omega)) ?_)
          refine hK _ _ (by kernel_rfl) ?_; clear hK K; (repeat (first | refine awp_seq ?_ | refine awp_block ?_ | refine awp_scope ?_ | refine awp_skip ?_ | refine awp_exit ?_ | refine awp_ret ?_ | refine sq_n ?_ | refine sq_r ?_ | refine sq_x ?_ | refine bq_n ?_ | refine bq_r ?_ | refine bq_x ?_ | refine bq_y rfl ?_ | refine pq_n ?_ | refine pq_r ?_ | refine pq_x ?_))
          refine awp_cond (b := true) (by simp [push_cast]) (fun hb => ?_) (fun hb => ?_) <;> ((repeat (first | refine awp_seq ?_ | refine awp_block ?_ | refine awp_scope ?_ | refine awp_skip ?_ | refine awp_exit ?_ | refine awp_ret ?_ | refine sq_n ?_ | refine sq_r ?_ | refine sq_x ?_ | refine bq_n ?_ | refine bq_r ?_ | refine bq_x ?_ | refine bq_y rfl ?_ | refine pq_n ?_ | refine pq_r ?_ | refine pq_x ?_)))
          · refine awp_region cx [] fun K hK => ?_
            simp [push_cast]
            repeat (refine And.intro (by clear hK; intros; first | omega | (simp_all; done) | (simp_all <;> omega)) ?_)
            refine hK _ ?_; clear hK K; (repeat (first | refine awp_seq ?_ | refine awp_block ?_ | refine awp_scope ?_ | refine awp_skip ?_ | refine awp_exit ?_ | refine awp_ret ?_ | refine sq_n ?_ | refine sq_r ?_ | refine sq_x ?_ | refine bq_n ?_ | refine bq_r ?_ | refine bq_x ?_ | refine bq_y rfl ?_ | refine pq_n ?_ | refine pq_r ?_ | refine pq_x ?_))
            simp [push_cast]
            refine all_range_false hlt ?_
            rw [hat]; simp [h1]
          · simp at hb
        · have e2 : ((k : Int) - 1).toNat = k - 1 := by omega
          obtain ⟨pa, pb⟩ := p
          refine awp_region_draw cx mixed [(7, .skip)] fun K hK => ?_
          simp [push_cast, h1', e1, e2, hp, Run.row]
          repeat (refine And.intro (by clear hK; intros; first | omega | (simp_all; done) | (simp_all <;> omega)) ?_)
          refine hK _ _ (by kernel_rfl) ?_; clear hK K; (repeat (first | refine awp_seq ?_ | refine awp_block ?_ | refine awp_scope ?_ | refine awp_skip ?_ | refine awp_exit ?_ | refine awp_ret ?_ | refine sq_n ?_ | refine sq_r ?_ | refine sq_x ?_ | refine bq_n ?_ | refine bq_r ?_ | refine bq_x ?_ | refine bq_y rfl ?_ | refine pq_n ?_ | refine pq_r ?_ | refine pq_x ?_))
          refine awp_cond (b := true) (by simp [push_cast]) (fun hb => ?_) (fun hb => ?_) <;> ((repeat (first | refine awp_seq ?_ | refine awp_block ?_ | refine awp_scope ?_ | refine awp_skip ?_ | refine awp_exit ?_ | refine awp_ret ?_ | refine sq_n ?_ | refine sq_r ?_ | refine sq_x ?_ | refine bq_n ?_ | refine bq_r ?_ | refine bq_x ?_ | refine bq_y rfl ?_ | refine pq_n ?_ | refine pq_r ?_ | refine pq_x ?_)))
          · refine awp_region cx [] fun K hK => ?_
            simp [push_cast]
            repeat (refine And.intro (by clear hK; intros; first | omega | (simp_all; done) | (simp_all <;> omega)) ?_)
            refine hK _ ?_; clear hK K; (repeat (first | refine awp_seq ?_ | refine awp_block ?_ | refine awp_scope ?_ | refine awp_skip ?_ | refine awp_exit ?_ | refine awp_ret ?_ | refine sq_n ?_ | refine sq_r ?_ | refine sq_x ?_ | refine bq_n ?_ | refine bq_r ?_ | refine bq_x ?_ | refine bq_y rfl ?_ | refine pq_n ?_ | refine pq_r ?_ | refine pq_x ?_))
            simp [push_cast]
            refine all_range_false hlt ?_
            rw [hat]; simp [h1]
          · simp at hb
    · have hge : k = l.length := by simp at hb; omega
      subst hge
      refine awp_region cx [] fun K hK => ?_
      simp [push_cast]
      repeat (refine And.intro (by clear hK; intros; first | omega | (simp_all; done) | (simp_all <;> omega)) ?_)
      refine hK _ ?_; clear hK K; (repeat (first | refine awp_seq ?_ | refine awp_block ?_ | refine awp_scope ?_ | refine awp_skip ?_ | refine awp_exit ?_ | refine awp_ret ?_ | refine sq_n ?_ | refine sq_r ?_ | refine sq_x ?_ | refine bq_n ?_ | refine bq_r ?_ | refine bq_x ?_ | refine bq_y rfl ?_ | refine pq_n ?_ | refine pq_r ?_ | refine pq_x ?_))
      simp [push_cast]
      exact hall
end Go.Proofs.Ytmfkfgonedgjnaa
