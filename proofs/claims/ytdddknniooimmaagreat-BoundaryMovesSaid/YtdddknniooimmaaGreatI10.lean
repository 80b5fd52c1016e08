/-
  Texts of this seat put together: BK5, AbsH, BW3, BW12, BD6, BK6, BK7, BW6.
-/
import Derived.Test.YtdddknniooimmaaGreatI9
import Derived.Test.YtdddknniooimmaaGreatI5
import Derived.Test.YtdddknniooimmaaGreatI4
import Derived.Test.YtdddknniooimmaaGreatI7
import Derived.Maps.RangeRun
set_option linter.unusedVariables false
set_option linter.unusedSimpArgs false
set_option maxRecDepth 100000
namespace Go.Proofs.YtdddknniooimmaaGreat
open Go.Abs

def act (y : Int) (u : Up) : Bool := decide (u.lo ≤ y) && decide (y < u.hi)
def wS (U : List Up) (x y : Int) : Int := ((U.filter fun u => act y u && decide (x < u.x)).map (·.s)).sum
def tot (U : List Up) (y : Int) : Int := ((U.filter (act y)).map (·.s)).sum
theorem wS_app (A B : List Up) (x y : Int) : wS (A ++ B) x y = wS A x y + wS B x y := by simp [wS, List.filter_append]
theorem tot_app (A B : List Up) (y : Int) : tot (A ++ B) y = tot A y + tot B y := by simp [tot, List.filter_append]
theorem wS_one (u : Up) (x y : Int) : wS [u] x y = if (act y u && decide (x < u.x)) = true then u.s else 0 := by
  unfold wS
  rw [List.filter_cons]
  split <;> simp
theorem tot_one (u : Up) (y : Int) : tot [u] y = if act y u = true then u.s else 0 := by
  unfold tot
  rw [List.filter_cons]
  split <;> simp
theorem perm_sum {l m : List Int} (h : l.Perm m) : l.sum = m.sum := by
  induction h with
  | nil => rfl
  | cons a _ ih => simp [ih]
  | swap a b l => simp; omega
  | trans _ _ h1 h2 => exact h1.trans h2
theorem wS_perm {A B : List Up} (h : A.Perm B) (x y : Int) : wS A x y = wS B x y := perm_sum ((h.filter _).map _)
theorem tot_perm {A B : List Up} (h : A.Perm B) (y : Int) : tot A y = tot B y := perm_sum ((h.filter _).map _)
theorem wS_tot {U : List Up} {x y : Int} (h : ∀ u ∈ U, act y u = true → x < u.x) : wS U x y = tot U y := by
  unfold wS tot
  congr 2
  refine List.filter_congr fun u hu => ?_
  cases ha : act y u with
  | false => rfl
  | true => simp [h u hu ha]
structure BM (U : List Up) (y : Int) (t : List Run × Int × Int) : Prop where
  w : t.2.1 = tot U y
  r : ∀ u ∈ U, act y u = true → t.2.2 ≤ u.x
  at_ : t.2.2 = 4096 ∨ ∃ u ∈ U, u.x = t.2.2
  mean : ∀ x, inR t.1 x = true ↔ t.2.2 ≤ x ∧ 0 < wS U x y
theorem bandF_mean {U : List Up} (y : Int) (hd : U.Pairwise fun p q => q.x ≤ p.x) (hx : ∀ u ∈ U, u.x ≤ 4096) : ∀ i, i ≤ U.length → BM (U.take i) y (bandF (U.take i) y)
  | 0, _ => by
    refine ⟨by simp [bandF, tot], by simp, .inl rfl, fun x => ?_⟩
    simp [bandF, inR, wS]
  | i + 1, hi => by
    have ih := bandF_mean y hd hx i (by omega)
    obtain ⟨u, hu⟩ := getq (l := U) (k := i) (by omega)
    have hux := hx u (List.mem_of_getElem? hu)
    have hle : ∀ v ∈ U.take i, u.x ≤ v.x := fun v hv => by
      obtain ⟨j, hj⟩ := List.mem_iff_getElem?.1 hv
      have hjl := (List.getElem?_eq_some_iff.1 hj).1
      rw [List.length_take] at hjl
      rw [List.getElem?_take, if_pos (by omega)] at hj
      obtain ⟨h1, rfl⟩ := List.getElem?_eq_some_iff.1 hj
      obtain ⟨h2, rfl⟩ := List.getElem?_eq_some_iff.1 hu
      exact List.pairwise_iff_getElem.1 hd j i h1 h2 (by omega)
    have hT : U.take (i + 1) = U.take i ++ [u] := by rw [List.take_add_one, hu]; rfl
    rw [bandF_take hu, hT]
    generalize U.take i = V at *
    generalize bandF V y = t at *
    obtain ⟨out, w, r⟩ := t
    obtain ⟨i1, i2, i3, i4⟩ := ih
    simp only at i1 i2 i3 i4
    have hur : u.x ≤ r := by
      rcases i3 with rfl | ⟨v, hv, rfl⟩
      · exact hux
      · exact hle v hv
    unfold bandStep
    by_cases ha : act y u = true
    · have hc : ¬ (decide (y < u.lo) || decide (u.hi ≤ y)) = true := by
        simp [act] at ha; simp; omega
      rw [if_neg hc]
      refine ⟨?_, ?_, .inr ⟨u, by simp, rfl⟩, fun x => ?_⟩
      · show w + u.s = _
        rw [tot_app, tot_one, if_pos ha, i1]
      · intro v hv hav
        show u.x ≤ v.x
        rcases List.mem_append.1 hv with h | h
        · exact hle v h
        · have := List.mem_singleton.1 h; rw [this]; exact Int.le_refl _
      · show inR (if (decide (0 < w) && decide (u.x < r)) = true then out ++ [⟨u.x, r⟩] else out) x = true ↔ u.x ≤ x ∧ _
        have hin : inR (if (decide (0 < w) && decide (u.x < r)) = true then out ++ [⟨u.x, r⟩] else out) x = true ↔ (inR out x = true ∨ (0 < w ∧ u.x ≤ x ∧ x < r)) := by
          by_cases c2 : (decide (0 < w) && decide (u.x < r)) = true
          · rw [if_pos c2, inR_app]
            simp at c2 ⊢
            constructor
            · rintro (h | h)
              · exact .inl h
              · exact .inr ⟨c2.1, h⟩
            · rintro (h | h)
              · exact .inl h
              · exact .inr h.2
          · rw [if_neg c2]
            constructor
            · exact .inl
            · rintro (h | h)
              · exact h
              · simp at c2; omega
        rw [hin, i4, wS_app, wS_one, ha]
        by_cases hxu : x < u.x
        · have h1 : ¬ r ≤ x := by omega
          have h2 : ¬ u.x ≤ x := by omega
          simp [h1, h2]
        · rw [if_neg (by simp [hxu])]
          have h2 : u.x ≤ x := by omega
          by_cases hr : r ≤ x
          · have h3 : ¬ x < r := by omega
            simp [hr, h2, h3]
          · have h3 : x < r := by omega
            have h4 : wS V x y = w := by rw [i1]; exact wS_tot fun v hv hav => by have := i2 v hv hav; omega
            simp [hr, h2, h3, h4]
    · have hc : (decide (y < u.lo) || decide (u.hi ≤ y)) = true := by
        simp [act] at ha; simp; omega
      rw [if_pos hc]
      have ha' : act y u = false := by simpa using ha
      refine ⟨?_, ?_, ?_, fun x => ?_⟩
      · show w = _
        rw [tot_app, tot_one, if_neg ha, i1]; omega
      · intro v hv hav
        rcases List.mem_append.1 hv with h | h
        · exact i2 v h hav
        · have := List.mem_singleton.1 h; rw [this] at hav; exact absurd hav ha
      · rcases i3 with h | ⟨v, hv, h⟩
        · exact .inl h
        · exact .inr ⟨v, by simp [hv], h⟩
      · show inR out x = true ↔ r ≤ x ∧ _
        rw [i4, wS_app, wS_one, ha']; simp
theorem band_mean {U : List Up} {y : Int} (hd : U.Pairwise fun p q => q.x ≤ p.x) (hf : ∀ u ∈ U, FineU u) (ht : tot U y = 0) (x : Int) : inR (bandL U y) x = true ↔ 0 < wS U x y := by
  rw [(bandL_facts hf y).2.2]
  have h := bandF_mean y hd (fun u hu => (hf u hu).x.2) U.length (Nat.le_refl _)
  rw [List.take_length] at h
  rw [h.mean]
  constructor
  · exact And.right
  · intro hw
    refine ⟨?_, hw⟩
    apply Classical.byContradiction
    intro hn
    have := wS_tot (U := U) (x := x) (y := y) fun u hu ha => by have := h.r u hu ha; omega
    omega
theorem ends_facts (U : List Up) : (endsC U).Pairwise (· < ·) ∧ ∀ e, e ∈ endsC U ↔ ∃ u ∈ U, e = u.lo ∨ e = u.hi := by
  have hsp : ((endsL U).mergeSort fun x y => decide (x ≤ y)).Pairwise (· ≤ ·) := by
    have := List.pairwise_mergeSort (le := fun x y : Int => decide (x ≤ y)) (fun a b c h1 h2 => by simp at *; omega) (fun a b => by simp; omega) (endsL U)
    exact this.imp fun {a b} h => by simpa using h
  obtain ⟨h1, h2⟩ := compact_sorted hsp
  refine ⟨h1, fun e => ?_⟩
  unfold endsC
  rw [h2, (List.mergeSort_perm _ _).mem_iff]
  simp [endsL]
theorem wS_same {U : List Up} {lo hi y : Int} (hl : lo ≤ y) (hh : y < hi) (hno : ∀ u ∈ U, (u.lo ≤ lo ∨ hi ≤ u.lo) ∧ (u.hi ≤ lo ∨ hi ≤ u.hi)) : (∀ u ∈ U, act lo u = act y u) := by
  intro u hu
  obtain ⟨h1, h2⟩ := hno u hu
  unfold act
  rw [Bool.eq_iff_iff]
  simp
  omega
theorem back_facts {U : List Up} (hd : U.Pairwise fun p q => q.x ≤ p.x) (hf : ∀ u ∈ U, FineU u) (ht : ∀ y, tot U y = 0) : validR (backRows U) = true ∧ ∀ c, c ∈ regCells (backRows U) ↔ 0 < wS U c.x c.y := by
  obtain ⟨hC, hm⟩ := ends_facts U
  have hCg : ∀ i j (a b : Int), (endsC U)[i]? = some a → (endsC U)[j]? = some b → i < j → a < b := fun i j a b ha hb hij => pw_get hC ha hb hij
  have hbd : ∀ e ∈ endsC U, -4096 ≤ e ∧ e ≤ 4096 := fun e he => by
    obtain ⟨u, hu, h⟩ := (hm e).1 he
    have := (hf u hu).y
    rcases h with rfl | rfl <;> omega
  have hrow : ∀ w, w ∈ backRows U ↔ ∃ i lo hi, (endsC U)[i]? = some lo ∧ (endsC U)[i + 1]? = some hi ∧ bandL U lo ≠ [] ∧ lo ≤ w.y ∧ w.y < hi ∧ w.runs = bandL U lo := fun w => by
    unfold backRows
    rw [List.mem_flatMap]
    constructor
    · rintro ⟨i, hi, hw⟩
      rw [List.mem_range] at hi
      obtain ⟨lo, hlo⟩ := getq (l := endsC U) (k := i) (by omega)
      obtain ⟨h, hh⟩ := getq (l := endsC U) (k := i + 1) (by omega)
      simp only [bandAt, hlo, hh, bandRows] at hw
      split at hw
      · cases hw
      · rename_i hne
        obtain ⟨k, hk, rfl⟩ := List.mem_map.1 hw
        rw [List.mem_range] at hk
        exact ⟨i, lo, h, hlo, hh, hne, by simp only; omega, by simp only; omega, rfl⟩
    · rintro ⟨i, lo, h, hlo, hh, hne, h1, h2, h3⟩
      have hil := (List.getElem?_eq_some_iff.1 hh).1
      refine ⟨i, List.mem_range.2 (by omega), ?_⟩
      simp only [bandAt, hlo, hh, bandRows]
      rw [if_neg hne]
      refine List.mem_map.2 ⟨(w.y - lo).toNat, List.mem_range.2 (by omega), ?_⟩
      obtain ⟨wy, wr⟩ := w
      simp only at h1 h2 h3 ⊢
      rw [h3, show lo + ((wy - lo).toNat : Int) = wy by omega]
  have hv : validR (backRows U) = true := by
    rw [validR_pw]
    refine ⟨fun w hw => ?_, ?_⟩
    · obtain ⟨i, lo, hi, hlo, hhi, hne, h1, h2, h3⟩ := (hrow w).1 hw
      have b1 := hbd lo (List.mem_of_getElem? hlo)
      have b2 := hbd hi (List.mem_of_getElem? hhi)
      obtain ⟨f1, f2, _⟩ := bandL_facts hf lo
      exact ⟨by omega, fine_apart.2 ⟨by rw [h3]; exact hne, by rw [h3]; exact f1, by rw [h3]; exact f2⟩⟩
    · unfold backRows
      rw [List.pairwise_flatMap]
      refine ⟨fun i hi => ?_, List.pairwise_lt_range.imp_of_mem fun {i j} hi hj hij => ?_⟩
      · rw [List.mem_range] at hi
        obtain ⟨lo, hlo⟩ := getq (l := endsC U) (k := i) (by omega)
        obtain ⟨h, hh⟩ := getq (l := endsC U) (k := i + 1) (by omega)
        simp only [bandAt, hlo, hh, bandRows]
        split
        · exact List.Pairwise.nil
        · rw [List.pairwise_map]
          exact List.pairwise_lt_range.imp fun {a b} h => by simp only; omega
      · rw [List.mem_range] at hi hj
        obtain ⟨l1, hl1⟩ := getq (l := endsC U) (k := i) (by omega)
        obtain ⟨h1, hh1⟩ := getq (l := endsC U) (k := i + 1) (by omega)
        obtain ⟨l2, hl2⟩ := getq (l := endsC U) (k := j) (by omega)
        obtain ⟨h2, hh2⟩ := getq (l := endsC U) (k := j + 1) (by omega)
        have hle : h1 ≤ l2 := by
          rcases Nat.lt_or_ge (i + 1) j with h | h
          · exact Int.le_of_lt (hCg _ _ _ _ hh1 hl2 h)
          · have : j = i + 1 := by omega
            subst this
            rw [hh1] at hl2; cases hl2; exact Int.le_refl _
        intro w hw v hv
        simp only [bandAt, hl1, hh1, bandRows] at hw
        simp only [bandAt, hl2, hh2, bandRows] at hv
        split at hw
        · cases hw
        · split at hv
          · cases hv
          · obtain ⟨k, hk, rfl⟩ := List.mem_map.1 hw
            obtain ⟨m, hm, rfl⟩ := List.mem_map.1 hv
            rw [List.mem_range] at hk hm
            simp only; omega
  refine ⟨hv, fun c => ?_⟩
  have hsame : ∀ i lo hi, (endsC U)[i]? = some lo → (endsC U)[i + 1]? = some hi → lo ≤ c.y → c.y < hi → wS U c.x lo = wS U c.x c.y := fun i lo hi hlo hhi h1 h2 => by
    have hno : ∀ e ∈ endsC U, e ≤ lo ∨ hi ≤ e := fun e he => by
      obtain ⟨j, hj⟩ := List.mem_iff_getElem?.1 he
      rcases Nat.lt_trichotomy j i with h | h | h
      · exact .inl (Int.le_of_lt (hCg _ _ _ _ hj hlo h))
      · subst h; rw [hlo] at hj; cases hj; exact .inl (Int.le_refl _)
      · right
        rcases Nat.lt_or_ge (i + 1) j with h' | h'
        · exact Int.le_of_lt (hCg _ _ _ _ hhi hj h')
        · have : j = i + 1 := by omega
          subst this
          rw [hhi] at hj; cases hj; exact Int.le_refl _
    have := wS_same (U := U) h1 h2 fun u hu => ⟨hno _ ((hm _).2 ⟨u, hu, .inl rfl⟩), hno _ ((hm _).2 ⟨u, hu, .inr rfl⟩)⟩
    unfold wS
    congr 2
    exact List.filter_congr fun u hu => by rw [this u hu]
  rw [mem_regCells]
  constructor
  · rintro ⟨w, hw, hy, r, hr, h3, h4⟩
    obtain ⟨i, lo, hi, hlo, hhi, hne, h1, h2, h5⟩ := (hrow w).1 hw
    rw [← hy] at h1 h2
    rw [← hsame i lo hi hlo hhi h1 h2, ← band_mean hd hf (ht lo), inR_iff]
    exact ⟨r, h5 ▸ hr, h3, h4⟩
  · intro hw
    have hex : ∃ u ∈ U, act c.y u = true := by
      apply Classical.byContradiction
      intro hn
      have : wS U c.x c.y = 0 := by
        unfold wS
        rw [List.filter_eq_nil_iff.2 fun u hu => by
          cases ha : act c.y u with
          | false => simp
          | true => exact absurd ⟨u, hu, ha⟩ hn]
        rfl
      omega
    obtain ⟨u, hu, ha⟩ := hex
    simp [act] at ha
    obtain ⟨a, hal⟩ := List.mem_iff_getElem?.1 ((hm u.lo).2 ⟨u, hu, .inl rfl⟩)
    obtain ⟨b, hbl⟩ := List.mem_iff_getElem?.1 ((hm u.hi).2 ⟨u, hu, .inr rfl⟩)
    -- the last end not above y
    have key : ∀ n, a + n < (endsC U).length → (∃ i lo hi, (endsC U)[i]? = some lo ∧ (endsC U)[i + 1]? = some hi ∧ lo ≤ c.y ∧ c.y < hi) ∨ ∃ e, (endsC U)[a + n]? = some e ∧ e ≤ c.y := by
      intro n
      induction n with
      | zero => intro _; exact .inr ⟨_, hal, ha.1⟩
      | succ n ih =>
        intro hn
        rcases ih (by omega) with h | ⟨e, he, hle⟩
        · exact .inl h
        · obtain ⟨f, hf'⟩ := getq (l := endsC U) (k := a + n + 1) (by omega)
          by_cases hc : f ≤ c.y
          · exact .inr ⟨f, hf', hc⟩
          · exact .inl ⟨a + n, e, f, he, hf', hle, by omega⟩
    have hbl2 := (List.getElem?_eq_some_iff.1 hbl).1
    have hab : a < b := by
      rcases Nat.lt_trichotomy a b with h | h | h
      · exact h
      · subst h
        rw [hal] at hbl
        have e : u.lo = u.hi := by injection hbl
        have := (hf u hu).y; omega
      · have := hCg _ _ _ _ hbl hal h; have := (hf u hu).y; omega
    rcases key (b - a) (by omega) with ⟨i, lo, hi, hlo, hhi, h1, h2⟩ | ⟨e, he, hle⟩
    · rw [← hsame i lo hi hlo hhi h1 h2, ← band_mean hd hf (ht lo), inR_iff] at hw
      obtain ⟨r, hr, h3, h4⟩ := hw
      exact ⟨⟨c.y, bandL U lo⟩, (hrow _).2 ⟨i, lo, hi, hlo, hhi, (by intro e; rw [e] at hr; cases hr), h1, h2, rfl⟩, rfl, r, hr, h3, h4⟩
    · rw [show a + (b - a) = b by omega, hbl] at he
      cases he; omega
end Go.Proofs.YtdddknniooimmaaGreat

set_option linter.unusedSectionVars false
namespace Go.Abs
variable [Flag]
open Go.RowKit
open Go.ChangeMaps (setBlock)

mutual
def offId (id : Nat) : AV → Bool
  | .hs i _ _ => !decide (i = id)
  | .ptr i _ _ => !decide (i = id)
  | .hm i => !decide (i = id)
  | .pin i _ => !decide (i = id)
  | .agg l => offIds id l
  | .clo _ l => offIds id l
  | .tup l => offIds id l
  | .opt _ x => offId id x
  | _ => true
def offIds (id : Nat) : List AV → Bool
  | [] => true
  | a :: avs => offId id a && offIds id avs
end
mutual
theorem offId_rep {g g' : G} {w : World} {id : Nat} (hl : ∀ i, i ≠ id → g'.loc i = g.loc i) (hu : ∀ i, g.used i → g'.used i) (hro : g'.ro = g.ro) : ∀ (x : AV) (v : Value), offId id x = true → RepA g w x v → RepA g' w x v
  | .any, v, _, h => by simp [RepA]
  | .nl, v, _, h => by simpa [RepA] using h
  | .d x, v, _, h => by simpa only [RepA, hro] using h
  | .ub p q, v, _, h => by simpa only [RepA] using h
  | .lit u, v, _, h => by simpa only [RepA] using h
  | .hs i off len, v, ho, h => by
    have hne : i ≠ id := by simpa [offId] using ho
    simp only [RepA, hl i hne] at h ⊢
    exact ⟨⟨hu i h.1.1, h.1.2⟩, h.2⟩
  | .ptr i a b, v, ho, h => by
    have hne : i ≠ id := by simpa [offId] using ho
    simp only [RepA, hl i hne] at h ⊢
    exact ⟨⟨hu i h.1.1, h.1.2⟩, h.2⟩
  | .hm i, v, ho, h => by
    have hne : i ≠ id := by simpa [offId] using ho
    simp only [RepA, hl i hne] at h ⊢
    exact ⟨⟨hu i h.1.1, h.1.2⟩, h.2⟩
  | .pin i L, v, ho, h => by
    have hne : i ≠ id := by simpa [offId] using ho
    simp only [RepA, hl i hne] at h ⊢
    exact ⟨hu i h.1, h.2⟩
  | .agg l, v, ho, h => by
    simp only [RepA] at h ⊢
    obtain ⟨vs, h1, h2, h3⟩ := h
    exact ⟨vs, h1, h2, offIds_rep hl hu hro l vs (by simpa only [offId] using ho) h3⟩
  | .clo f l, v, ho, h => by
    simp only [RepA] at h ⊢
    obtain ⟨vs, h1, h3⟩ := h
    exact ⟨vs, h1, offIds_rep hl hu hro l vs (by simpa only [offId] using ho) h3⟩
  | .tup l, v, ho, h => by
    simp only [RepA] at h ⊢
    obtain ⟨vs, h1, h3⟩ := h
    exact ⟨vs, h1, offIds_rep hl hu hro l vs (by simpa only [offId] using ho) h3⟩
  | .opt b x, v, ho, h => by
    simp only [RepA] at h ⊢
    exact ⟨fun hb => offId_rep hl hu hro x v (by simpa only [offId] using ho) (h.1 hb), h.2⟩
theorem offIds_rep {g g' : G} {w : World} {id : Nat} (hl : ∀ i, i ≠ id → g'.loc i = g.loc i) (hu : ∀ i, g.used i → g'.used i) (hro : g'.ro = g.ro) : ∀ (l : List AV) (vs : List Value), offIds id l = true → RepAs g w l vs → RepAs g' w l vs
  | [], vs, _, h => by simpa only [RepAs] using h
  | a :: avs, vs, ho, h => by
    simp only [offIds, Bool.and_eq_true] at ho
    simp only [RepAs] at h ⊢
    obtain ⟨v, vs', h1, h2, h3⟩ := h
    exact ⟨v, vs', h1, offId_rep hl hu hro a v ho.1 h2, offIds_rep hl hu hro avs vs' ho.2 h3⟩
end
theorem offIds_get {id : Nat} : ∀ {l : List AV} {j : Nat} {a : AV}, offIds id l = true → l[j]? = some a → offId id a = true
  | [], _, _, _, h => by simp at h
  | b :: l, 0, a, h, e => by
    simp only [offIds, Bool.and_eq_true] at h
    simp at e; subst e; exact h.1
  | b :: l, j + 1, a, h, e => by
    simp only [offIds, Bool.and_eq_true] at h
    exact offIds_get h.2 (by simpa using e)

structure OffSt (id : Nat) (s : St) : Prop where
  tm : ∀ t, offId id (s.get t) = true
  gone : s.obj id = none
  hp : ∀ x o, s.obj x = some o → ∀ (i : Nat) (r : List AV), o.rows[i]? = some r → offIds id r = true

theorem ents_data {ro ro' : Nat → Prop} {g g' : G} {w w' : World} : ∀ {R : List (List D)} {es : List MapEntry}, (∀ b, g.ro b → g'.ro b ∧ w'.heap[b]? = w.heap[b]?) → EntsA g w (dr R) es → EntsA g' w' (dr R) es
  | [], es, _, h => by simpa [dr, EntsA] using h
  | r :: R, es, hf, h => by
    have h : EntsA g w (r.map AV.d :: dr R) es := h
    show EntsA g' w' (r.map AV.d :: dr R) es
    simp only [EntsA] at h ⊢
    obtain ⟨e, es', rfl, h1, h2⟩ := h
    exact ⟨e, es', rfl, RepAs.of_ds (RepDs.mono hf _ _ (RepAs.to_ds h1)), ents_data (ro := ro) (ro' := ro') hf h2⟩

theorem adopt {s : St} {g' : G} {a : Act} {w' : World} (hr : RelS s g' a w') {id : Nat} (hoff : OffSt id s) (hid : id < s.nxt) {L : Loc} (hv : L.virt = false ∧ L.map = true) (hb : L.blk < w'.heap.size) (how : ¬ g'.owns L.blk) (hro : ¬ g'.ro L.blk) {o : Ob}
    (hok : ∀ g'', g''.ro = g'.ro → OwnOk g'' w' L o) (t : Tmp) (hn : t < s.n) (ht : a.tmps.getD t undef = .map (some L.blk)) :
    ∃ g'', RelS ⟨s.n, (t, .hm id) :: s.tm, (id, some o) :: s.hp, s.nxt⟩ g'' a w' ∧ (∀ b, g''.owns b ↔ g'.owns b ∨ b = L.blk) ∧ g''.ro = g'.ro := by
  have hloc : g'.loc id = none := hr.heap.gone id hoff.gone
  let g'' : G := ⟨g'.ro, fun x => if x = id then some L else g'.loc x, fun x => g'.used x ∨ x = id⟩
  have l1 : ∀ i, i ≠ id → g''.loc i = g'.loc i := fun i hi => by simp only [g'']; rw [if_neg hi]
  have l2 : g''.loc id = some L := by simp [g'']
  have u1 : ∀ i, g'.used i → g''.used i := fun i hi => .inl hi
  refine ⟨g'', ⟨hr.defers, hr.size, fun x => ?_, fun x hx => ?_, ?_⟩, fun b => ?_, rfl⟩
  · show RepA g'' w' ((find ((t, AV.hm id) :: s.tm) x).getD .any) _
    simp only [find]
    by_cases e : t = x
    · subst e
      rw [if_pos rfl]
      simp only [Option.getD_some, RepA]
      rw [ht]
      exact ⟨⟨.inr rfl, rfl⟩, fun M hM => by rw [l2] at hM; cases hM; exact ⟨hv, rfl⟩⟩
    · rw [if_neg e]
      exact offId_rep l1 u1 rfl _ _ (hoff.tm x) (hr.tmp x)
  · rcases hx with hx | rfl
    · exact hr.used x hx
    · exact hid
  · refine ⟨fun x o' hx => ?_, fun x hx => ?_, fun x M hM => ?_, fun x y M M' hM hM' h1 h2 hb' => ?_, fun b hb' => hr.heap.ro b hb'⟩
    · simp only [St.obj, find] at hx
      by_cases e : id = x
      · subst e
        rw [if_pos rfl] at hx
        simp only [Option.getD_some, Option.some.injEq] at hx
        subst hx
        exact ⟨L, l2, hok g'' rfl⟩
      · rw [if_neg e] at hx
        obtain ⟨M, hM, hok'⟩ := hr.heap.own x o' hx
        have hrow := hoff.hp x o' hx
        refine ⟨M, by rw [l1 x (Ne.symm e)]; exact hM, hok'.m, hok'.pos, hok'.len, hok'.virt, fun h => ?_, fun h => ?_⟩
        · obtain ⟨cur, c1, c2, c3, c5⟩ := hok'.cells h
          refine ⟨cur, c1, c2, c3, fun i row hi => ⟨(c5 i row hi).1, fun j av hj => ?_⟩⟩
          obtain ⟨v, k1, k2, k3⟩ := (c5 i row hi).2 j av hj
          exact ⟨v, k1, k2, offId_rep l1 u1 rfl _ _ (offIds_get (hrow i row hi) hj) k3⟩
        · obtain ⟨c0, es, clock, c1, c2, c3⟩ := hok'.ents h
          refine ⟨c0, es, clock, c1, c2, ?_⟩
          have : ∀ (rows : List (List AV)) (l : List MapEntry), (∀ (i : Nat) (r : List AV), rows[i]? = some r → offIds id r = true) → EntsA g' w' rows l → EntsA g'' w' rows l := by
            intro rows
            induction rows with
            | nil => intro l _ hl; simpa only [EntsA] using hl
            | cons r rs ih =>
              intro l hr' hl
              simp only [EntsA] at hl ⊢
              obtain ⟨e', l', h1, h2, h3⟩ := hl
              exact ⟨e', l', h1, offIds_rep l1 u1 rfl _ _ (hr' 0 r rfl) h2, ih l' (fun i q hq => hr' (i + 1) q (by simpa using hq)) h3⟩
          exact this _ _ hrow c3
    · simp only [St.obj, find] at hx
      by_cases e : id = x
      · rw [if_pos e] at hx; cases hx
      · rw [if_neg e] at hx
        rw [l1 x (Ne.symm e)]
        exact hr.heap.gone x hx
    · by_cases e : x = id
      · subst e
        rw [l2] at hM; cases hM
        exact ⟨.inr rfl, fun _ => ⟨hb, hro⟩⟩
      · rw [l1 x e] at hM
        obtain ⟨k1, k2⟩ := hr.heap.live x M hM
        exact ⟨.inl k1, k2⟩
    · by_cases e : x = id
      · subst e
        rw [l2] at hM; cases hM
        by_cases e' : y = x
        · exact e'.symm
        · rw [l1 y e'] at hM'
          exact absurd ⟨y, M', hM', h2, hb'.symm⟩ how
      · rw [l1 x e] at hM
        by_cases e' : y = id
        · subst e'
          rw [l2] at hM'; cases hM'
          exact absurd ⟨x, M, hM, h1, hb'⟩ how
        · rw [l1 y e'] at hM'
          exact hr.heap.inj x y M M' hM hM' h1 h2 hb'
  · constructor
    · rintro ⟨x, M, hM, hv', hb'⟩
      by_cases e : x = id
      · subst e
        rw [l2] at hM; cases hM
        exact .inr hb'.symm
      · rw [l1 x e] at hM
        exact .inl ⟨x, M, hM, hv', hb'⟩
    · rintro (⟨x, M, hM, hv', hb'⟩ | rfl)
      · have : x ≠ id := fun e => by subst e; rw [hloc] at hM; cases hM
        exact ⟨x, M, by rw [l1 x this]; exact hM, hv', hb'⟩
      · exact ⟨id, L, l2, hv.1, rfl⟩

theorem rel_aside {U : Nat → Prop} {g : G} {get : Nat → AV} {obj : Nat → Option Ob} {n : Nat} {a : Act} {w w' : World} (h : Rel U g get obj n a w) {bi : Nat} (how : ¬ g.owns bi) (hro : ¬ g.ro bi)
    (hsize : w'.heap.size = w.heap.size) (hblk : ∀ b, b ≠ bi → w'.heap[b]? = w.heap[b]?) : Rel U g get obj n a w' := by
  have hlat : Later g w g w' := ⟨fun b hb => ⟨hb, hblk b fun e => hro (e ▸ hb)⟩, fun _ hx => hx, fun _ _ => .inl rfl⟩
  refine ⟨h.defers, h.size, fun t => RepA.later hlat _ _ (h.tmp t), h.used, fun id o ho => ?_, h.heap.gone, fun id L hL => ⟨(h.heap.live id L hL).1, fun hv => by rw [hsize]; exact (h.heap.live id L hL).2 hv⟩, h.heap.inj, fun b hb => by rw [hsize]; exact h.heap.ro b hb⟩
  obtain ⟨L, hL, hok⟩ := h.heap.own id o ho
  exact ⟨L, hL, hok.later hlat fun hv => hblk _ fun e => how ⟨id, L, hL, hv, e⟩⟩

theorem nodup_le_len {α : Type} [DecidableEq α] : ∀ {l m : List α}, l.Nodup → (∀ x ∈ l, x ∈ m) → l.length ≤ m.length
  | [], m, _, _ => Nat.zero_le _
  | a :: l, m, hn, hs => by
    obtain ⟨h1, h2⟩ := List.nodup_cons.1 hn
    have ha := hs a (by simp)
    have := nodup_le_len (l := l) (m := m.erase a) h2 fun x hx => by
      have hne : x ≠ a := fun e => h1 (e ▸ hx)
      exact (List.mem_erase_of_ne hne).2 (hs x (by simp [hx]))
    rw [List.length_erase_of_mem ha] at this
    have hp := List.length_pos_of_mem ha
    simp only [List.length_cons]
    omega
theorem perm_of_places {α : Type} {ks xs : List α} {js : List Nat} (hnd : js.Nodup) (hall : ∀ j, j < ks.length → j ∈ js) (hxs : xs.length = js.length) (h : ∀ i j : Nat, js[i]? = some j → j < ks.length ∧ xs[i]? = ks[j]?) : xs.Perm ks := by
  have h1 : js.Perm (List.range ks.length) := by
    refine (List.perm_ext_iff_of_nodup hnd List.nodup_range).2 fun j => ?_
    rw [List.mem_range]
    constructor
    · intro hj
      obtain ⟨i, hi⟩ := List.mem_iff_getElem?.1 hj
      exact (h i j hi).1
    · exact hall j
  have h2 : xs.map some = js.map fun j => ks[j]? := by
    refine List.ext_getElem? fun i => ?_
    simp only [List.getElem?_map]
    cases hi : js[i]? with
    | none =>
      have : xs[i]? = none := by rw [List.getElem?_eq_none_iff] at hi ⊢; omega
      rw [this]; rfl
    | some j =>
      obtain ⟨hj, e⟩ := h i j hi
      rw [e, List.getElem?_eq_getElem hj]; simp
  have h3 : ks.map some = (List.range ks.length).map fun j => ks[j]? := by
    refine List.ext_getElem? fun i => ?_
    simp only [List.getElem?_map]
    by_cases hi : i < ks.length
    · rw [List.getElem?_range hi, List.getElem?_eq_getElem hi]; simp
    · rw [List.getElem?_eq_none (by omega), List.getElem?_eq_none (by simp; omega)]; rfl
  have h4 : (xs.map some).Perm (ks.map some) := by rw [h2, h3]; exact h1.map _
  have h5 := h4.filterMap id
  simpa using h5

def entSt (t16 t17 t18 t19 : Tmp) (kd : D) (s : St) : St := { s with tm := (t19, .d kd) :: (t18, .any) :: (t17, .d (.bool true)) :: (t16, .any) :: s.tm }

theorem awp_maprange {P : Program} {ty : TypeId → Option TI} (hc : Ctx P ty) (orc : List (Nat × Res)) {α : Type} {r5 r6 r7 b0 b1 : Nat} {l7 : List Oper} (post : List Oper) (o1 o2 o3 o4 o5 o6 : Oper) (hl7 : l7 = o5 :: o6 :: post) {rest : Code}
    {T kt et : TypeId} {tm tm' ti tn tb te tk : Tmp} {ti0 : TI}
    (g1 : o1.guard = none) (g2 : o2.guard = none) (g3 : o3.guard = none) (g4 : o4.guard = none) (g5 : o5.guard = none) (g6 : o6.guard = none)
    (h1 : o1.op = .move (.tmp tm)) (d1 : o1.dst = some tm') (h2 : o2.op = .range T (.tmp tm')) (d2 : o2.dst = some ti)
    (h3 : o3.op = .next (.tmp ti) false) (d3 : o3.dst = some tn) (h4 : o4.op = .extract (.tmp tn) 0) (d4 : o4.dst = some tb)
    (h5 : o5.op = .entry (.tmp ti)) (d5 : o5.dst = some te) (h6 : o6.op = .extract (.tmp te) 0) (d6 : o6.dst = some tk)
    (hne : tm ≠ tm' ∧ tm ≠ ti ∧ tm' ≠ ti ∧ ti ≠ tn ∧ ti ≠ tb ∧ tn ≠ tb ∧ ti ≠ te ∧ te ≠ tk ∧ tm ≠ tn ∧ tm ≠ tb)
    (hT : ty T = some ti0) (hTk : ti0.kind = .map kt et)
    {s : St} {id : Nat} {o : Ob} (ks : List α) (kd : α → D) (vd : List D) (hm : s.get tm = .hm id) (ho : s.obj id = some o) (hid : id < s.nxt)
    (hrows : o.rows = dr (List.zipWith (fun k v => [kd k, v]) ks vd)) (hlen : vd.length = ks.length) (hn : tm < s.n ∧ tm' < s.n ∧ ti < s.n ∧ tn < s.n ∧ tb < s.n ∧ te < s.n ∧ tk < s.n)
    (J : Value → Value → List α → St)
    (hJ : ∀ u v xs, OffSt id (J u v xs) ∧ (J u v xs).get tm = .lit v ∧ (J u v xs).get ti = .lit u ∧ id < (J u v xs).nxt ∧ (J u v xs).n = s.n) {Q : Exit → St → Prop}
    (hstart : ∀ u v, Weak ⟨s.n, (ti, .lit u) :: (tm', .lit v) :: (tm, .lit v) :: s.tm, (id, none) :: s.hp, s.nxt⟩ (J u v []))
    (hround : ∀ u v (xs : List α) (k : α), k ∈ ks → xs.length < ks.length → ∀ K : St → Prop, (∀ s', AWp P rest (fun e s'' => match e with | .normal => Weak s'' (J u v (xs ++ [k])) | _ => False) s' → K s') →
      wpT ty P orc (l7.map (·.dst)) (J u v xs).nxt 0 post { entSt tn tb te tk (kd k) (J u v xs) with nxt := (J u v xs).nxt + post.length } K)
    (hend : ∀ u v (xs : List α), xs.Perm ks → Q .normal ⟨s.n, (tm, .hm id) :: (tb, .d (.bool false)) :: (tn, .any) :: (J u v xs).tm, (id, some o) :: (J u v xs).hp, (J u v xs).nxt⟩) :
    AWp P (.seq (.region r5 #[o1, o2] false) (.block b0 (.loop (.seq (.region r6 #[o3, o4] false) (.seq (.cond (.tmp tb) .skip (.exit b0)) (.block b1 (.seq (.region r7 l7.toArray false) rest))))))) Q s := by
  intro g a w hr
  obtain ⟨n1, n2, n3, n4, n5, n6, n7, n8, n9, n10⟩ := hne
  obtain ⟨z1, z2, z3, z4, z5, z6, z7⟩ := hn
  obtain ⟨L, hL, hok⟩ := hr.heap.own id o ho
  have htm := hr.tmp tm
  rw [hm] at htm
  simp only [RepA] at htm
  obtain ⟨hv, hmv⟩ := htm.2 L hL
  obtain ⟨hmapM, es, clock, hb, hst, hes⟩ := hok.ents hv
  obtain ⟨hblt, hbro⟩ := (hr.heap.live id L hL).2 hv.1
  have hu : P.underlying T = some (.map kt et) := kind_map (hc.ok T ti0 hT) hTk
  rw [hrows] at hes
  -- the entries, by their places
  have hesl : es.size = ks.length := by
    have : ∀ {rows : List (List AV)} {l : List MapEntry}, EntsA g w rows l → rows.length = l.length := by
      intro rows
      induction rows with
      | nil => intro l hl; simp only [EntsA] at hl; simp [hl]
      | cons r rs ih => intro l hl; simp only [EntsA] at hl; obtain ⟨e, l', rfl, _, h2⟩ := hl; simp [ih h2]
    have := this hes
    simp [dr, hlen] at this
    exact this.symm
  have hent : ∀ (j : Nat) (k : α), ks[j]? = some k → ∃ e, es[j]? = some e ∧ RepD g.ro w (kd k) e.key := by
    have key : ∀ (ks : List α) (vd : List D) (l : List MapEntry), vd.length = ks.length → EntsA g w (dr (List.zipWith (fun k v => [kd k, v]) ks vd)) l → ∀ (j : Nat) (k : α), ks[j]? = some k → ∃ e, l[j]? = some e ∧ RepD g.ro w (kd k) e.key := by
      intro ks
      induction ks with
      | nil => intro vd l _ _ j k hj; simp at hj
      | cons k0 ks ih =>
        intro vd l hl h j k hj
        cases vd with
        | nil => simp at hl
        | cons v0 vd =>
          have h : EntsA g w ([AV.d (kd k0), AV.d v0] :: dr (List.zipWith (fun k v => [kd k, v]) ks vd)) l := h
          simp only [EntsA, RepAs, RepA] at h
          obtain ⟨e, l', rfl, ⟨v1, vs1, hv1, hk1, _⟩, h2⟩ := h
          simp only [List.cons.injEq] at hv1
          obtain ⟨rfl, _⟩ := hv1
          cases j with
          | zero => simp at hj; subst hj; exact ⟨e, rfl, hk1⟩
          | succ j => exact ih vd l' (by simpa using hl) h2 j k (by simpa using hj)
    intro j k hj
    obtain ⟨e, h1, h2⟩ := key ks vd es.toList hlen hes j k hj
    exact ⟨e, by simpa using h1, h2⟩
  -- the beginning
  let bm := L.blk
  let bi := w.heap.size
  let w0 := w.alloc (.mapIter (some bm) clock #[] clock)
  let pi : Value := .pointer (some ⟨bi, 0, none⟩)
  let mv : Value := .map (some bm)
  have hsz := hr.size
  obtain ⟨gd, q1, q2, q3, q4, q5, q6⟩ := hr.heap.drop id
  have hrd : Rel (· < s.nxt) gd s.get (upd1 s.obj id none) s.n a w := ⟨hr.defers, hr.size, fun t => RepA.later q6 _ _ (hr.tmp t), fun x hx => hr.used x (q1 ▸ hx), q4⟩
  have gdown : ∀ b, gd.owns b → g.owns b ∧ b ≠ bm := by
    rintro b ⟨x, M, hM, hvM, rfl⟩
    rw [q3] at hM
    simp only at hM
    split at hM
    · cases hM
    · rename_i hx
      exact ⟨⟨x, M, hM, hvM, rfl⟩, fun e => hx (hr.heap.inj x id M L hM hL hvM hv.1 e)⟩
  have hgdbm : ¬ gd.owns bm := fun h => (gdown bm h).2 rfl
  have hgdro : ¬ gd.ro bm := by rw [q2]; exact hbro
  have low : ∀ b, gd.owns b → b < w.heap.size := fun b ⟨x, M, hM, hvM, e⟩ => e ▸ ((q4.live x M hM).2 hvM).1
  have hal : ∀ b, b < w.heap.size → w0.heap[b]? = w.heap[b]? := fun b hb => Go.heap_alloc_old w _ hb
  have hal2 : w0.heap[bi]? = some (.mapIter (some bm) clock #[] clock) := Go.heap_alloc_new w _
  have hsz0 : w0.heap.size = w.heap.size + 1 := by show (w.heap.push _).size = _; simp
  have hbelow : Below w.heap.size w w0 := ⟨rfl, ⟨rfl, .inr (Nat.le_refl _)⟩, rfl, by rw [hsz0]; exact Nat.le_succ _, hal⟩
  obtain ⟨i1, i2, i3⟩ := q4.idle hbelow
  -- what holds at a round's start
  let Inv : Nat → Act → World → Prop := fun m a' w' => ∃ (js : List Nat) (xs : List α) (g' : G) (last : Nat), js.Nodup ∧ js.length + m = ks.length ∧ xs.length = js.length ∧ (∀ i : Nat, ∀ j, js[i]? = some j → j < ks.length ∧ xs[i]? = ks[j]?) ∧
    RelS (J pi mv xs) g' a' w' ∧ Step gd w g' w' ∧ w'.heap[bi]? = some (.mapIter (some bm) clock (js.map fun j => (es[j]?.map (·.born)).getD 0).toArray last) ∧ clock ≤ last ∧ w'.heap[bm]? = some (.map es clock) ∧ ¬ g'.owns bi ∧ ¬ g'.ro bi ∧ ¬ g'.owns bm ∧ ¬ g'.ro bm ∧ bi < w'.heap.size
  refine wp_seq ?_
  refine wp_region ?_
  rw [show List.range (#[o1, o2] : Array Oper).size = List.range' 0 [o1, o2].length from rfl, wpOps_eq_wpList (P := P) (ops := #[o1, o2]) [o1, o2] 0 (by intro j; simp)]
  have ex1 : (execOp a.eval o1).run P w = .ok (.value mv) w := by
    simp only [execOp, h1, Act.eval, hmv, Sem.run_pure]; rfl
  have e1 : (a.put (some tm') mv).tmps.getD tm' undef = mv := put_get_same (by rw [hsz]; exact z2)
  have ex2 : (execOp (a.put (some tm') mv).eval o2).run P w = .ok (.value pi) w0 := by
    simp only [execOp, h2, Act.eval, e1]
    rw [Sem.run_bind, run_range_map w T kt et bm es clock hu hb]
    rfl
  simp only [wpList]
  rw [if_pos (by simp [Region.wanted, g1])]
  left
  unfold Oper.wp
  rw [ex1, Oper.upon_value, d1]
  rw [if_pos (by simp [Region.wanted, g2])]
  left
  rw [ex2, Oper.upon_value, d2]
  show (Code.block b0 _).wp P _ _ _
  have hwide := hrd.heap
  have A0 : Rel (· < s.nxt) gd s.get (upd1 s.obj id none) s.n a w0 := ⟨hr.defers, hr.size, fun t => RepA.later i3 _ _ (hrd.tmp t), hrd.used, i1⟩
  have same0 : Later gd w0 gd w0 := ⟨fun b hb => ⟨hb, rfl⟩, fun _ hx => hx, fun _ _ => .inl rfl⟩
  have A1 := rel_put (U' := (· < s.nxt)) (dst := some tm') (v := .lit mv) (u := mv) A0 A0.heap same0 A0.used (by simp [RepA]) (fun d hd => by cases hd; exact z2)
  have A2 := rel_put (U' := (· < s.nxt)) (dst := some ti) (v := .lit pi) (u := pi) A1 A1.heap same0 A1.used (by simp [RepA]) (fun d hd => by cases hd; exact z3)
  generalize hact : ((a.put (some tm') mv).put (some ti) pi) = a2 at A2 ⊢
  have etm : a2.tmps.getD tm undef = mv := by rw [← hact, put_get_ne n2, put_get_ne n1, hmv]
  have A3 : RelS ⟨s.n, (ti, .lit pi) :: (tm', .lit mv) :: (tm, .lit mv) :: s.tm, (id, none) :: s.hp, s.nxt⟩ gd a2 w0 := by
    refine ⟨A2.defers, A2.size, fun t => ?_, A2.used, ?_⟩
    · simp only [St.get, find]
      have h := A2.tmp t
      simp only [putG, Option.some.injEq] at h
      by_cases e3 : ti = t
      · rw [if_pos e3] at h ⊢; exact h
      · rw [if_neg e3] at h ⊢
        by_cases e2 : tm' = t
        · rw [if_pos e2] at h ⊢; exact h
        · rw [if_neg e2] at h ⊢
          by_cases e1 : tm = t
          · rw [if_pos e1]; simp only [Option.getD_some, RepA]; rw [← e1, etm]
          · rw [if_neg e1]; exact h
    · have : (St.obj ⟨s.n, (ti, .lit pi) :: (tm', .lit mv) :: (tm, .lit mv) :: s.tm, (id, none) :: s.hp, s.nxt⟩) = upd1 s.obj id none := by
        funext x
        simp only [St.obj, find, upd1]
        by_cases e : id = x
        · subst e; simp
        · rw [if_neg e, if_neg (Ne.symm e)]
      rw [this]; exact A2.heap
  obtain ⟨gs, B1, B2⟩ := hstart pi mv gd a2 w0 A3
  have Sd : Step gd w gs w0 := i2.trans B2
  have notown : ∀ {g' : G} {w' : World}, Step gd w g' w' → ¬ g'.owns bm ∧ ¬ g'.ro bm := fun hs => ⟨fun h => by
    rcases hs.own bm h with h1 | h1
    · omega
    · exact hgdbm h1, fun h => by
    rcases hs.ro' bm h with h1 | h1 | h1
    · exact hgdro h1
    · omega
    · exact hgdbm h1⟩
  have hbsz : ¬ gd.owns bi ∧ ¬ gd.ro bi := ⟨fun h => absurd (low bi h) (Nat.lt_irrefl _), fun h => absurd (hrd.heap.ro bi h) (Nat.lt_irrefl _)⟩
  have start : Inv ks.length a2 w0 := by
    refine ⟨[], [], gs, clock, List.nodup_nil, by simp, rfl, fun i j hj => by simp at hj, B1, Sd, by simpa using hal2, Nat.le_refl _, by rw [hal bm hblt]; exact hb, fun h => ?_, fun h => ?_, (notown Sd).1, (notown Sd).2, by rw [hsz0]; exact Nat.lt_succ_self _⟩
    · rcases B2.own bi h with h1 | h1
      · rw [hsz0] at h1; exact absurd h1 (by simp [bi])
      · exact hbsz.1 h1
    · rcases B2.ro' bi h with h1 | h1 | h1
      · exact hbsz.2 h1
      · rw [hsz0] at h1; exact absurd h1 (by simp [bi])
      · exact hbsz.1 h1
  refine wp_block ?_
  refine wp_loop_rel Inv ?_ start
  rintro m a3 w3 ⟨js, xs, g', last, hnd, hcnt, hxl, hplc, R0, S0, hbi, hlast, hbm, hno, hnr, hmo, hmr, hbilt⟩
  obtain ⟨off, jm, jt, jid, jn⟩ := hJ pi mv xs
  have tpi : a3.tmps.getD ti undef = pi := by
    have h := R0.tmp ti
    rw [jt] at h
    simpa only [RepA] using h
  have tmv : a3.tmps.getD tm undef = mv := by
    have h := R0.tmp tm
    rw [jm] at h
    simpa only [RepA] using h
  have hold : ∀ x ∈ es.toList, x.born < clock := hst.1
  refine wp_seq ?_
  refine wp_region ?_
  rw [show List.range (#[o3, o4] : Array Oper).size = List.range' 0 [o3, o4].length from rfl, wpOps_eq_wpList (P := P) (ops := #[o3, o4]) [o3, o4] 0 (by intro j; simp)]
  simp only [wpList]
  rw [if_pos (by simp [Region.wanted, g3])]
  have rsz := R0.size
  rcases run_next_at (P := P) w3 o3.type bi bm clock last _ es clock hbi hbm hold hlast with ⟨hnone, hrun⟩ | ⟨e, he, w4, hw4, hrun⟩
  · have ex3 : (execOp a3.eval o3).run P w3 = .ok (.value (.tuple #[.bool false])) w3 := by
      simp only [execOp, h3, Act.eval, tpi]
      rw [Sem.run_bind, hrun]
      rfl
    have v3 : (a3.put (some tn) (.tuple #[.bool false])).tmps.getD tn undef = .tuple #[.bool false] := put_get_same (by rw [rsz, jn]; exact z4)
    have ex4 : (execOp (a3.put (some tn) (.tuple #[.bool false])).eval o4).run P w3 = .ok (.value (.bool false)) w3 := by
      simp only [execOp, h4, Act.eval, v3]
      simp [Instr.extract]
    left
    unfold Oper.wp
    rw [ex3, Oper.upon_value, d3]
    rw [if_pos (by simp [Region.wanted, g4])]
    left
    rw [ex4, Oper.upon_value, d4]
    have same3 : Later g' w3 g' w3 := ⟨fun b hb => ⟨hb, rfl⟩, fun _ hx => hx, fun _ _ => .inl rfl⟩
    have C1 := rel_put (U' := (· < (J pi mv xs).nxt)) (dst := some tn) (v := .any) (u := .tuple #[.bool false]) R0 R0.heap same3 R0.used (by simp [RepA]) (fun d hd => by cases hd; rw [jn]; exact z4)
    have C2 := rel_put (U' := (· < (J pi mv xs).nxt)) (dst := some tb) (v := .d (.bool false)) (u := .bool false) C1 C1.heap same3 C1.used (by simp [RepA, RepD]) (fun d hd => by cases hd; rw [jn]; exact z5)
    generalize hact3 : ((a3.put (some tn) (.tuple #[.bool false])).put (some tb) (.bool false)) = a4 at C2 ⊢
    have vb : a4.eval (.tmp tb) = .bool false := by
      show a4.tmps.getD tb undef = _
      rw [← hact3]
      exact put_get_same (by rw [put_size, rsz, jn]; exact z5)
    have vm : a4.tmps.getD tm undef = mv := by rw [← hact3, put_get_ne n10, put_get_ne n9, tmv]
    show (Code.seq _ _).wp P _ a4 w3
    refine wp_seq ?_
    refine wp_cond_split vb (fun h => by cases h) fun _ => ?_
    refine wp_exit ?_
    simp only [Exit.then, Exit.inBlock, if_true]
    have C3 : RelS ⟨(J pi mv xs).n, (tb, .d (.bool false)) :: (tn, .any) :: (J pi mv xs).tm, (J pi mv xs).hp, (J pi mv xs).nxt⟩ g' a4 w3 := by
      refine ⟨C2.defers, C2.size, fun t => ?_, C2.used, C2.heap⟩
      have h := C2.tmp t
      simp only [putG, Option.some.injEq] at h
      simp only [St.get, find]
      by_cases e1 : tb = t
      · rw [if_pos e1] at h ⊢; exact h
      · rw [if_neg e1] at h ⊢
        by_cases e2 : tn = t
        · rw [if_pos e2] at h ⊢; exact h
        · rw [if_neg e2] at h ⊢; exact h
    have off3 : OffSt id ⟨(J pi mv xs).n, (tb, .d (.bool false)) :: (tn, .any) :: (J pi mv xs).tm, (J pi mv xs).hp, (J pi mv xs).nxt⟩ := by
      refine ⟨fun t => ?_, off.gone, off.hp⟩
      simp only [St.get, find]
      by_cases e1 : tb = t
      · rw [if_pos e1]; rfl
      · rw [if_neg e1]
        by_cases e2 : tn = t
        · rw [if_pos e2]; rfl
        · rw [if_neg e2]; exact off.tm t
    have hbm3 : bm < w3.heap.size := Nat.lt_of_lt_of_le hblt S0.size
    have hfut : ∀ b, g.ro b → g'.ro b ∧ w3.heap[b]? = w.heap[b]? := fun b hb => ⟨S0.ro b (by rw [q2]; exact hb), S0.block b (hr.heap.ro b hb) fun ⟨x, M, hM, hvM, e⟩ => by
      have := (q4.live x M hM).2 hvM
      rw [q2] at this
      exact this.2 (by rw [e]; exact hb)⟩
    obtain ⟨gf, F1, F2, F3⟩ := adopt C3 off3 jid hv hbm3 hmo hmr (o := o) (fun g'' hro'' => ⟨hok.m, hok.pos, hok.len, hok.virt, fun h => (by rw [hv.2] at h; cases h.2), fun _ => ⟨hmapM, es, clock, hbm, hst, by
      rw [hrows]
      exact ents_data (ro := g.ro) (ro' := g'.ro) (fun b hb => ⟨by rw [hro'']; exact (hfut b hb).1, (hfut b hb).2⟩) hes⟩⟩) tm (by show tm < (J pi mv xs).n; rw [jn]; exact z1) vm
    rw [jn] at F1
    refine ⟨_, gf, F1, ?_, hend pi mv xs ?_⟩
    · refine ⟨S0.os, S0.tape, S0.output, S0.size, fun b hb hn => S0.block b hb fun h => hn (gdown b h).1, fun b hb => ?_, fun b hb => ?_, fun b hb => ?_⟩
      · rcases (F2 b).1 hb with h | rfl
        · exact (S0.own b h).imp (fun h => h) fun h => (gdown b h).1
        · exact .inr ⟨id, L, hL, hv.1, rfl⟩
      · rw [F3]; exact S0.ro b (by rw [q2]; exact hb)
      · rw [F3] at hb
        rcases S0.ro' b hb with h | h | h
        · exact .inl (by rw [q2] at h; exact h)
        · exact .inr (.inl h)
        · exact .inr (.inr (gdown b h).1)
    · refine perm_of_places hnd (fun j hj => ?_) hxl hplc
      apply Classical.byContradiction
      intro hnj
      have hjs : j < es.size := by rw [hesl]; exact hj
      have : es[j] ∈ leftOf es (js.map fun j => (es[j]?.map (·.born)).getD 0).toArray := by
        unfold leftOf
        rw [Array.mem_filter]
        refine ⟨Array.getElem_mem hjs, ?_⟩
        simp only [Bool.not_eq_true', List.contains_toArray, Bool.eq_false_iff, ne_eq]
        intro hc
        have hc := List.contains_iff_mem.1 hc
        obtain ⟨j', hj', ej⟩ := List.mem_map.1 hc
        obtain ⟨i', hi'⟩ := List.mem_iff_getElem?.1 hj'
        have hlt' : j' < es.size := by rw [hesl]; exact (hplc i' j' hi').1
        rw [Array.getElem?_eq_getElem hlt'] at ej
        simp only [Option.map_some, Option.getD_some] at ej
        have hnd2 := hst.2.1
        have : j' = j := by
          apply Classical.byContradiction
          intro hne'
          rcases Nat.lt_or_gt_of_ne hne' with h | h
          · have := List.pairwise_iff_getElem.1 hnd2 j' j (by simpa using hlt') (by simpa using hjs) h
            simp at this; exact this ej
          · have := List.pairwise_iff_getElem.1 hnd2 j j' (by simpa using hjs) (by simpa using hlt') h
            simp at this; exact this ej.symm
        exact hnj (this ▸ hj')
      have hpos := Array.size_pos_of_mem this
      omega
  · have hemem : e ∈ es.toList ∧ (js.map fun j => (es[j]?.map (·.born)).getD 0).toArray.contains e.born = false := by
      unfold leftOf at he
      simpa using he
    obtain ⟨he1, he2⟩ := hemem
    obtain ⟨j0, hj0⟩ := List.mem_iff_getElem?.1 he1
    have hj0' : es[j0]? = some e := by simpa using hj0
    have hj0l : j0 < ks.length := by rw [← hesl]; exact (Array.getElem?_eq_some_iff.1 hj0').1
    obtain ⟨k, hk⟩ : ∃ k, ks[j0]? = some k := ⟨_, List.getElem?_eq_getElem hj0l⟩
    obtain ⟨e', he', hkey⟩ := hent j0 k hk
    rw [hj0'] at he'; cases he'
    have hnj : j0 ∉ js := fun hm => by
      have : e.born ∈ (js.map fun j => (es[j]?.map (·.born)).getD 0) := List.mem_map.2 ⟨j0, hm, by simp [hj0']⟩
      have h2 : (js.map fun j => (es[j]?.map (·.born)).getD 0).toArray.contains e.born = true := by simpa using this
      rw [he2] at h2; cases h2
    have hnd' : (js ++ [j0]).Nodup := by
      rw [List.nodup_append]
      exact ⟨hnd, by simp, fun x hx y hy => by simp at hy; subst hy; exact fun e => hnj (e ▸ hx)⟩
    have hsub : ∀ x ∈ js ++ [j0], x ∈ List.range ks.length := fun x hx => by
      rw [List.mem_range]
      rcases List.mem_append.1 hx with hx | hx
      · obtain ⟨i, hi⟩ := List.mem_iff_getElem?.1 hx
        exact (hplc i x hi).1
      · simp at hx; subst hx; exact hj0l
    have hjslt : js.length < ks.length := by
      have hle := nodup_le_len hnd' hsub
      simp at hle
      omega
    have hw4h : w4.heap = w3.heap := by rcases hw4 with rfl | rfl <;> rfl
    let w5 := setBlock w4 bi (.mapIter (some bm) clock ((js.map fun j => (es[j]?.map (·.born)).getD 0).toArray.push e.born) clock)
    have hs5 : w5.heap.size = w3.heap.size := by show (w4.heap.setIfInBounds _ _).size = _; rw [hw4h]; simp
    have hb5 : ∀ b, b ≠ bi → w5.heap[b]? = w3.heap[b]? := fun b hb => by
      show (w4.heap.setIfInBounds _ _)[b]? = _
      rw [hw4h, Array.getElem?_setIfInBounds_ne (Ne.symm hb)]
    have hi5 : w5.heap[bi]? = some (.mapIter (some bm) clock ((js.map fun j => (es[j]?.map (·.born)).getD 0).toArray.push e.born) clock) := by
      show (w4.heap.setIfInBounds _ _)[bi]? = _
      rw [hw4h, Array.getElem?_setIfInBounds_self_of_lt hbilt]
    have hne_bm : bm ≠ bi := Nat.ne_of_lt hblt
    have hm5 : w5.heap[bm]? = some (.map es clock) := by rw [hb5 bm hne_bm]; exact hbm
    have ex3 : (execOp a3.eval o3).run P w3 = .ok (.value (.tuple #[.bool true, e.key, e.val])) w5 := by
      simp only [execOp, h3, Act.eval, tpi]
      rw [Sem.run_bind, hrun]
      rfl
    have v3 : (a3.put (some tn) (.tuple #[.bool true, e.key, e.val])).tmps.getD tn undef = .tuple #[.bool true, e.key, e.val] := put_get_same (by rw [rsz, jn]; exact z4)
    have ex4 : (execOp (a3.put (some tn) (.tuple #[.bool true, e.key, e.val])).eval o4).run P w5 = .ok (.value (.bool true)) w5 := by
      simp only [execOp, h4, Act.eval, v3]
      simp [Instr.extract]
    left
    unfold Oper.wp
    rw [ex3, Oper.upon_value, d3]
    rw [if_pos (by simp [Region.wanted, g4])]
    left
    rw [ex4, Oper.upon_value, d4]
    have R5 : RelS (J pi mv xs) g' a3 w5 := rel_aside R0 hno hnr hs5 hb5
    have S5 : Step gd w g' w5 := by
      refine ⟨?_, ⟨?_, ?_⟩, ?_, by rw [hs5]; exact S0.size, fun b hb hn => ?_, S0.own, S0.ro, S0.ro'⟩
      · have : w5.os = w3.os := by rcases hw4 with rfl | rfl <;> rfl
        rw [this]; exact S0.os
      · have : w5.tape = w3.tape := by rcases hw4 with rfl | rfl <;> rfl
        rw [this]; exact S0.tape.1
      · refine S0.tape.2.imp (fun h => h) fun h => Nat.le_trans h ?_
        rcases hw4 with rfl | rfl
        · exact Nat.le_refl _
        · exact Nat.le_succ _
      · have : w5.output = w3.output := by rcases hw4 with rfl | rfl <;> rfl
        rw [this]; exact S0.output
      · rw [hb5 b (Nat.ne_of_lt hb)]
        exact S0.block b hb hn
    have same5 : Later g' w5 g' w5 := ⟨fun b hb => ⟨hb, rfl⟩, fun _ hx => hx, fun _ _ => .inl rfl⟩
    have C1 := rel_put (U' := (· < (J pi mv xs).nxt)) (dst := some tn) (v := .any) (u := .tuple #[.bool true, e.key, e.val]) R5 R5.heap same5 R5.used (by simp [RepA]) (fun d hd => by cases hd; rw [jn]; exact z4)
    have C2 := rel_put (U' := (· < (J pi mv xs).nxt)) (dst := some tb) (v := .d (.bool true)) (u := .bool true) C1 C1.heap same5 C1.used (by simp [RepA, RepD]) (fun d hd => by cases hd; rw [jn]; exact z5)
    have asz : ((a3.put (some tn) (.tuple #[.bool true, e.key, e.val])).put (some tb) (.bool true)).tmps.size = s.n := by rw [put_size, put_size, rsz, jn]
    have vb : ((a3.put (some tn) (.tuple #[.bool true, e.key, e.val])).put (some tb) (.bool true)).eval (.tmp tb) = .bool true := by
      show Array.getD _ tb undef = _
      exact put_get_same (by rw [put_size, rsz, jn]; exact z5)
    have vi : ((a3.put (some tn) (.tuple #[.bool true, e.key, e.val])).put (some tb) (.bool true)).tmps.getD ti undef = pi := by
      rw [put_get_ne n5, put_get_ne n4, tpi]
    generalize ((a3.put (some tn) (.tuple #[.bool true, e.key, e.val])).put (some tb) (.bool true)) = a4 at C2 vb vi asz ⊢
    show (Code.seq _ _).wp P _ a4 w5
    refine wp_seq ?_
    refine wp_cond_split vb (fun _ => ?_) fun h => by cases h
    refine wp_skip ?_
    show (Code.block b1 _).wp P _ a4 w5
    refine wp_block ?_
    refine wp_seq ?_
    refine wp_region ?_
    rw [show List.range (l7.toArray).size = List.range' 0 l7.length by simp [List.range_eq_range'], wpOps_eq_wpList (P := P) (ops := l7.toArray) l7 0 (by intro j; simp)]
    have hgs : ∀ j : Nat, (l7.map (·.dst))[j]? = (l7.toArray[j]?).map fun o : Oper => o.dst := by intro j; simp
    have hborn : (js.map fun j => (es[j]?.map (·.born)).getD 0).toArray.push e.born = ((js ++ [j0]).map fun j => (es[j]?.map (·.born)).getD 0).toArray := by
      simp [hj0']
    have key : ∀ QQ : Exit → Act → World → Prop, (∀ (a' : Act) (w' : World), (∃ s1 g1, RelS s1 g1 a' w' ∧ Step g' w5 g1 w' ∧ AWp P rest (fun e s'' => match e with | .normal => Weak s'' (J pi mv (xs ++ [k])) | _ => False) s1) → QQ .normal a' w') →
        wpList P l7.toArray QQ (o5 :: o6 :: post) a4 w5 := by
      intro QQ hQQ
      simp only [wpList]
      rw [if_pos (by simp [Region.wanted, g5])]
      left
      unfold Oper.wp
      have ex5 : (execOp a4.eval o5).run P w5 = .ok (.value (.tuple #[e.key, e.val])) w5 := by
        simp only [execOp, h5, Act.eval, vi]
        rw [Sem.run_bind, run_entry_at w5 bi bm clock _ es clock e hi5 hm5 he1 hst.2.1]
        rfl
      have v5 : (a4.put (some te) (.tuple #[e.key, e.val])).tmps.getD te undef = .tuple #[e.key, e.val] := put_get_same (by rw [asz]; exact z6)
      have ex6 : (execOp (a4.put (some te) (.tuple #[e.key, e.val])).eval o6).run P w5 = .ok (.value e.key) w5 := by
        simp only [execOp, h6, Act.eval, v5]
        simp [Instr.extract]
      rw [ex5, Oper.upon_value, d5]
      rw [if_pos (by simp [Region.wanted, g6])]
      left
      rw [ex6, Oper.upon_value, d6]
      have C3 := rel_put (U' := (· < (J pi mv xs).nxt)) (dst := some te) (v := .any) (u := .tuple #[e.key, e.val]) C2 C2.heap same5 C2.used (by simp [RepA]) (fun d hd => by cases hd; rw [jn]; exact z6)
      have hkey5 : RepD g'.ro w5 (kd k) e.key := RepD.mono (fun b hb => ⟨S5.ro b (by rw [q2]; exact hb), S5.block b (hr.heap.ro b hb) fun ⟨x, M, hM, hvM, e⟩ => by
        have := (q4.live x M hM).2 hvM
        rw [q2] at this
        exact this.2 (by rw [e]; exact hb)⟩) _ _ hkey
      have C4 := rel_put (U' := (· < (J pi mv xs).nxt)) (dst := some tk) (v := .d (kd k)) (u := e.key) C3 C3.heap same5 C3.used (by simpa only [RepA] using hkey5) (fun d hd => by cases hd; rw [jn]; exact z7)
      refine wpT_sound (P := P) hc (orc := orc) (gs := l7.map (·.dst)) (ops := l7.toArray) hgs (base := (J pi mv xs).nxt) (nxt := (J pi mv xs).nxt + post.length) (K := fun s' => AWp P rest (fun e s'' => match e with | .normal => Weak s'' (J pi mv (xs ++ [k])) | _ => False) s') (g0 := g') (w0 := w5)
        (fun s' g'' a' w' h1 h2 h3 => hQQ a' w' ⟨s', g'', h1, h2, h3⟩) post 0 { entSt tn tb te tk (kd k) (J pi mv xs) with nxt := (J pi mv xs).nxt + post.length } g' _ w5 (by omega) rfl ?_ (Step.refl g' w5) (hround pi mv xs k (List.mem_of_getElem? hk) (by
          rw [hxl]
          exact hjslt) _ fun _ h => h)
      refine ⟨C4.defers, C4.size, fun t => ?_, fun x hx => C4.used x hx, C4.heap⟩
      have h := C4.tmp t
      simp only [putG, Option.some.injEq] at h
      simp only [entSt, St.get, find]
      by_cases e1 : tk = t
      · rw [if_pos e1] at h ⊢; exact h
      · rw [if_neg e1] at h ⊢
        by_cases e2 : te = t
        · rw [if_pos e2] at h ⊢; exact h
        · rw [if_neg e2] at h ⊢
          by_cases e3 : tb = t
          · rw [if_pos e3] at h ⊢; exact h
          · rw [if_neg e3] at h ⊢
            by_cases e4 : tn = t
            · rw [if_pos e4] at h ⊢; exact h
            · rw [if_neg e4] at h ⊢; exact h
    rw [← hl7] at key
    refine key _ fun a' w' ⟨s1, g1, r1, st1, haw⟩ => ?_
    show rest.wp P _ a' w'
    refine wp_mono (haw g1 a' w' r1) fun ee a6 w6 ⟨s2, g2, r2, st2, hq⟩ => ?_
    cases ee with
    | normal =>
      obtain ⟨g3, r3, st3⟩ := hq g2 a6 w6 r2
      have St3 : Step g' w5 g3 w6 := (st1.trans st2).trans st3
      have Sf : Step gd w g3 w6 := S5.trans St3
      have hbi6 : w6.heap[bi]? = w5.heap[bi]? := St3.block bi (by rw [hs5]; exact hbilt) hno
      have hbm6 : w6.heap[bm]? = w5.heap[bm]? := St3.block bm (by rw [hs5]; exact Nat.lt_of_lt_of_le hblt S0.size) hmo
      refine ⟨m - 1, ?_, js ++ [j0], xs ++ [k], g3, clock, ?_, ?_, by simp [hxl], ?_, r3, Sf, by rw [hbi6, hi5, hborn], Nat.le_refl _, by rw [hbm6]; exact hm5, fun h => ?_, fun h => ?_, (notown Sf).1, (notown Sf).2, Nat.lt_of_lt_of_le (by rw [hs5]; exact hbilt) St3.size⟩
      · omega
      · exact hnd'
      · simp; omega
      · intro i j hi
        by_cases hi' : i < js.length
        · rw [List.getElem?_append_left hi'] at hi
          rw [List.getElem?_append_left (by omega)]
          exact hplc i j hi
        · rw [List.getElem?_append_right (by omega)] at hi
          have hi0 : i - js.length = 0 := by
            have := (List.getElem?_eq_some_iff.1 hi).1
            simp at this; omega
          rw [hi0] at hi
          simp at hi
          subst hi
          refine ⟨hj0l, ?_⟩
          rw [List.getElem?_append_right (by omega), hxl, hi0, hk]
          rfl
      · rcases St3.own bi h with h1 | h1
        · rw [hs5] at h1; omega
        · exact hno h1
      · rcases St3.ro' bi h with h1 | h1 | h1
        · exact hnr h1
        · rw [hs5] at h1; omega
        · exact hno h1
    | _ => exact hq.elim
end Go.Abs

namespace Go.Proofs.YtdddknniooimmaaGreat
open Go.Abs Go.Shelf

def cand (h : Hd) : Nat → Hd | 0 => h.l | 1 => h | _ => h.r
theorem cand_pick {hs : List Hd} {h : Hd} {i : Nat} (hi : i < 3) (hin : cand h i ∈ hs) (hpre : ∀ j, j < i → cand h j ∉ hs) : pickH hs h = cand h i := by
  unfold pickH
  match i, hi with
  | 0, _ => rw [if_pos (show h.l ∈ hs from hin)]; rfl
  | 1, _ => rw [if_neg (show h.l ∉ hs from hpre 0 (by omega)), if_pos (show h ∈ hs from hin)]; rfl
  | 2, _ => rw [if_neg (show h.l ∉ hs from hpre 0 (by omega)), if_neg (show h ∉ hs from hpre 1 (by omega))]; rfl
theorem cand_all {hs : List Hd} {h k : Hd} (hk : k ∈ hs) (hp : pickH hs h = k) (hpre : ∀ j, j < 3 → cand h j ∉ hs) : False := by
  have h0 : h.l ∉ hs := hpre 0 (by omega)
  have h1 : h ∉ hs := hpre 1 (by omega)
  have h2 : h.r ∉ hs := hpre 2 (by omega)
  unfold pickH at hp
  rw [if_neg h0, if_neg h1] at hp
  exact h2 (by rw [← hp] at hk; exact hk)
theorem turnG_len : ∀ (h : Hd) (l : List Crk), (turnG h l).length ≤ l.length
  | h, [] => Nat.le_refl _
  | h, d :: t => by
    have := turnG_len d.h t
    simp only [turnG]
    split <;> simp <;> omega
theorem polyOf_len : ∀ (l : List Crk), (polyOf l).length ≤ l.length
  | [] => Nat.le_refl _
  | c :: t => by have := turnG_len c.h t; simp [polyOf]; omega

def walkO (A : List (Cell × List Hd)) : Ob := ⟨118, mapM, dr (cRows A)⟩
set_option maxHeartbeats 8000000 in
theorem walk_px {S : Cell → Bool} {C : List Crk} (hC : Cracks S C) (hbd : ∀ d ∈ C, -100000 ≤ d.p.x ∧ d.p.x ≤ 100000 ∧ -100000 ≤ d.p.y ∧ d.p.y ≤ 100000) {A : List (Cell × List Hd)} {rem : Crk → Prop} (hA : MapOf A rem) (hrem : ∀ d, rem d → isC S d = true)
    {c : Crk} {n : Nat} (pc : Per (suc S) c n) (hn : n ≤ 1000000) (hr : ∀ i, i < n → rem (itn (suc S) i c)) (lc : ∀ d ∈ orb (suc S) n c, d ≠ c → lowC c.p d.p) {hs0 : List Hd} (hh : headsAt A c.p = c.h :: hs0) :
    PX Tryz.prog 89 [.hm 0, .d (.agg c.p.row)] [(0, walkO A)] [(0, 0)] [(0, walkO (takeAll A (orb (suc S) n c)))] (.d (.agg [encCells (polyOf (orb (suc S) n c))])) := by
  have hcC : isC S c = true := hrem _ (hr 0 pc.pos)
  have hnd := orb_nodup hC.cl hC.inj ((hC c).2 hcC) pc.least
  have hMap := hA.walk hr hnd
  have four : ∀ {A' : List (Cell × List Hd)} {rem' : Crk → Prop} (h : MapOf A' rem') (p : Cell), (headsAt A' p).length ≤ 4 := fun {A' rem'} h p => by
    have hnd' : (headsAt A' p).Nodup := by
      unfold headsAt
      cases hg : getL A' p with
      | none => exact List.nodup_nil
      | some hs => exact (h.some _ _ hg).2
    exact nodup_le_len (m := [Hd.e, Hd.n, Hd.w, Hd.s]) hnd' fun x _ => by cases x <;> simp
  have stepN : ∀ m, m < n → (itn (suc S) (m + 1) c) = suc S (itn (suc S) m c) := fun m _ => itn_succ m c
  have atC : ∀ m, isC S (itn (suc S) m c) = true := fun m => orb_isC hcC (n := m + 1) (mem_orb.2 ⟨m, by omega, rfl⟩)
  have bdC : ∀ m, -100000 ≤ (itn (suc S) m c).p.x ∧ (itn (suc S) m c).p.x ≤ 100000 ∧ -100000 ≤ (itn (suc S) m c).p.y ∧ (itn (suc S) m c).p.y ≤ 100000 := fun m => hbd _ ((hC _).2 (atC m))
  -- what a round needs
  have tk : ∀ m, m < n → PX Tryz.prog 140 [.hm 0, .d (.agg (itn (suc S) m c).p.row), .d (.int .i64 (itn (suc S) m c).h.int)] [(0, walkO (takeAll A (orb (suc S) m c)))] [(0, 0)] [(0, walkO (takeAll A (orb (suc S) (m + 1) c)))] (.d (.bool true)) := fun m hm => by
    rw [takeAll_succ]
    have hM := hMap m (by omega)
    refine take_px _ _ ((hM.heads _ _).2 ⟨hr m hm, fun hmem => ?_⟩) (Nat.le_trans (four hM _) (by omega))
    have e1 : orb (suc S) n c = orb (suc S) m c ++ (itn (suc S) m c :: orb (suc S) (n - m - 1) (itn (suc S) (m + 1) c)) := by
      have : orb (suc S) n c = orb (suc S) (m + (n - m - 1 + 1)) c := by congr 1; omega
      rw [this, orb_add]
      simp only [orb]
      rw [itn_succ]
    rw [e1] at hnd
    exact (List.nodup_append.1 hnd).2.2 _ hmem _ (by simp) rfl
  have fr : ∀ m, m < n → PC Tryz.prog 141 [.int .i64 (itn (suc S) m c).h.int, .agg (itn (suc S) m c).p.row] (.p (.agg (itn (suc S) (m + 1) c).p.row)) := fun m hm => by
    rw [stepN m hm]
    exact from_ok _ _ (by have := bdC m; omega)
  have lk : ∀ m, m < n → lookIs .nl false (lookA (.agg (itn (suc S) (m + 1) c).p.row) (dr (cRows (takeAll A (orb (suc S) (m + 1) c))))) (encHs (headsAt (takeAll A (orb (suc S) (m + 1) c)) (itn (suc S) (m + 1) c).p)) = True := fun m _ => look_c _ _
  have pk : ∀ m, m + 1 < n → pickH (headsAt (takeAll A (orb (suc S) (m + 1) c)) (itn (suc S) (m + 1) c).p) (itn (suc S) m c).h = (itn (suc S) (m + 1) c).h ∧ (itn (suc S) (m + 1) c).h ∈ headsAt (takeAll A (orb (suc S) (m + 1) c)) (itn (suc S) (m + 1) c).p := fun m hm => by
    have hM := hMap (m + 1) (by omega)
    have hin : (itn (suc S) (m + 1) c).h ∈ headsAt (takeAll A (orb (suc S) (m + 1) c)) (itn (suc S) (m + 1) c).p := by
      refine (hM.heads _ _).2 ⟨hr _ hm, fun hmem => ?_⟩
      have e1 : orb (suc S) n c = orb (suc S) (m + 1) c ++ (itn (suc S) (m + 1) c :: orb (suc S) (n - m - 2) (itn (suc S) (m + 2) c)) := by
        have : orb (suc S) n c = orb (suc S) (m + 1 + (n - m - 2 + 1)) c := by congr 1; omega
        rw [this, orb_add]
        simp only [orb]
        rw [itn_succ (m + 1)]
      rw [e1] at hnd
      exact (List.nodup_append.1 hnd).2.2 _ hmem _ (by simp) rfl
    refine ⟨?_, hin⟩
    have e2 : (itn (suc S) (m + 1) c).h = nxH S (itn (suc S) (m + 1) c).p (itn (suc S) m c).h := by rw [stepN m (by omega)]; rfl
    rw [e2]
    exact pickH_eq (fun k hk => hrem _ ((hM.heads _ _).1 hk).1) (by rw [← e2]; exact hin)
  have back : ∀ m, m < n → ((itn (suc S) (m + 1) c).p = c.p ↔ m + 1 = n) := fun m hm => by
    constructor
    · intro e
      apply Classical.byContradiction
      intro hne
      have h1 := lc _ (mem_orb.2 ⟨m + 1, by omega, rfl⟩) (pc.least (m + 1) (by omega) (by omega))
      rw [e] at h1
      exact lowC_irr _ h1
    · intro e; rw [e, pc.ret]
  have ps : ∀ m, polyOf (orb (suc S) (m + 2) c) = if (itn (suc S) (m + 1) c).h = (itn (suc S) m c).h then polyOf (orb (suc S) (m + 1) c) else polyOf (orb (suc S) (m + 1) c) ++ [(itn (suc S) (m + 1) c).p] := fun m => polyOf_succ
  have pl : ∀ m, (polyOf (orb (suc S) m c)).length ≤ m := fun m => by have := polyOf_len (orb (suc S) m c); rw [orb_length] at this; exact this
  have ct : ∀ (l : List Hd) (h : Hd), l.length ≤ 4 → PC Tryz.prog 144 [encHs l, .int .i64 h.int] (.p (.bool (decide (h ∈ l)))) := fun l h hl => hcont_ok l h (by omega)
  have len4 : ∀ m, m ≤ n → ∀ p, (headsAt (takeAll A (orb (suc S) m c)) p).length ≤ 4 := fun m hm p => four (hMap m hm) p
  have l0 := look_c c.p A
  rw [hh] at l0
  have P1 : polyOf (orb (suc S) 1 c) = [c.p] := rfl
  have A0 : takeAll A (orb (suc S) 0 c) = A := rfl
  have i0 : itn (suc S) 0 c = c := rfl
  have hpos := pc.pos
  clear hMap four atC bdC hnd
  generalize hP : (fun m => polyOf (orb (suc S) m c)) = P at *
  generalize hT : (fun m => takeAll A (orb (suc S) m c)) = TA at *
  generalize hI : (fun m => itn (suc S) m c) = cr at *
  have hP' : ∀ m, polyOf (orb (suc S) m c) = P m := fun m => by rw [← hP]
  have hT' : ∀ m, takeAll A (orb (suc S) m c) = TA m := fun m => by rw [← hT]
  have hI' : ∀ m, itn (suc S) m c = cr m := fun m => by rw [← hI]
  simp only [hP', hT', hI'] at *
  clear hP' hT' hI' hP hT hI
  rw [← A0, ← i0]
  have l0' := l0
  have back' : ∀ m, m < n → ((cr (m + 1)).p = (cr 0).p ↔ m + 1 = n) := by rw [i0]; exact back
  rw [← A0, ← i0] at l0'
  unfold walkO at tk ⊢
  have P1' : P 1 = [(cr 0).p] := by rw [i0]; exact P1
  have lk1 : ∀ m, m < n → lookIs .nl false (lookA (.agg [.int .i64 (cr (m + 1)).p.x, .int .i64 (cr (m + 1)).p.y]) (dr (cRows (TA (m + 1))))) (encHs (headsAt (TA (m + 1)) (cr (m + 1)).p)) = True := lk
  clear back P1 A0 l0 lk hh lc pc hr hrem hA hbd hC i0 A
  refine px_of_awp cx (fn := Tryz.f89) (c := _) 1 Tryz.func89 rfl rfl (Nat.le_of_ble_eq_true rfl) rfl rfl fun Ls => ?_
  rw [Tryz.ntmps89]; refine Nav.imp ?_
  refine awp_region cx [] fun K hK => ?_
  simp [push_cast]
  repeat (refine And.intro (by clear hK; intros; first | omega | (simp_all; done) | (simp_all <;> omega)) ?_)
  refine hK _ ?_; clear hK K; refine Nav.imp ?_
  refine awp_region cx [] fun K hK => ?_
  simp [push_cast]
  repeat (refine And.intro (by clear hK; intros; first | omega | (simp_all; done) | (simp_all <;> omega)) ?_)
  refine hK _ ?_; clear hK K; refine Nav.imp ?_
  refine awp_region cx [(2, .p (encHs ((cr 0).h :: hs0)))] fun K hK => ?_
  simp [push_cast, l0']
  repeat (refine And.intro (by clear hK; intros; first | omega | (simp_all; done) | (simp_all <;> omega)) ?_)
  refine hK _ ?_; clear hK K; refine Nav.imp ?_
  refine awp_region cx [] fun K hK => ?_
  simp [push_cast]
  repeat (refine And.intro (by clear hK; intros; first | omega | (simp_all; done) | (simp_all <;> omega)) ?_)
  refine hK _ ?_; clear hK K; refine Nav.imp ?_
  refine awp_loop (β := Nat) (fun m => ⟨55, [(0, .hm 0), (3, .ptr 1 0 0), (4, .ptr 2 0 0), (5, .ptr 3 0 0), (6, .d (.int .i64 (cr m).h.int)), (7, .ptr 5 0 0), (55, .pin 0 (Ls 0))], [(0, some ⟨118, mapM, dr (cRows (TA m))⟩), (1, some ⟨58, 2, [[.d (.int .i64 (cr 0).p.x), .d (.int .i64 (cr 0).p.y)]]⟩), (2, some ⟨55, 1, [[.nl]]⟩), (3, some ⟨55, 1, [[.hs 4 0 (P (m + 1)).length]]⟩), (4, some ⟨58, 2, dr ((P (m + 1)).map Cell.row)⟩), (5, some ⟨58, 2, [[.d (.int .i64 (cr m).p.x), .d (.int .i64 (cr m).p.y)]]⟩)], 6⟩) (fun m => m < n) (fun m => n - m) 0 ?_ hpos ?_
  · simp only [Nat.zero_add, P1']
    refine weak_of [(0, some 0), (1, some 1), (2, some 2), (3, some 6), (4, some 4), (5, some 15)] rfl (by simp [upT, up, upL, push_cast]) (by simp [upH, upR, upL, up, push_cast]) (by simp [namesOk, push_cast]) (by simp [olds])
  · intro m hm
    have t1 := tk m hm
    have f1 := fr m hm
    have l1 := lk1 m hm
    have k1 := back' m hm
    have p1 := ps m
    have q1 := pk m
    have g1 := pl (m + 1)
    have n4 := len4 (m + 1) (by omega) (cr (m + 1)).p
    generalize hpt : P (m + 1) = pts at *
    generalize hpt2 : P (m + 1 + 1) = pts2 at *
    refine Nav.imp ?_
    refine awp_region cx [(3, .x ⟨[(0, 0)], [.hm 0, .d (.agg [.int .i64 (cr m).p.x, .int .i64 (cr m).p.y]), .d (.int .i64 (cr m).h.int)], [(0, ⟨118, mapM, dr (cRows (TA m))⟩)], [(0, 0)], none, [(0, ⟨118, mapM, dr (cRows (TA (m + 1)))⟩)], .d (.bool true)⟩)] fun K hK => ?_
    simp [push_cast, t1]
    repeat (refine And.intro (by clear hK; intros; first | omega | (simp_all; done) | (simp_all <;> omega)) ?_)
    refine hK _ ?_; clear hK K; refine Nav.imp ?_
    refine awp_cond (b := true) (by simp [push_cast]) (fun hb => ?_) (fun hb => ?_) <;> (refine Nav.imp ?_)
    · refine awp_region cx [(2, .p (.agg [.int .i64 (cr (m + 1)).p.x, .int .i64 (cr (m + 1)).p.y]))] fun K hK => ?_
      simp [push_cast, f1]
      repeat (refine And.intro (by clear hK; intros; first | omega | (simp_all; done) | (simp_all <;> omega)) ?_)
      refine hK _ ?_; clear hK K; refine Nav.imp ?_
      refine awp_region cx [] fun K hK => ?_
      simp [push_cast]
      repeat (refine And.intro (by clear hK; intros; first | omega | (simp_all; done) | (simp_all <;> omega)) ?_)
      refine hK _ ?_; clear hK K; refine Nav.imp ?_
      by_cases hk : m + 1 = n
      · have hk1 := k1.2 hk
        have hkx : (cr (m + 1)).p.x = (cr 0).p.x := by rw [hk1]
        have hky : (cr (m + 1)).p.y = (cr 0).p.y := by rw [hk1]
        have ht : List.take pts.length (pts.map Cell.row) = pts.map Cell.row := List.take_of_length_le (by simp)
        refine awp_cond (b := true) (by simp [push_cast, hkx, hky]) (fun hb => ?_) (fun hb => ?_) <;> (refine Nav.imp ?_)
        · subst hk
          rw [hpt]
          refine awp_freeze 4 (pts.map Cell.row) rfl (by simp [push_cast, ht]) fun K hK => ?_
          simp [push_cast, St.fz, fzT, fzH, fzO, fz, fzL, fzR, fzR_dr, fzR_app, fzR_set, fzL_map, ht]
          refine hK _ ?_; clear hK K; refine Nav.imp ?_
          refine awp_region cx [] fun K hK => ?_
          simp [push_cast]
          repeat (refine And.intro (by clear hK; intros; first | omega | (simp_all; done) | (simp_all <;> omega)) ?_)
          refine hK _ ?_; clear hK K; refine Nav.imp ?_
          first | refine rx_r [(0, 0)] ?_ | refine rx_n [(0, 0)] ?_
          simp [push_cast]
          try decide
        · simp at hb
      · have hk1 : (cr (m + 1)).p.x = (cr 0).p.x → ¬ (cr (m + 1)).p.y = (cr 0).p.y := fun e e' => hk (k1.1 (by cases h1 : (cr (m + 1)).p; cases h2 : (cr 0).p; simp only [h1, h2] at e e'; rw [e, e']))
        refine awp_cond (b := false) (by simp [push_cast]; exact hk1) (fun hb => ?_) (fun hb => ?_) <;> (refine Nav.imp ?_)
        · simp at hb
        · obtain ⟨q2, q3⟩ := q1 (by omega)
          have h16 : (pts.length + 1) * 16 ≤ 140737488355328 := by omega
          have cc := fun k => ct (headsAt (TA (m + 1)) (cr (m + 1)).p) k n4
          have lf := left_ok (cr m).h
          have rg := right_ok (cr m).h
          have ne1 := (cr m).h.l_ne
          have ne2 := (cr m).h.r_ne
          generalize headsAt (TA (m + 1)) (cr (m + 1)).p = hs at *
          generalize (cr m).h = h at *
          generalize hnx : (cr (m + 1)).h = nx at *
          refine awp_region cx [(1, .p (.int .i64 h.l.int)), (4, .p (.int .i64 h.r.int))] fun K hK => ?_
          simp [push_cast, lf, rg]
          repeat (refine And.intro (by clear hK; intros; first | omega | (simp_all; done) | (simp_all <;> omega)) ?_)
          refine hK _ ?_; clear hK K; refine Nav.imp ?_
          refine awp_loop (β := Nat) (fun i => ⟨55, [(0, .hm 0), (3, .ptr 1 0 0), (4, .ptr 2 0 0), (5, .ptr 3 0 0), (6, .d (.int .i64 h.int)), (7, .ptr 5 0 0), (34, .d (.agg [.int .i64 h.l.int, .int .i64 h.int, .int .i64 h.r.int])), (35, .d (.int .i64 i)), (55, .pin 0 (Ls 0))], [(0, some ⟨118, mapM, dr (cRows (TA (m + 1)))⟩), (1, some ⟨58, 2, [[.d (.int .i64 (cr 0).p.x), .d (.int .i64 (cr 0).p.y)]]⟩), (2, some ⟨55, 1, [[.nl]]⟩), (3, some ⟨55, 1, [[.hs 4 0 pts.length]]⟩), (4, some ⟨58, 2, dr (pts.map Cell.row)⟩), (5, some ⟨58, 2, [[.d (.int .i64 (cr (m + 1)).p.x), .d (.int .i64 (cr (m + 1)).p.y)]]⟩)], 6⟩) (fun i => i ≤ 3 ∧ ∀ j, j < i → cand h j ∉ hs) (fun i => 3 - i) 0 ?_ ⟨by omega, by omega⟩ ?_
          · refine weak_of [(0, some 0), (1, some 1), (2, some 2), (3, some 3), (4, some 4), (5, some 5)] rfl (by simp [upT, up, upL, push_cast]) (by simp [upH, upR, upL, up, push_cast]) (by simp [namesOk, push_cast]) (by simp [olds])
          · rintro i ⟨hi, hpre⟩
            refine Nav.imp ?_
            refine awp_region cx [] fun K hK => ?_
            simp [push_cast]
            repeat (refine And.intro (by clear hK; intros; first | omega | (simp_all; done) | (simp_all <;> omega)) ?_)
            refine hK _ ?_; clear hK K; refine Nav.imp ?_
            by_cases hlt : i < 3
            · have hb0 : ((i : Int) < 3) := by omega
              refine awp_cond (b := true) (by simp [push_cast, hb0]) (fun hb => ?_) (fun hb => ?_) <;> (refine Nav.imp ?_)
              · obtain rfl | rfl | rfl : i = 0 ∨ i = 1 ∨ i = 2 := by omega
                · refine awp_region cx [] fun K hK => ?_
                  simp [push_cast]
                  repeat (refine And.intro (by clear hK; intros; first | omega | (simp_all; done) | (simp_all <;> omega)) ?_)
                  refine hK _ ?_; clear hK K; refine Nav.imp ?_
                  by_cases hm2 : h.l ∈ hs
                  · have hx : nx = h.l := by
                      have h9 := cand_pick (hs := hs) (h := h) (i := 0) (by omega) hm2 (fun j hj => hpre j hj)
                      rw [q2] at h9
                      exact h9
                    have c9 := cc h.l
                    rw [decide_eq_true hm2] at c9
                    refine awp_region cx [(2, .p (encHs hs)), (4, .p (.bool true))] fun K hK => ?_
                    simp [push_cast, l1, c9]
                    repeat (refine And.intro (by clear hK; intros; first | omega | (simp_all; done) | (simp_all <;> omega)) ?_)
                    refine hK _ ?_; clear hK K; refine Nav.imp ?_
                    refine awp_cond (b := true) (by simp [push_cast]) (fun hb => ?_) (fun hb => ?_) <;> (refine Nav.imp ?_)
                    · refine awp_region cx [] fun K hK => ?_
                      simp [push_cast]
                      repeat (refine And.intro (by clear hK; intros; first | omega | (simp_all; done) | (simp_all <;> omega)) ?_)
                      refine hK _ ?_; clear hK K; refine Nav.imp ?_
                      have hne : ¬ h.l.int = h.int := fun e => ne1 (Hd.int_inj e)
                      refine awp_cond (b := true) (by simp [push_cast, hne]) (fun hb => ?_) (fun hb => ?_) <;> (refine Nav.imp ?_)
                      · refine awp_region cx [] fun K hK => ?_
                        simp [push_cast, h16]
                        repeat (refine And.intro (by clear hK; intros; first | omega | (simp_all; done) | (simp_all <;> omega)) ?_)
                        refine hK _ ?_; clear hK K; refine Nav.imp ?_
                        refine awp_region cx [] fun K hK => ?_
                        simp [push_cast]
                        repeat (refine And.intro (by clear hK; intros; first | omega | (simp_all; done) | (simp_all <;> omega)) ?_)
                        refine hK _ ?_; clear hK K; refine Nav.imp ?_
                        refine ⟨m + 1, by omega, by omega, ?_⟩
                        subst hx
                        rw [if_neg (show ¬ h.l = h from ne1)] at p1
                        subst p1
                        refine weak_of [(0, some 0), (1, some 1), (2, some 2), (3, some 3), (4, some 21), (5, some 5)] rfl (by simp [upT, up, upL, push_cast, hnx, hpt2]) (by simp [upH, upR, upL, up, push_cast, hnx, hpt2]) (by simp [namesOk, push_cast]) (by simp [olds])
                      · simp at hb
                    · simp at hb
                  · have c9 := cc h.l
                    rw [decide_eq_false hm2] at c9
                    refine awp_region cx [(2, .p (encHs hs)), (4, .p (.bool false))] fun K hK => ?_
                    simp [push_cast, l1, c9]
                    repeat (refine And.intro (by clear hK; intros; first | omega | (simp_all; done) | (simp_all <;> omega)) ?_)
                    refine hK _ ?_; clear hK K; refine Nav.imp ?_
                    refine awp_cond (b := false) (by simp [push_cast]) (fun hb => ?_) (fun hb => ?_) <;> (refine Nav.imp ?_)
                    · simp at hb
                    · have w1 : IntKind.wrap .i64 (1 : Int) = 1 := wrap_i64 (by omega) (by omega)
                      refine awp_region cx [] fun K hK => ?_
                      simp [push_cast, w1]
                      repeat (refine And.intro (by clear hK; intros; first | omega | (simp_all; done) | (simp_all <;> omega)) ?_)
                      refine hK _ ?_; clear hK K; refine Nav.imp ?_
                      refine ⟨0 + 1, ⟨by omega, fun j hj => ?_⟩, by omega, ?_⟩
                      · rcases Nat.lt_succ_iff_lt_or_eq.1 hj with h8 | rfl
                        · exact hpre j h8
                        · exact hm2
                      · refine weak_of [(0, some 0), (1, some 1), (2, some 2), (3, some 3), (4, some 4), (5, some 5)] rfl (by simp [upT, up, upL, push_cast]) (by simp [upH, upR, upL, up, push_cast]) (by simp [namesOk, push_cast]) (by simp [olds])
                · refine awp_region cx [] fun K hK => ?_
                  simp [push_cast]
                  repeat (refine And.intro (by clear hK; intros; first | omega | (simp_all; done) | (simp_all <;> omega)) ?_)
                  refine hK _ ?_; clear hK K; refine Nav.imp ?_
                  by_cases hm2 : h ∈ hs
                  · have hx : nx = h := by
                      have h9 := cand_pick (hs := hs) (h := h) (i := 1) (by omega) hm2 (fun j hj => hpre j hj)
                      rw [q2] at h9
                      exact h9
                    have c9 := cc h
                    rw [decide_eq_true hm2] at c9
                    refine awp_region cx [(2, .p (encHs hs)), (4, .p (.bool true))] fun K hK => ?_
                    simp [push_cast, l1, c9]
                    repeat (refine And.intro (by clear hK; intros; first | omega | (simp_all; done) | (simp_all <;> omega)) ?_)
                    refine hK _ ?_; clear hK K; refine Nav.imp ?_
                    refine awp_cond (b := true) (by simp [push_cast]) (fun hb => ?_) (fun hb => ?_) <;> (refine Nav.imp ?_)
                    · refine awp_region cx [] fun K hK => ?_
                      simp [push_cast]
                      repeat (refine And.intro (by clear hK; intros; first | omega | (simp_all; done) | (simp_all <;> omega)) ?_)
                      refine hK _ ?_; clear hK K; refine Nav.imp ?_
                      refine awp_cond (b := false) (by simp [push_cast]) (fun hb => ?_) (fun hb => ?_) <;> (refine Nav.imp ?_)
                      · simp at hb
                      · refine awp_region cx [] fun K hK => ?_
                        simp [push_cast]
                        repeat (refine And.intro (by clear hK; intros; first | omega | (simp_all; done) | (simp_all <;> omega)) ?_)
                        refine hK _ ?_; clear hK K; refine Nav.imp ?_
                        refine ⟨m + 1, by omega, by omega, ?_⟩
                        subst hx
                        rw [if_pos rfl] at p1
                        subst p1
                        refine weak_of [(0, some 0), (1, some 1), (2, some 2), (3, some 3), (4, some 4), (5, some 5)] rfl (by simp [upT, up, upL, push_cast, hnx, hpt2]) (by simp [upH, upR, upL, up, push_cast, hnx, hpt2]) (by simp [namesOk, push_cast]) (by simp [olds])
                    · simp at hb
                  · have c9 := cc h
                    rw [decide_eq_false hm2] at c9
                    refine awp_region cx [(2, .p (encHs hs)), (4, .p (.bool false))] fun K hK => ?_
                    simp [push_cast, l1, c9]
                    repeat (refine And.intro (by clear hK; intros; first | omega | (simp_all; done) | (simp_all <;> omega)) ?_)
                    refine hK _ ?_; clear hK K; refine Nav.imp ?_
                    refine awp_cond (b := false) (by simp [push_cast]) (fun hb => ?_) (fun hb => ?_) <;> (refine Nav.imp ?_)
                    · simp at hb
                    · have w1 : IntKind.wrap .i64 (2 : Int) = 2 := wrap_i64 (by omega) (by omega)
                      refine awp_region cx [] fun K hK => ?_
                      simp [push_cast, w1]
                      repeat (refine And.intro (by clear hK; intros; first | omega | (simp_all; done) | (simp_all <;> omega)) ?_)
                      refine hK _ ?_; clear hK K; refine Nav.imp ?_
                      refine ⟨1 + 1, ⟨by omega, fun j hj => ?_⟩, by omega, ?_⟩
                      · rcases Nat.lt_succ_iff_lt_or_eq.1 hj with h8 | rfl
                        · exact hpre j h8
                        · exact hm2
                      · refine weak_of [(0, some 0), (1, some 1), (2, some 2), (3, some 3), (4, some 4), (5, some 5)] rfl (by simp [upT, up, upL, push_cast]) (by simp [upH, upR, upL, up, push_cast]) (by simp [namesOk, push_cast]) (by simp [olds])
                · refine awp_region cx [] fun K hK => ?_
                  simp [push_cast]
                  repeat (refine And.intro (by clear hK; intros; first | omega | (simp_all; done) | (simp_all <;> omega)) ?_)
                  refine hK _ ?_; clear hK K; refine Nav.imp ?_
                  by_cases hm2 : h.r ∈ hs
                  · have hx : nx = h.r := by
                      have h9 := cand_pick (hs := hs) (h := h) (i := 2) (by omega) hm2 (fun j hj => hpre j hj)
                      rw [q2] at h9
                      exact h9
                    have c9 := cc h.r
                    rw [decide_eq_true hm2] at c9
                    refine awp_region cx [(2, .p (encHs hs)), (4, .p (.bool true))] fun K hK => ?_
                    simp [push_cast, l1, c9]
                    repeat (refine And.intro (by clear hK; intros; first | omega | (simp_all; done) | (simp_all <;> omega)) ?_)
                    refine hK _ ?_; clear hK K; refine Nav.imp ?_
                    refine awp_cond (b := true) (by simp [push_cast]) (fun hb => ?_) (fun hb => ?_) <;> (refine Nav.imp ?_)
                    · refine awp_region cx [] fun K hK => ?_
                      simp [push_cast]
                      repeat (refine And.intro (by clear hK; intros; first | omega | (simp_all; done) | (simp_all <;> omega)) ?_)
                      refine hK _ ?_; clear hK K; refine Nav.imp ?_
                      have hne : ¬ h.r.int = h.int := fun e => ne2 (Hd.int_inj e)
                      refine awp_cond (b := true) (by simp [push_cast, hne]) (fun hb => ?_) (fun hb => ?_) <;> (refine Nav.imp ?_)
                      · refine awp_region cx [] fun K hK => ?_
                        simp [push_cast, h16]
                        repeat (refine And.intro (by clear hK; intros; first | omega | (simp_all; done) | (simp_all <;> omega)) ?_)
                        refine hK _ ?_; clear hK K; refine Nav.imp ?_
                        refine awp_region cx [] fun K hK => ?_
                        simp [push_cast]
                        repeat (refine And.intro (by clear hK; intros; first | omega | (simp_all; done) | (simp_all <;> omega)) ?_)
                        refine hK _ ?_; clear hK K; refine Nav.imp ?_
                        refine ⟨m + 1, by omega, by omega, ?_⟩
                        subst hx
                        rw [if_neg (show ¬ h.r = h from ne2)] at p1
                        subst p1
                        refine weak_of [(0, some 0), (1, some 1), (2, some 2), (3, some 3), (4, some 21), (5, some 5)] rfl (by simp [upT, up, upL, push_cast, hnx, hpt2]) (by simp [upH, upR, upL, up, push_cast, hnx, hpt2]) (by simp [namesOk, push_cast]) (by simp [olds])
                      · simp at hb
                    · simp at hb
                  · have c9 := cc h.r
                    rw [decide_eq_false hm2] at c9
                    refine awp_region cx [(2, .p (encHs hs)), (4, .p (.bool false))] fun K hK => ?_
                    simp [push_cast, l1, c9]
                    repeat (refine And.intro (by clear hK; intros; first | omega | (simp_all; done) | (simp_all <;> omega)) ?_)
                    refine hK _ ?_; clear hK K; refine Nav.imp ?_
                    refine awp_cond (b := false) (by simp [push_cast]) (fun hb => ?_) (fun hb => ?_) <;> (refine Nav.imp ?_)
                    · simp at hb
                    · have w1 : IntKind.wrap .i64 (3 : Int) = 3 := wrap_i64 (by omega) (by omega)
                      refine awp_region cx [] fun K hK => ?_
                      simp [push_cast, w1]
                      repeat (refine And.intro (by clear hK; intros; first | omega | (simp_all; done) | (simp_all <;> omega)) ?_)
                      refine hK _ ?_; clear hK K; refine Nav.imp ?_
                      refine ⟨2 + 1, ⟨by omega, fun j hj => ?_⟩, by omega, ?_⟩
                      · rcases Nat.lt_succ_iff_lt_or_eq.1 hj with h8 | rfl
                        · exact hpre j h8
                        · exact hm2
                      · refine weak_of [(0, some 0), (1, some 1), (2, some 2), (3, some 3), (4, some 4), (5, some 5)] rfl (by simp [upT, up, upL, push_cast]) (by simp [upH, upR, upL, up, push_cast]) (by simp [namesOk, push_cast]) (by simp [olds])
              · simp at hb
            · exact (cand_all q3 q2 fun j hj => hpre j (by omega)).elim
    · simp at hb
end Go.Proofs.YtdddknniooimmaaGreat

namespace Go.Proofs.YtdddknniooimmaaGreat
open Go.Abs

def polyR (L : List Crk) : List Cell := let T := turnG (lastH .e L) L; T.drop (minK T T.length) ++ T.take (minK T T.length)
end Go.Proofs.YtdddknniooimmaaGreat

namespace Go.Proofs.YtdddknniooimmaaGreat
open Go.Abs

structure TR (S : Cell → Bool) (l : List Crk) (i : Nat) (Fs : List (List Crk)) (dn : List Crk) : Prop where
  fam : Fam S Fs
  mem : ∀ c, c ∈ dn ↔ onF Fs c
  pre : ∀ j c, j < i → l[j]? = some c → onF Fs c
  len : Fs.length ≤ i
theorem polyR_eq {S : Cell → Bool} {C : List Crk} (hC : Cracks S C) {c : Crk} {n k : Nat} (hc : isC S c = true) (pc : Per (suc S) c n) (lc : ∀ d ∈ orb (suc S) n c, d ≠ c → lowC c.p d.p) (hk : k < n) : polyR (orb (suc S) n (itn (suc S) k c)) = polyOf (orb (suc S) n c) := by
  obtain ⟨X, Y, h1, h2, h3, h4⟩ := lp_rot hC hc pc lc hk
  have hl : lastH .e (orb (suc S) n (itn (suc S) k c)) = (itn (suc S) (k + (n - 1)) c).h := by
    rw [lastH_orb _ pc.pos, ← itn_add]
  unfold polyR
  simp only
  rw [hl, h1, h2, minK_at h3 h4 _ (by simp) (Nat.le_refl _), List.drop_left, List.take_left]
theorem TR.init (S : Cell → Bool) (l : List Crk) : TR S l 0 [] [] := ⟨⟨by simp, by simp⟩, by simp [onF], by omega, by simp⟩
theorem TR.skip {S : Cell → Bool} {l : List Crk} {i : Nat} {Fs : List (List Crk)} {dn : List Crk} (h : TR S l i Fs dn) {c : Crk} (hc : l[i]? = some c) (hd : c ∈ dn) : TR S l (i + 1) Fs dn := by
  refine ⟨h.fam, h.mem, fun j d hj hg => ?_, by have := h.len; omega⟩
  rcases Nat.lt_or_ge j i with hl | hl
  · exact h.pre j d hl hg
  · have : j = i := by omega
    subst this
    rw [hc] at hg; cases hg
    exact (h.mem c).1 hd
theorem TR.go {S : Cell → Bool} {l : List Crk} (hC : Cracks S l) {i : Nat} {Fs : List (List Crk)} {dn : List Crk} (h : TR S l i Fs dn) {c : Crk} (hc : l[i]? = some c) (hd : c ∉ dn) {n : Nat} (pn : Per (suc S) c n) :
    ∃ Ms, TR S l (i + 1) Ms (dn ++ orb (suc S) n c) ∧ insP (Fs.map polyOf) (polyR (orb (suc S) n c)) = Ms.map polyOf ∧ polyR (orb (suc S) n c) ≠ [] := by
  have hcC := (hC c).1 (List.mem_of_getElem? hc)
  obtain ⟨e, n', k, he, pe, hk, _, hce, pc', le⟩ := lp_ex hC hcC
  have hn := pn.eq pc'
  subst hn
  have hL : IsLp S (orb (suc S) n e) := ⟨e, n, he, pe, rfl, le⟩
  have hP := polyR_eq hC he pe le hk
  rw [← hce] at hP
  have hcm : c ∈ orb (suc S) n e := mem_orb.2 ⟨k, hk, hce⟩
  have hsame := pe.orb_mem hcm
  have hoff : ∀ x ∈ orb (suc S) n e, ¬ onF Fs x := fun x hx ⟨M, hM, hm⟩ => hd ((h.mem c).2 ⟨M, hM, by rw [← lp_uniq hL (h.fam.each M hM) hx hm hC]; exact hcm⟩)
  obtain ⟨Ms, m1, m2, m3⟩ := h.fam.ins hL hoff
  have hon : ∀ x, onF Ms x ↔ onF Fs x ∨ x ∈ orb (suc S) n c := fun x => by
    unfold onF
    constructor
    · rintro ⟨M, hM, hx⟩
      rcases (m3 M).1 hM with rfl | hM
      · exact .inr ((hsame x).2 hx)
      · exact .inl ⟨M, hM, hx⟩
    · rintro (⟨M, hM, hx⟩ | hx)
      · exact ⟨M, (m3 M).2 (.inr hM), hx⟩
      · exact ⟨_, (m3 _).2 (.inl rfl), (hsame x).1 hx⟩
  have hlen : Ms.length = Fs.length + 1 := by
    have := congrArg List.length m2
    simp only [insP, List.length_append, List.length_cons, List.length_map, List.length_take, List.length_drop] at this
    omega
  refine ⟨Ms, ⟨m1, fun x => ?_, fun j d hj hg => ?_, by have := h.len; omega⟩, by rw [hP]; exact m2, ?_⟩
  · rw [List.mem_append, h.mem, hon]
  · rw [hon]
    rcases Nat.lt_or_ge j i with hl | hl
    · exact .inl (h.pre j d hl hg)
    · have : j = i := by omega
      subst this
      rw [hc] at hg; cases hg
      exact .inr (orb_self pn.pos)
  · rw [hP]
    obtain ⟨_, _, _, _, _, Y, hY⟩ := lp_head hL
    rw [hY]; simp
theorem TR.done {S : Cell → Bool} {l : List Crk} (hC : Cracks S l) {Fs : List (List Crk)} {dn : List Crk} (h : TR S l l.length Fs dn) : Lps S Fs := by
  refine ⟨h.fam.each, fun c hc => ?_, h.fam.sorted⟩
  obtain ⟨j, hj⟩ := List.mem_iff_getElem?.1 ((hC c).2 hc)
  exact h.pre j c (List.getElem?_eq_some_iff.1 hj).1 hj
def fl (l dn : List Crk) : List Bool := l.map fun c => decide (c ∈ dn)
abbrev bR (b : Bool) : List D := [.bool b]
end Go.Proofs.YtdddknniooimmaaGreat

namespace Go.Proofs.YtdddknniooimmaaGreat
open Go.Abs

def pathUps : List Cell → List Up
  | a :: b :: t => edge a b ++ pathUps (b :: t)
  | _ => []
def pathSum (ε : Cell → Cell → Int) : List Cell → Int
  | a :: b :: t => ε a b + pathSum ε (b :: t)
  | _ => 0
def pathAll (P : Cell → Cell → Prop) : List Cell → Prop
  | a :: b :: t => P a b ∧ pathAll P (b :: t)
  | _ => True
theorem pathAll_get {P : Cell → Cell → Prop} : ∀ {Q : List Cell}, pathAll P Q → ∀ k a b, Q[k]? = some a → Q[k + 1]? = some b → P a b
  | [], _, k, a, b, h, _ => by simp at h
  | [c], _, k, a, b, _, h => by simp at h
  | c :: d :: t, h, 0, a, b, ha, hb => by simp at ha hb; subst ha; subst hb; exact h.1
  | c :: d :: t, h, k + 1, a, b, ha, hb => pathAll_get h.2 k a b (by simpa using ha) (by simpa using hb)
theorem flatMap_cg {α β : Type} {f g : α → List β} : ∀ {l : List α}, (∀ a ∈ l, f a = g a) → l.flatMap f = l.flatMap g
  | [], _ => rfl
  | a :: l, h => by
    rw [List.flatMap_cons, List.flatMap_cons, h a (by simp), flatMap_cg fun b hb => h b (by simp [hb])]
theorem path_ups : ∀ (Q : List Cell), pathUps Q = (List.range (Q.length - 1)).flatMap fun k => match Q[k]?, Q[k + 1]? with | some a, some b => edge a b | _, _ => []
  | [] => rfl
  | [a] => rfl
  | a :: b :: t => by
    have ih := path_ups (b :: t)
    simp only [List.length_cons, Nat.add_sub_cancel] at ih ⊢
    rw [List.range_succ_eq_map, List.flatMap_cons, List.flatMap_map]
    simp only [pathUps]
    rw [ih]
    rfl
theorem cyc_get {P : List Cell} {p : Cell} {k : Nat} (hk : k < P.length + 1) : ((p :: P) ++ [p])[k]? = (p :: P)[k]? ∧ ((p :: P) ++ [p])[k + 1]? = (p :: P)[(k + 1) % (p :: P).length]? := by
  refine ⟨List.getElem?_append_left (by simpa using hk), ?_⟩
  by_cases h : k + 1 < (p :: P).length
  · rw [List.getElem?_append_left h, Nat.mod_eq_of_lt h]
  · have e : k + 1 = (p :: P).length := by simp at h ⊢; omega
    rw [e, Nat.mod_self, List.getElem?_append_right (Nat.le_refl _)]
    simp
theorem upsP_path (p : Cell) (P : List Cell) : upsP (p :: P) = pathUps ((p :: P) ++ [p]) := by
  rw [path_ups]
  unfold upsP
  have hl : ((p :: P) ++ [p]).length - 1 = (p :: P).length := by simp
  rw [hl]
  refine flatMap_cg fun k hk => ?_
  rw [List.mem_range] at hk
  obtain ⟨h1, h2⟩ := cyc_get (p := p) (P := P) (k := k) (by simpa using hk)
  unfold edgeAt
  rw [h1, h2]
  generalize (p :: P)[k]? = A
  generalize (p :: P)[(k + 1) % (p :: P).length]? = B
  cases A <;> cases B <;> rfl
theorem pathSum_ups (φ : List Up → Int) (h0 : φ [] = 0) (ha : ∀ A B, φ (A ++ B) = φ A + φ B) : ∀ Q, φ (pathUps Q) = pathSum (fun a b => φ (edge a b)) Q
  | [] => h0
  | [a] => h0
  | a :: b :: t => by
    simp only [pathUps, pathSum, ha]
    rw [pathSum_ups φ h0 ha (b :: t)]
theorem pathSum_tele (f : Cell → Int) : ∀ (a : Cell) (t : List Cell) (z : Cell), pathSum (fun a b => f b - f a) (a :: (t ++ [z])) = f z - f a
  | a, [], z => by simp [pathSum]
  | a, b :: t, z => by
    have := pathSum_tele f b t z
    simp only [List.cons_append, pathSum] at this ⊢
    omega
theorem tot_edge (a b : Cell) (y : Int) : tot (edge a b) y = (if y < b.y then 1 else 0) - (if y < a.y then 1 else 0) := by
  unfold edge
  split
  · rw [tot_one]
    simp only [act, Bool.and_eq_true, decide_eq_true_eq]
    split <;> split <;> split <;> omega
  · split
    · rw [tot_one]
      simp only [act, Bool.and_eq_true, decide_eq_true_eq]
      split <;> split <;> split <;> omega
    · have : a.y = b.y := by omega
      rw [this]; simp [tot]
theorem tot_ups (y : Int) : ∀ l : List (List Cell), tot (ups l) y = 0
  | [] => rfl
  | P :: l => by
    have ih := tot_ups y l
    have e : ups (P :: l) = upsP P ++ ups l := rfl
    rw [e, tot_app, ih]
    cases P with
    | nil => rfl
    | cons p P =>
      rw [upsP_path, pathSum_ups (fun U => tot U y) rfl fun A B => tot_app A B y]
      have h1 : (fun a b => tot (edge a b) y) = fun a b : Cell => (fun c : Cell => if y < c.y then (1 : Int) else 0) b - (fun c : Cell => if y < c.y then (1 : Int) else 0) a := by
        funext a b; exact tot_edge a b y
      rw [h1]
      have := pathSum_tele (fun c : Cell => if y < c.y then (1 : Int) else 0) p P p
      rw [List.cons_append, this]; omega

theorem up_sorted (l : List Up) : ∃ U : List Up, U.Perm l ∧ U.Pairwise fun p q => q.x ≤ p.x := by
  have := List.pairwise_mergeSort (le := fun p q : Up => decide (q.x ≤ p.x)) (fun a b c h1 h2 => by simp at *; omega) (fun a b => by simp; omega) l
  exact ⟨_, List.mergeSort_perm _ _, this.imp fun {a b} h => by simpa using h⟩
theorem back_spec (l : List (List Cell)) (hl : l.length ≤ 1000000) (hp : ∀ P ∈ l, P.length ≤ 1000000) (hs : (l.map List.length).sum ≤ 1000000) :
    ∃ B, PC Tryz.prog 37 [encPs l] (.p (.tup [.agg (regRow (if badL l then [] else B)), .int .i64 (if badL l then 1 else 0)])) ∧ (badL l = false → validR B = true ∧ ∀ c, c ∈ regCells B ↔ 0 < wS (ups l) c.x c.y) := by
  obtain ⟨U0, p0, s0⟩ := up_sorted (ups l)
  have facts : badL l = false → ∀ U : List Up, U.Perm (ups l) → (U.Pairwise fun p q => q.x ≤ p.x) → validR (backRows U) = true ∧ ∀ c, c ∈ regCells (backRows U) ↔ 0 < wS (ups l) c.x c.y := fun hb U hU hd => by
    have := back_facts hd (fun u hu => ups_fine hb u (hU.mem_iff.1 hu)) fun y => by rw [tot_perm hU]; exact tot_ups y l
    exact ⟨this.1, fun c => by rw [this.2, wS_perm hU]⟩
  refine ⟨backRows U0, back_ok l hl hp hs _ fun hb U hU hd => ?_, fun hb => facts hb U0 p0 s0⟩
  obtain ⟨v1, c1⟩ := facts hb U hU hd
  obtain ⟨v2, c2⟩ := facts hb U0 p0 s0
  exact region_uniq v1 v2 fun c => by rw [c1, c2]
end Go.Proofs.YtdddknniooimmaaGreat

namespace Go.Proofs.YtdddknniooimmaaGreat
open Go.Abs

def mv (a : Cell) : Hd → Int → Cell
  | .e, k => ⟨a.x + k, a.y⟩
  | .n, k => ⟨a.x, a.y + k⟩
  | .w, k => ⟨a.x - k, a.y⟩
  | .s, k => ⟨a.x, a.y - k⟩
theorem stp_mv (a : Cell) (h : Hd) (k : Int) : stp h (mv a h k) = mv a h (k + 1) := by
  cases h <;> simp [stp, mv] <;> omega
theorem stp_one (a : Cell) (h : Hd) : stp h a = mv a h 1 := by cases h <;> rfl
def Chn : Cell → List Crk → Cell → Prop
  | p, [], z => p = z
  | p, d :: t, z => d.p = p ∧ Chn d.q t z
theorem orb_chn (S : Cell → Bool) : ∀ (n : Nat) (c : Crk), Chn c.p (orb (suc S) n c) (itn (suc S) n c).p
  | 0, c => rfl
  | n + 1, c => ⟨rfl, orb_chn S n (suc S c)⟩
def Adds (ε : Cell → Cell → Int) : Prop := ∀ a h (k : Int), 1 ≤ k → ε a (mv a h (k + 1)) = ε a (mv a h k) + ε (mv a h k) (mv a h (k + 1))
theorem path_turn {ε : Cell → Cell → Int} (hadd : Adds ε) : ∀ (t : List Crk) (a : Cell) (h : Hd) (k : Int) (z : Cell), 1 ≤ k → Chn (mv a h k) t z → pathSum ε (a :: (turnG h t ++ [z])) = ε a (mv a h k) + (t.map fun c => ε c.p c.q).sum
  | [], a, h, k, z, hk, hc => by
    simp only [Chn] at hc
    subst hc
    simp [turnG, pathSum]
  | d :: t, a, h, k, z, hk, hc => by
    obtain ⟨hp, hc⟩ := hc
    by_cases e : d.h = h
    · have hq : d.q = mv a h (k + 1) := by rw [← stp_mv, ← hp, ← e]; rfl
      rw [hq] at hc
      have ih := path_turn hadd t a h (k + 1) z (by omega) hc
      simp only [turnG, if_pos e, List.map_cons, List.sum_cons]
      rw [e, ih, hp, hq, hadd a h k hk]
      omega
    · have hq : d.q = mv (mv a h k) d.h 1 := by rw [← hp, ← stp_one]; rfl
      rw [hq] at hc
      have ih := path_turn hadd t (mv a h k) d.h 1 z (by omega) hc
      simp only [turnG, if_neg e, List.cons_append, pathSum, List.map_cons, List.sum_cons]
      rw [hp, ih, hq]
      try omega
theorem path_straight : ∀ (t : List Crk) (a : Cell) (h : Hd) (k : Int) (z : Cell), 1 ≤ k → Chn (mv a h k) t z → pathAll (fun a b => ∃ h k, 1 ≤ k ∧ b = mv a h k) (a :: (turnG h t ++ [z]))
  | [], a, h, k, z, hk, hc => by
    simp only [Chn] at hc
    subst hc
    simp only [turnG, List.nil_append, pathAll, and_true]
    exact ⟨h, k, hk, rfl⟩
  | d :: t, a, h, k, z, hk, hc => by
    obtain ⟨hp, hc⟩ := hc
    by_cases e : d.h = h
    · have hq : d.q = mv a h (k + 1) := by rw [← stp_mv, ← hp, ← e]; rfl
      rw [hq] at hc
      have ih := path_straight t a h (k + 1) z (by omega) hc
      simp only [turnG, if_pos e]
      rw [e]; exact ih
    · have hq : d.q = mv (mv a h k) d.h 1 := by rw [← hp, ← stp_one]; rfl
      rw [hq] at hc
      have ih := path_straight t (mv a h k) d.h 1 z (by omega) hc
      simp only [turnG, if_neg e, List.cons_append, pathAll]
      rw [hp]
      exact ⟨⟨h, k, hk, rfl⟩, ih⟩
theorem loop_path {S : Cell → Bool} {L : List Crk} (hL : IsLp S L) : ∃ p P, polyOf L = p :: P ∧ pathAll (fun a b => ∃ h k, 1 ≤ k ∧ b = mv a h k) ((p :: P) ++ [p]) ∧ ∀ ε, Adds ε → pathSum ε ((p :: P) ++ [p]) = (L.map fun c => ε c.p c.q).sum := by
  obtain ⟨c, n, hc, pc, rfl, lc⟩ := hL
  obtain ⟨m, rfl⟩ : ∃ m, n = m + 1 := ⟨n - 1, by have := pc.pos; omega⟩
  have hch := orb_chn S m (suc S c)
  have hret : itn (suc S) m (suc S c) = c := pc.ret
  rw [hret] at hch
  have hq : (suc S c).p = mv c.p c.h 1 := by rw [← stp_one]; rfl
  rw [hq] at hch
  refine ⟨c.p, turnG c.h (orb (suc S) m (suc S c)), rfl, path_straight _ _ _ 1 _ (by omega) hch, fun ε hadd => ?_⟩
  have := path_turn hadd _ _ _ 1 _ (by omega) hch
  rw [List.cons_append, this]
  simp only [orb, List.map_cons, List.sum_cons]
  rw [show c.q = mv c.p c.h 1 by rw [← stp_one]; rfl]
theorem lps_perm {S : Cell → Bool} {C : List Crk} (hC : Cracks S C) (hn : C.Nodup) {Ls : List (List Crk)} (h : Lps S Ls) : Ls.flatten.Perm C := by
  refine (List.perm_ext_iff_of_nodup ?_ hn).2 fun c => ?_
  · unfold List.Nodup
    rw [List.pairwise_flatten]
    refine ⟨fun L hL => ?_, List.Pairwise.imp_of_mem (fun {L M} hL hM hlt => ?_) h.sorted⟩
    · obtain ⟨c, n, hc, pc, rfl, _⟩ := h.each L hL
      exact orb_nodup hC.cl hC.inj ((hC c).2 hc) pc.least
    · intro x hx y hy e
      subst e
      have := lp_uniq (h.each L hL) (h.each M hM) hx hy hC
      subst this
      obtain ⟨c, d, h1, h2, h3⟩ := hlt
      rw [h1] at h2; cases h2
      exact lowC_irr _ h3
  · rw [List.mem_flatten, hC]
    constructor
    · rintro ⟨L, hL, hc⟩
      obtain ⟨d, n, hd, pd, rfl, _⟩ := h.each L hL
      exact orb_isC hd hc
    · exact h.cover c
theorem ups_sum (φ : List Up → Int) (h0 : φ [] = 0) (ha : ∀ A B, φ (A ++ B) = φ A + φ B) (hadd : Adds fun a b => φ (edge a b)) {S : Cell → Bool} : ∀ (Ls : List (List Crk)), (∀ L ∈ Ls, IsLp S L) → φ (ups (Ls.map polyOf)) = (Ls.flatten.map fun c => φ (edge c.p c.q)).sum
  | [], _ => by simpa [ups] using h0
  | L :: Ls, h => by
    have ih := ups_sum φ h0 ha hadd Ls fun M hM => h M (by simp [hM])
    have e : ups ((L :: Ls).map polyOf) = upsP (polyOf L) ++ ups (Ls.map polyOf) := rfl
    obtain ⟨p, P, hP, _, hs⟩ := loop_path (h L (by simp))
    rw [e, ha, ih, hP, upsP_path, pathSum_ups φ h0 ha, hs _ hadd]
    simp

theorem wS_edge (a b : Cell) (x y : Int) : wS (edge a b) x y = if x < a.x then tot (edge a b) y else 0 := by
  by_cases hx : x < a.x
  · rw [if_pos hx]
    refine wS_tot fun u hu _ => ?_
    unfold edge at hu
    split at hu
    · have := List.mem_singleton.1 hu; rw [this]; exact hx
    · split at hu
      · have := List.mem_singleton.1 hu; rw [this]; exact hx
      · cases hu
  · rw [if_neg hx]
    unfold wS
    rw [List.filter_eq_nil_iff.2 fun u hu => ?_]
    · rfl
    · have : u.x = a.x := by
        unfold edge at hu
        split at hu
        · have := List.mem_singleton.1 hu; rw [this]
        · split at hu
          · have := List.mem_singleton.1 hu; rw [this]
          · cases hu
      simp [this, hx]
theorem wS_adds (x y : Int) : Adds fun a b => wS (edge a b) x y := by
  intro a h k hk
  simp only [wS_edge, tot_edge]
  cases h <;> simp only [mv] <;> (repeat' split) <;> omega
def kap (x y : Int) (c : Crk) : Int := wS (edge c.p c.q) x y
theorem kap_eq (x y : Int) (c : Crk) : kap x y c = match c.h with
    | .n => if c.p.y = y ∧ x < c.p.x then 1 else 0
    | .s => if c.p.y = y + 1 ∧ x < c.p.x then -1 else 0
    | _ => 0 := by
  obtain ⟨⟨u, v⟩, h⟩ := c
  simp only [kap, wS_edge, tot_edge]
  cases h <;> simp only [Crk.q, stp] <;> (repeat' split) <;> omega
theorem sum_zero {α : Type} {f : α → Int} : ∀ {l : List α}, (∀ a ∈ l, f a = 0) → (l.map f).sum = 0
  | [], _ => rfl
  | a :: l, h => by
    rw [List.map_cons, List.sum_cons, h a (by simp), sum_zero fun b hb => h b (by simp [hb])]; rfl
theorem sum_flat {α β : Type} (f : α → List β) (g : β → Int) : ∀ l : List α, ((l.flatMap f).map g).sum = (l.map fun a => ((f a).map g).sum).sum
  | [] => rfl
  | a :: l => by
    rw [List.flatMap_cons, List.map_append, List.sum_append, sum_flat f g l]; rfl
theorem inR_sum (x : Int) : ∀ {l : List Run}, Apart l → (l.map fun r => (if x < r.b then (1 : Int) else 0) - (if x < r.a then 1 else 0)).sum = if inR l x = true then 1 else 0
  | [], _ => by simp [inR]
  | r :: l, h => by
    have h2 : Apart l := ⟨fun p hp => h.1 p (by simp [hp]), (List.pairwise_cons.1 h.2).2⟩
    have ih := inR_sum x h2
    have hr := h.1 r (by simp)
    rw [List.map_cons, List.sum_cons, ih]
    by_cases h1 : r.a ≤ x ∧ x < r.b
    · have hno : ¬ inR l x = true := fun hin => by
        obtain ⟨p, hp, h3, h4⟩ := inR_iff.1 hin
        have := (List.pairwise_cons.1 h.2).1 p hp
        omega
      have hyes : inR (r :: l) x = true := inR_iff.2 ⟨r, by simp, h1⟩
      rw [if_neg hno, if_pos hyes, if_pos h1.2, if_neg (by omega)]; rfl
    · have hsame : inR (r :: l) x = inR l x := by
        rw [Bool.eq_iff_iff, inR_iff, inR_iff]
        constructor
        · rintro ⟨p, hp, h3⟩
          rcases List.mem_cons.1 hp with rfl | hp
          · exact absurd h3 h1
          · exact ⟨p, hp, h3⟩
        · rintro ⟨p, hp, h3⟩; exact ⟨p, by simp [hp], h3⟩
      rw [hsame]
      (repeat' split) <;> omega
theorem rowCr_sum {R : List Row} (hv : validR R = true) {w : Row} (hw : w ∈ R) (x y : Int) : ((rowCr R w).map (kap x y)).sum = if w.y = y then (if inR w.runs x = true then 1 else 0) else 0 := by
  unfold rowCr
  have hwr := rowOf_mem hv hw
  rw [← hwr]
  obtain ⟨a1, _⟩ := sub_facts hv w.y (w.y - 1)
  obtain ⟨b1, _⟩ := sub_facts hv w.y (w.y + 1)
  have ap := rowOf_ap hv w.y
  rw [List.map_append, List.map_append, List.sum_append, List.sum_append, sum_zero (l := (sweep fD (rowOf R w.y) (rowOf R (w.y - 1))).flatMap (eRun w.y)) fun c hc => by
    obtain ⟨r, hr, hm⟩ := List.mem_flatMap.1 hc
    rw [kap_eq, ((mem_eRun (a1.1 r hr)).1 hm).1], sum_zero (l := (sweep fD (rowOf R w.y) (rowOf R (w.y + 1))).flatMap (wRun w.y)) fun c hc => by
    obtain ⟨r, hr, hm⟩ := List.mem_flatMap.1 hc
    rw [kap_eq, ((mem_wRun (b1.1 r hr)).1 hm).1], sum_flat]
  by_cases e : w.y = y
  · subst e
    rw [if_pos rfl, ← inR_sum x ap]
    have : (fun r => ((vRun w.y r).map (kap x w.y)).sum) = fun r : Run => (if x < r.b then (1 : Int) else 0) - (if x < r.a then 1 else 0) := by
      funext r
      simp only [vRun, List.map_cons, List.map_nil, List.sum_cons, List.sum_nil, kap_eq]
      (repeat' split) <;> simp_all <;> omega
    rw [this]; omega
  · rw [if_neg e, sum_zero]
    · rfl
    · intro r _
      simp only [vRun, List.map_cons, List.map_nil, List.sum_cons, List.sum_nil, kap_eq]
      rw [if_neg (by omega), if_neg (by omega)]; rfl
theorem collect_sum {R : List Row} (hv : validR R = true) (c : Cell) : ((collectL R).map (kap c.x c.y)).sum = if Sof R c = true then 1 else 0 := by
  unfold collectL
  rw [sum_flat]
  have key : ∀ T : List Row, (∀ w ∈ T, w ∈ R) → (T.Pairwise fun a b => a.y < b.y) → (T.map fun w => ((rowCr R w).map (kap c.x c.y)).sum).sum = if (∃ w ∈ T, w.y = c.y ∧ inR w.runs c.x = true) then 1 else 0 := by
    intro T
    induction T with
    | nil => intro _ _; simp
    | cons w T ih =>
      intro hT hp
      obtain ⟨p1, p2⟩ := List.pairwise_cons.1 hp
      rw [List.map_cons, List.sum_cons, ih (fun v hv => hT v (by simp [hv])) p2, rowCr_sum hv (hT w (by simp))]
      by_cases e : w.y = c.y
      · have hno : ¬ ∃ v ∈ T, v.y = c.y ∧ inR v.runs c.x = true := fun ⟨v, hv', h1, _⟩ => by have := p1 v hv'; omega
        rw [if_pos e, if_neg hno]
        by_cases hin : inR w.runs c.x = true
        · rw [if_pos hin, if_pos ⟨w, by simp, e, hin⟩]; rfl
        · rw [if_neg hin, if_neg]
          · rfl
          · rintro ⟨v, hv', h1, h2⟩
            rcases List.mem_cons.1 hv' with rfl | hv'
            · exact hin h2
            · exact hno ⟨v, hv', h1, h2⟩
      · rw [if_neg e, Int.zero_add]
        have : (∃ v ∈ w :: T, v.y = c.y ∧ inR v.runs c.x = true) ↔ ∃ v ∈ T, v.y = c.y ∧ inR v.runs c.x = true := by
          constructor
          · rintro ⟨v, hv', h1, h2⟩
            rcases List.mem_cons.1 hv' with rfl | hv'
            · exact absurd h1 e
            · exact ⟨v, hv', h1, h2⟩
          · rintro ⟨v, hv', h1, h2⟩; exact ⟨v, by simp [hv'], h1, h2⟩
        simp only [this]
  rw [key R (fun w hw => hw) (rows_pw hv)]
  have : (∃ w ∈ R, w.y = c.y ∧ inR w.runs c.x = true) ↔ Sof R c = true := by
    unfold Sof
    constructor
    · rintro ⟨w, hw, h1, h2⟩; rw [← h1, rowOf_mem hv hw]; exact h2
    · intro h
      rcases rowOf_cases hv c.y with ⟨w, hw, h1, h2⟩ | ⟨_, h2⟩
      · exact ⟨w, hw, h1, by rw [← h2]; exact h⟩
      · rw [h2] at h; simp [inR] at h
  simp only [this]
theorem trace_wS {R : List Row} (hv : validR R = true) {Ls : List (List Crk)} (h : Lps (Sof R) Ls) (c : Cell) : wS (ups (Ls.map polyOf)) c.x c.y = if Sof R c = true then 1 else 0 := by
  rw [ups_sum (fun U => wS U c.x c.y) rfl (fun A B => wS_app A B _ _) (wS_adds _ _) Ls h.each, ← collect_sum hv c]
  exact perm_sum ((lps_perm (collect_cracks hv) (collect_nodup hv) h).map _)
end Go.Proofs.YtdddknniooimmaaGreat

namespace Go.Proofs.YtdddknniooimmaaGreat
open Go.Abs Go.Shelf

theorem objs_dyn {n : Nat} {tm : List (Nat × AV)} {nxt : Nat} {e m : Nat} {H : List (Nat × Option Ob)} {S : List (List (List D))} (h : (H.all fun x => Nat.blt x.1 1000000) = true) : ∀ j, (⟨n, tm, H ++ dyn e m 0 S, nxt⟩ : St).obj (1000000 + j) = (S[j]?).map fun r => (⟨e, m, dr r⟩ : Ob) := by
  intro j
  simp only [St.obj]
  rw [find_app, find_lowN h (by omega), Option.none_or, find_dyn0]
  cases S[j]? <;> rfl
theorem mdata_kl (A : List (Cell × List Hd)) : mdata (kl A) = cRows A := by simp [mdata, kl, rowL]
theorem runs_bd {l : List Run} (h : fine l = true) : ∀ r ∈ l, -4096 ≤ r.a ∧ r.a < r.b ∧ r.b ≤ 4096 := fun r hr => by
  obtain ⟨_, ha, hb⟩ := fine_apart.1 h
  have := hb r hr
  exact ⟨this.1, ha.1 r hr, this.2⟩
theorem sub_in {l b : List Run} (h : fine l = true) (hb : rvalid b = true) : Apart (sweep fD l b) ∧ ∀ r ∈ sweep fD l b, -4096 ≤ r.a ∧ r.b ≤ 4096 := by
  obtain ⟨h1, h2⟩ := sweep_facts (f := fD) rfl (fine_rv h) hb
  refine ⟨h1, apart_bounds h1 fun y hy => ?_⟩
  rw [h2] at hy
  simp only [fD, Bool.and_eq_true] at hy
  obtain ⟨r, hr, h3, h4⟩ := inR_iff.1 hy.1
  have := runs_bd h r hr
  omega
theorem sub_bd {l b : List Run} (h : fine l = true) (hb : rvalid b = true) : ∀ r ∈ sweep fD l b, -4096 ≤ r.a ∧ r.a < r.b ∧ r.b ≤ 4096 := fun r hr => by
  obtain ⟨h1, h2⟩ := sub_in h hb
  have := h2 r hr
  exact ⟨this.1, h1.1 r hr, this.2⟩
theorem sub_len {l b : List Run} (h : fine l = true) (hb : rvalid b = true) : (sweep fD l b).length ≤ 1000000 := by
  obtain ⟨h1, h2⟩ := sub_in h hb
  have := apart_len h1 h2
  omega
theorem rowOf_len3 {R : List Row} (hR : smallR R) (y : Int) : (rowOf R y).length ≤ 1000000 := by
  unfold rowOf
  cases hf : R.find? (fun w => decide (w.y = y)) with
  | none => simp
  | some w => exact hR.2 w (List.mem_of_find?_eq_some hf)
set_option maxHeartbeats 64000000 in
theorem collect_px (R : List Row) (hv : validR R = true) (hR : smallR R) (hbig : (collectL R).length ≤ 10000000) : PX Tryz.prog 86 [.d (.agg (regRow R))] [] [] [(0, ⟨118, mapM, dr (cRows (addAll [] (collectL R)))⟩)] (.hm 0) := by
  have hl := hR.1
  obtain ⟨full, hfull⟩ : ∃ full, full = collectL R := ⟨_, rfl⟩
  rw [← hfull] at hbig ⊢
  have hrow : ∀ i w, R[i]? = some w → (R.drop i).flatMap (rowCr R) = rowCr R w ++ (R.drop (i + 1)).flatMap (rowCr R) := fun i w h => by rw [drop_get h, List.flatMap_cons]
  have hk0 : (kl []).length ≤ 100000000 := by simp [kl]
  refine px_of_awp cx (fn := Tryz.f86) (c := _) 0 Tryz.func86 rfl rfl (Nat.le_of_ble_eq_true rfl) rfl rfl fun Ls => ?_
  rw [Tryz.ntmps86]; refine Nav.imp ?_
  refine awp_region cx [] fun K hK => ?_
  simp [push_cast]
  repeat (refine And.intro (by clear hK; intros; first | omega | (simp_all; done) | (simp_all <;> omega)) ?_)
  refine hK _ ?_; clear hK K; refine Nav.imp ?_
  refine awp_region cx [] fun K hK => ?_
  simp [push_cast]
  repeat (refine And.intro (by clear hK; intros; first | omega | (simp_all; done) | (simp_all <;> omega)) ?_)
  refine hK _ ?_; clear hK K; refine Nav.imp ?_
  refine awp_region cx [] fun K hK => ?_
  simp [push_cast]
  repeat (refine And.intro (by clear hK; intros; first | omega | (simp_all; done) | (simp_all <;> omega)) ?_)
  refine hK _ ?_; clear hK K; refine Nav.imp ?_
  refine awp_loop (β := Nat × List (Cell × List Hd)) (fun s => ⟨106, [(1, .ptr 0 0 0), (3, .hm 1), (18, .d (encRows R)), (19, .d (.int .i64 R.length)), (20, .d (.int .i64 s.1))], (1, some ⟨118, mapM, mrows (idsN (kl (s.2)).length) (kl (s.2))⟩) :: [(0, some ⟨24, 1, [[.d (encRows R)]]⟩)] ++ dyn 178 1 0 (SA (kl (s.2))), 1000000000000⟩) (fun s => s.1 ≤ R.length ∧ Acc full s.2 ((R.drop s.1).flatMap (rowCr R))) (fun s => R.length - s.1) (0, []) ?_ ⟨Nat.zero_le _, ⟨[], rfl, by simp [hfull, collectL]⟩⟩ ?_
  · refine weak_map (A := kl []) [(0, some 0), (1, some 2)] (idsN (kl []).length) [(0, some ⟨24, 1, [[.d (encRows R)]]⟩)] 1 2 rfl rfl rfl (by omega) (idsN_length _) rfl ?_ rfl ?_ ?_ ?_ ?_ (idsN_nodup _) ?_ ?_
    · simp [upT, up, upL, push_cast, find_app, find_dynN]
    · simp [push_cast, find_dyn, mrows, kl, idsN]
    · simp [upH, upR, upL, up, push_cast, find_app, find_dyn, find_dynN]
    · simp [namesOk, push_cast]
    · simp [olds]
    · intro x hx; simp [kl, idsN] at hx
    · intro q x p hx hp1; simp [kl] at hp1
  · rintro ⟨i, A⟩ ⟨hi, hacc⟩
    simp only at hi hacc
    have ga := hacc.good hbig
    refine Nav.imp ?_
    refine awp_region cx [] fun K hK => ?_
    simp [push_cast]
    repeat (refine And.intro (by clear hK; intros; first | omega | (simp_all; done) | (simp_all <;> omega)) ?_)
    refine hK _ ?_; clear hK K; refine Nav.imp ?_
    refine awp_cond (b := decide ((i : Int) < R.length)) (by simp [push_cast]) (fun hb => ?_) (fun hb => ?_) <;> (refine Nav.imp ?_)
    · have hlt : i < R.length := by simpa using hb
      obtain ⟨w, hw⟩ := getq hlt
      have c1 := around_ok R i w hv hR hw
      have e0 := wrap_i64 (n := (i : Int) + 1) (by omega) (by omega)
      obtain ⟨hy, hfw⟩ := validR_at hv hw
      have hB := rowOf_rv hv (w.y - 1)
      have hU := rowOf_rv hv (w.y + 1)
      have hBl : (rowOf R (w.y - 1)).length ≤ 1000000 := rowOf_len3 hR _
      have hUl : (rowOf R (w.y + 1)).length ≤ 1000000 := rowOf_len3 hR _
      have hwl := hR.2 w (List.mem_of_getElem? hw)
      have c2 := subtract_ok w.runs _ hwl hBl (fine_rv hfw) hB
      have c3 := subtract_ok w.runs _ hwl hUl (fine_rv hfw) hU
      have hL1 := sub_bd hfw hB
      have hL2 := sub_bd hfw hU
      have hrs := runs_bd hfw
      have hR1 := rowCr R w
      rw [hrow i w hw] at hacc
      generalize hT3 : (R.drop (i + 1)).flatMap (rowCr R) = T3 at hacc
      unfold rowCr at hacc
      simp only [List.append_assoc] at hacc
      have hLl1 := sub_len hfw hB
      have hLl2 := sub_len hfw hU
      clear hrow
      obtain ⟨y, rs⟩ := w
      simp only at *
      generalize rowOf R (y - 1) = B at *
      generalize rowOf R (y + 1) = U at *
      generalize sweep fD rs B = L1 at *
      generalize sweep fD rs U = L2 at *
      refine awp_region cx [] fun K hK => ?_
      simp [push_cast, hw]
      repeat (refine And.intro (by clear hK; intros; first | omega | (simp_all; done) | (simp_all <;> omega)) ?_)
      refine hK _ ?_; clear hK K; refine Nav.imp ?_
      refine awp_region cx [(2, .p (.tup [encRuns B, encRuns U]))] fun K hK => ?_
      simp [push_cast, c1]
      repeat (refine And.intro (by clear hK; intros; first | omega | (simp_all; done) | (simp_all <;> omega)) ?_)
      refine hK _ ?_; clear hK K; refine Nav.imp ?_
      refine awp_region cx [(3, .p (encRuns L1))] fun K hK => ?_
      simp [push_cast, c2]
      repeat (refine And.intro (by clear hK; intros; first | omega | (simp_all; done) | (simp_all <;> omega)) ?_)
      refine hK _ ?_; clear hK K; refine Nav.imp ?_
      have hL := hL1
      generalize hT : L2.flatMap (wRun y) ++ (rs.flatMap (vRun y) ++ T3) = T at hacc
      refine awp_loop (β := Nat × List (Cell × List Hd)) (fun s => ⟨106, [(1, .ptr 0 0 0), (3, .hm 1), (18, .d (encRows R)), (19, .d (.int .i64 R.length)), (20, .d (.int .i64 i)), (5, .ptr 2 0 0), (7, .d (encRuns U)), (34, .d (encRuns L1)), (35, .d (.int .i64 L1.length)), (36, .d (.int .i64 s.1))], (1, some ⟨118, mapM, mrows (idsN (kl (s.2)).length) (kl (s.2))⟩) :: [(0, some ⟨24, 1, [[.d (encRows R)]]⟩), (2, some ⟨65, 2, [[.d (.int .i64 y), .d (encRuns rs)]]⟩)] ++ dyn 178 1 0 (SA (kl (s.2))), 1000000000000⟩) (fun s => s.1 ≤ L1.length ∧ Acc full s.2 ((L1.drop s.1).flatMap (eRun y) ++ T)) (fun s => L1.length - s.1) (0, A) ?_ ⟨Nat.zero_le _, by simpa using hacc⟩ ?_
      · refine weak_map (A := kl (A)) [(0, some 0), (1, some 1), (2, some 1000000000004)] (idsN (kl (A)).length) [(0, some ⟨24, 1, [[.d (encRows R)]]⟩), (2, some ⟨65, 2, [[.d (.int .i64 y), .d (encRuns rs)]]⟩)] 1 1 rfl rfl rfl (by have := ga.2.1; omega) (idsN_length _) rfl ?_ rfl ?_ ?_ ?_ ?_ (idsN_nodup _) ?_ ?_
        · simp [upT, up, upL, push_cast, find_app, find_dynN]
        · simp [push_cast, find_dyn]
        · simp [upH, upR, upL, up, push_cast, find_app, find_dyn, find_dynN]
        · simp [namesOk, push_cast]
        · simp [olds]
        · intro x hx; have h1 := idsN_mem.1 hx; have := ga.2.1; simp [olds]; omega
        · intro q x p hx hp1; obtain ⟨hq, rfl⟩ := idsN_get' hx; have := ga.2.1
          have hz := fun (e m : Nat) => SA_find (e := e) (m := m) hp1
          simp [push_cast, find_dyn0, hz]
          repeat rw [if_neg (by omega)]
          try rfl
      · rintro ⟨k, A⟩ ⟨hk, hacc⟩
        simp only at hk hacc
        have gk := hacc.good hbig
        refine Nav.imp ?_
        refine awp_region cx [] fun K hK => ?_
        simp [push_cast]
        repeat (refine And.intro (by clear hK; intros; first | omega | (simp_all; done) | (simp_all <;> omega)) ?_)
        refine hK _ ?_; clear hK K; refine Nav.imp ?_
        refine awp_cond (b := decide ((k : Int) < L1.length)) (by simp [push_cast]) (fun hb => ?_) (fun hb => ?_) <;> (refine Nav.imp ?_)
        · have hlt : k < L1.length := by simpa using hb
          obtain ⟨r, hr⟩ := getq hlt
          have hrb := hL r (List.mem_of_getElem? hr)
          have e0 := wrap_i64 (n := (k : Int) + 1) (by omega) (by omega)
          rw [drop_get hr, List.flatMap_cons, List.append_assoc] at hacc
          refine awp_region cx [] fun K hK => ?_
          simp [push_cast, hr]
          repeat (refine And.intro (by clear hK; intros; first | omega | (simp_all; done) | (simp_all <;> omega)) ?_)
          refine hK _ ?_; clear hK K; refine Nav.imp ?_
          refine awp_region cx [] fun K hK => ?_
          simp [push_cast]
          repeat (refine And.intro (by clear hK; intros; first | omega | (simp_all; done) | (simp_all <;> omega)) ?_)
          refine hK _ ?_; clear hK K; refine Nav.imp ?_
          generalize hT1 : (L1.drop (k + 1)).flatMap (eRun y) ++ T = T1 at hacc
          refine awp_loop (β := Nat × List (Cell × List Hd)) (fun s => ⟨106, [(1, .ptr 0 0 0), (3, .hm 1), (18, .d (encRows R)), (19, .d (.int .i64 R.length)), (20, .d (.int .i64 i)), (5, .ptr 2 0 0), (7, .d (encRuns U)), (34, .d (encRuns L1)), (35, .d (.int .i64 L1.length)), (36, .d (.int .i64 k)), (9, .ptr 3 0 0), (10, .d (.int .i64 (r.a + s.1)))], (1, some ⟨118, mapM, mrows (idsN (kl (s.2)).length) (kl (s.2))⟩) :: [(0, some ⟨24, 1, [[.d (encRows R)]]⟩), (2, some ⟨65, 2, [[.d (.int .i64 y), .d (encRuns rs)]]⟩), (3, some ⟨85, 2, [[.d (.int .i64 r.a), .d (.int .i64 r.b)]]⟩)] ++ dyn 178 1 0 (SA (kl (s.2))), 1000000000000⟩) (fun s => s.1 ≤ (r.b - r.a).toNat ∧ Acc full s.2 ((eRun y r).drop s.1 ++ T1)) (fun s => (r.b - r.a).toNat - s.1) (0, A) ?_ ⟨Nat.zero_le _, by simpa using hacc⟩ ?_
          · simp only [Int.natCast_zero, Int.add_zero]
            refine weak_map (A := kl (A)) [(0, some 0), (1, some 1), (2, some 2), (3, some 1000000000003)] (idsN (kl (A)).length) [(0, some ⟨24, 1, [[.d (encRows R)]]⟩), (2, some ⟨65, 2, [[.d (.int .i64 y), .d (encRuns rs)]]⟩), (3, some ⟨85, 2, [[.d (.int .i64 r.a), .d (.int .i64 r.b)]]⟩)] 1 1 rfl rfl rfl (by have := gk.2.1; omega) (idsN_length _) rfl ?_ rfl ?_ ?_ ?_ ?_ (idsN_nodup _) ?_ ?_
            · simp [upT, up, upL, push_cast, find_app, find_dynN]
            · simp [push_cast, find_dyn]
            · simp [upH, upR, upL, up, push_cast, find_app, find_dyn, find_dynN]
            · simp [namesOk, push_cast]
            · simp [olds]
            · intro x hx; have h1 := idsN_mem.1 hx; have := gk.2.1; simp [olds]; omega
            · intro q x p hx hp1; obtain ⟨hq, rfl⟩ := idsN_get' hx; have := gk.2.1
              have hz := fun (e m : Nat) => SA_find (e := e) (m := m) hp1
              simp [push_cast, find_dyn0, hz]
              repeat rw [if_neg (by omega)]
              try rfl
          · rintro ⟨j, A⟩ ⟨hj, hacc⟩
            simp only at hj hacc
            have gj := hacc.good hbig
            refine Nav.imp ?_
            refine awp_region cx [] fun K hK => ?_
            simp [push_cast]
            repeat (refine And.intro (by clear hK; intros; first | omega | (simp_all; done) | (simp_all <;> omega)) ?_)
            refine hK _ ?_; clear hK K; refine Nav.imp ?_
            refine awp_cond (b := decide (r.a + (j : Int) < r.b)) (by simp [push_cast]) (fun hb => ?_) (fun hb => ?_) <;> (refine Nav.imp ?_)
            · have hjl : j < (r.b - r.a).toNat := by simp at hb; omega
              rw [eRun_drop y r hjl, List.cons_append] at hacc
              have hacc2 := hacc.next
              have gjn := (hacc2.good hbig).2.1
              have e1 := wrap_i64 (n := r.a + (j : Int) + 1) (by omega) (by omega)

              refine awp_region_map cx [] [_, _, _, _, _] _ rfl rfl rfl rfl ⟨106, [(48, .hm 1), (52, .d (.agg (⟨⟨r.a + (j : Int), y⟩, .e⟩ : Crk).p.row)), (1, .ptr 0 0 0), (3, .hm 1), (18, .d (encRows R)), (19, .d (.int .i64 R.length)), (20, .d (.int .i64 i)), (5, .ptr 2 0 0), (7, .d (encRuns U)), (34, .d (encRuns L1)), (35, .d (.int .i64 L1.length)), (36, .d (.int .i64 k)), (9, .ptr 3 0 0), (10, .d (.int .i64 (r.a + j)))], (1, some ⟨118, mapM, mrows (idsN (kl (A)).length) (kl (A))⟩) :: [(0, some ⟨24, 1, [[.d (encRows R)]]⟩), (2, some ⟨65, 2, [[.d (.int .i64 y), .d (encRuns rs)]]⟩), (3, some ⟨85, 2, [[.d (.int .i64 r.a), .d (.int .i64 r.b)]]⟩)] ++ dyn 178 1 0 (SA (kl (A))), 1000000000000⟩ 138 [] rfl [.hm 0, .d (.agg (⟨⟨r.a + (j : Int), y⟩, .e⟩ : Crk).p.row), .d (.int .i64 0)] (kl (A)) (kl (addA (A) (⟨⟨r.a + (j : Int), y⟩, .e⟩ : Crk))) 1 rfl (by decide) (objs_dyn rfl) (Nat.le_refl _) (add_px (A) (⟨⟨r.a + (j : Int), y⟩, .e⟩ : Crk) gj.1 gj.2.2) (by have := gj.2.1; omega) (by have := gjn; omega) (by simp [rnsOk, rn, push_cast]) (Nat.le_of_ble_eq_true rfl) [(0, some 0), (1, some 1), (2, some 2), (3, some 3)] [(1, .ptr 0 0 0), (3, .hm 1), (18, .d (encRows R)), (19, .d (.int .i64 R.length)), (20, .d (.int .i64 i)), (5, .ptr 2 0 0), (7, .d (encRuns U)), (34, .d (encRuns L1)), (35, .d (.int .i64 L1.length)), (36, .d (.int .i64 k)), (9, .ptr 3 0 0), (10, .d (.int .i64 (r.a + j)))] [(0, some ⟨24, 1, [[.d (encRows R)]]⟩), (2, some ⟨65, 2, [[.d (.int .i64 y), .d (encRuns rs)]]⟩), (3, some ⟨85, 2, [[.d (.int .i64 r.a), .d (.int .i64 r.b)]]⟩)] rfl rfl rfl rfl (by intro k hk h; simp only [find] at h; (repeat' split at h) <;> simp_all) rfl ?_ ?_ ?_ ?_ ?_ ?_
              · simp [upT, up, upL, push_cast, find_app, find_dynN]
              · simp [upH, upR, upL, up, push_cast, find_app, find_dyn, find_dynN]
              · simp [namesOk, push_cast]
              · simp [olds]
              · intro K hK
                simp [push_cast]
                refine hK _ ?_
                refine weak_map (A := kl (A)) [(0, some 0), (1, some 1), (2, some 2), (3, some 3)] (idsN (kl (A)).length) [(0, some ⟨24, 1, [[.d (encRows R)]]⟩), (2, some ⟨65, 2, [[.d (.int .i64 y), .d (encRuns rs)]]⟩), (3, some ⟨85, 2, [[.d (.int .i64 r.a), .d (.int .i64 r.b)]]⟩)] 1 1 rfl rfl rfl (by have := gj.2.1; omega) (idsN_length _) rfl ?_ rfl ?_ ?_ ?_ ?_ (idsN_nodup _) ?_ ?_
                · simp [upT, up, upL, push_cast, find_app, find_dynN]
                · simp [push_cast, find_dyn]
                · simp [upH, upR, upL, up, push_cast, find_app, find_dyn, find_dynN]
                · simp [namesOk, push_cast]
                · simp [olds]
                · intro x hx; have h1 := idsN_mem.1 hx; have := gj.2.1; simp [olds]; omega
                · intro q x p hx hp1; obtain ⟨hq, rfl⟩ := idsN_get' hx; have := gj.2.1
                  have hz := fun (e m : Nat) => SA_find (e := e) (m := m) hp1
                  simp [push_cast, find_dyn0, hz]
                  repeat rw [if_neg (by omega)]
                  try rfl
              · refine Nav.imp ?_
                refine awp_region cx [] fun K hK => ?_
                simp [push_cast, e1]
                repeat (refine And.intro (by clear hK; intros; first | omega | (simp_all; done) | (simp_all <;> omega)) ?_)
                refine hK _ ?_; clear hK K; refine Nav.imp ?_
                refine ⟨(j + 1, addA A (⟨⟨r.a + (j : Int), y⟩, .e⟩ : Crk)), ⟨hjl, hacc2⟩, by simp only; omega, ?_⟩
                have e2 : r.a + ((j + 1 : Nat) : Int) = r.a + (j : Int) + 1 := by omega
                simp only [e2]
                refine weak_map (A := kl (addA A (⟨⟨r.a + (j : Int), y⟩, .e⟩ : Crk))) [(0, some 0), (1, some 1), (2, some 2), (3, some 3)] (idsN (kl (addA A (⟨⟨r.a + (j : Int), y⟩, .e⟩ : Crk))).length) [(0, some ⟨24, 1, [[.d (encRows R)]]⟩), (2, some ⟨65, 2, [[.d (.int .i64 y), .d (encRuns rs)]]⟩), (3, some ⟨85, 2, [[.d (.int .i64 r.a), .d (.int .i64 r.b)]]⟩)] 1 1 rfl rfl rfl (by have := gjn; omega) (idsN_length _) rfl ?_ rfl ?_ ?_ ?_ ?_ (idsN_nodup _) ?_ ?_
                · simp [upT, up, upL, push_cast, find_app, find_dynN]
                · simp [push_cast, find_dyn]
                · simp [upH, upR, upL, up, push_cast, find_app, find_dyn, find_dynN]
                · simp [namesOk, push_cast]
                · simp [olds]
                · intro x hx; have h1 := idsN_mem.1 hx; have := gjn; simp [olds]; omega
                · intro q x p hx hp1; obtain ⟨hq, rfl⟩ := idsN_get' hx; have := gjn
                  have hz := fun (e m : Nat) => SA_find (e := e) (m := m) hp1
                  simp [push_cast, find_dyn0, hz]
                  repeat rw [if_neg (by omega)]
                  try rfl
            · have hje : (r.b - r.a).toNat ≤ j := by simp at hb; omega
              rw [eRun_end y r hje, List.nil_append, ← hT1] at hacc
              refine awp_region cx [] fun K hK => ?_
              simp [push_cast, e0]
              repeat (refine And.intro (by clear hK; intros; first | omega | (simp_all; done) | (simp_all <;> omega)) ?_)
              refine hK _ ?_; clear hK K; refine Nav.imp ?_
              refine ⟨(k + 1, A), ⟨hlt, hacc⟩, by simp only; omega, ?_⟩
              refine weak_map (A := kl (A)) [(0, some 0), (1, some 1), (2, some 2)] (idsN (kl (A)).length) [(0, some ⟨24, 1, [[.d (encRows R)]]⟩), (2, some ⟨65, 2, [[.d (.int .i64 y), .d (encRuns rs)]]⟩)] 1 1 rfl rfl rfl (by have := gj.2.1; omega) (idsN_length _) rfl ?_ rfl ?_ ?_ ?_ ?_ (idsN_nodup _) ?_ ?_
              · simp [upT, up, upL, push_cast, find_app, find_dynN]
              · simp [push_cast, find_dyn]
              · simp [upH, upR, upL, up, push_cast, find_app, find_dyn, find_dynN]
              · simp [namesOk, push_cast]
              · simp [olds]
              · intro x hx; have h1 := idsN_mem.1 hx; have := gj.2.1; simp [olds]; omega
              · intro q x p hx hp1; obtain ⟨hq, rfl⟩ := idsN_get' hx; have := gj.2.1
                have hz := fun (e m : Nat) => SA_find (e := e) (m := m) hp1
                simp [push_cast, find_dyn0, hz]
                repeat rw [if_neg (by omega)]
                try rfl
        · have hke : k = L1.length := by simp at hb; omega
          subst hke
          rw [List.drop_length, List.flatMap_nil, List.nil_append] at hacc
          rw [← hT] at hacc
          have ga := hacc.good hbig
          have hL := hL2
          clear hT
          generalize hT : rs.flatMap (vRun y) ++ T3 = T at hacc
          refine awp_region cx [(3, .p (encRuns L2))] fun K hK => ?_
          simp [push_cast, c3]
          repeat (refine And.intro (by clear hK; intros; first | omega | (simp_all; done) | (simp_all <;> omega)) ?_)
          refine hK _ ?_; clear hK K; refine Nav.imp ?_
          refine awp_loop (β := Nat × List (Cell × List Hd)) (fun s => ⟨106, [(1, .ptr 0 0 0), (3, .hm 1), (18, .d (encRows R)), (19, .d (.int .i64 R.length)), (20, .d (.int .i64 i)), (5, .ptr 2 0 0), (58, .d (encRuns L2)), (59, .d (.int .i64 L2.length)), (60, .d (.int .i64 s.1))], (1, some ⟨118, mapM, mrows (idsN (kl (s.2)).length) (kl (s.2))⟩) :: [(0, some ⟨24, 1, [[.d (encRows R)]]⟩), (2, some ⟨65, 2, [[.d (.int .i64 y), .d (encRuns rs)]]⟩)] ++ dyn 178 1 0 (SA (kl (s.2))), 1000000000000⟩) (fun s => s.1 ≤ L2.length ∧ Acc full s.2 ((L2.drop s.1).flatMap (wRun y) ++ T)) (fun s => L2.length - s.1) (0, A) ?_ ⟨Nat.zero_le _, by simpa using hacc⟩ ?_
          · refine weak_map (A := kl (A)) [(0, some 0), (1, some 1), (2, some 2)] (idsN (kl (A)).length) [(0, some ⟨24, 1, [[.d (encRows R)]]⟩), (2, some ⟨65, 2, [[.d (.int .i64 y), .d (encRuns rs)]]⟩)] 1 1 rfl rfl rfl (by have := ga.2.1; omega) (idsN_length _) rfl ?_ rfl ?_ ?_ ?_ ?_ (idsN_nodup _) ?_ ?_
            · simp [upT, up, upL, push_cast, find_app, find_dynN]
            · simp [push_cast, find_dyn]
            · simp [upH, upR, upL, up, push_cast, find_app, find_dyn, find_dynN]
            · simp [namesOk, push_cast]
            · simp [olds]
            · intro x hx; have h1 := idsN_mem.1 hx; have := ga.2.1; simp [olds]; omega
            · intro q x p hx hp1; obtain ⟨hq, rfl⟩ := idsN_get' hx; have := ga.2.1
              have hz := fun (e m : Nat) => SA_find (e := e) (m := m) hp1
              simp [push_cast, find_dyn0, hz]
              repeat rw [if_neg (by omega)]
              try rfl
          · rintro ⟨k, A⟩ ⟨hk, hacc⟩
            simp only at hk hacc
            have gk := hacc.good hbig
            refine Nav.imp ?_
            refine awp_region cx [] fun K hK => ?_
            simp [push_cast]
            repeat (refine And.intro (by clear hK; intros; first | omega | (simp_all; done) | (simp_all <;> omega)) ?_)
            refine hK _ ?_; clear hK K; refine Nav.imp ?_
            refine awp_cond (b := decide ((k : Int) < L2.length)) (by simp [push_cast]) (fun hb => ?_) (fun hb => ?_) <;> (refine Nav.imp ?_)
            · have hlt : k < L2.length := by simpa using hb
              obtain ⟨r, hr⟩ := getq hlt
              have hrb := hL r (List.mem_of_getElem? hr)
              have e0 := wrap_i64 (n := (k : Int) + 1) (by omega) (by omega)
              rw [drop_get hr, List.flatMap_cons, List.append_assoc] at hacc
              refine awp_region cx [] fun K hK => ?_
              simp [push_cast, hr]
              repeat (refine And.intro (by clear hK; intros; first | omega | (simp_all; done) | (simp_all <;> omega)) ?_)
              refine hK _ ?_; clear hK K; refine Nav.imp ?_
              refine awp_region cx [] fun K hK => ?_
              simp [push_cast]
              repeat (refine And.intro (by clear hK; intros; first | omega | (simp_all; done) | (simp_all <;> omega)) ?_)
              refine hK _ ?_; clear hK K; refine Nav.imp ?_
              generalize hT1 : (L2.drop (k + 1)).flatMap (wRun y) ++ T = T1 at hacc
              refine awp_loop (β := Nat × List (Cell × List Hd)) (fun s => ⟨106, [(1, .ptr 0 0 0), (3, .hm 1), (18, .d (encRows R)), (19, .d (.int .i64 R.length)), (20, .d (.int .i64 i)), (5, .ptr 2 0 0), (58, .d (encRuns L2)), (59, .d (.int .i64 L2.length)), (60, .d (.int .i64 k)), (12, .ptr 3 0 0), (13, .d (.int .i64 (r.a + s.1)))], (1, some ⟨118, mapM, mrows (idsN (kl (s.2)).length) (kl (s.2))⟩) :: [(0, some ⟨24, 1, [[.d (encRows R)]]⟩), (2, some ⟨65, 2, [[.d (.int .i64 y), .d (encRuns rs)]]⟩), (3, some ⟨85, 2, [[.d (.int .i64 r.a), .d (.int .i64 r.b)]]⟩)] ++ dyn 178 1 0 (SA (kl (s.2))), 1000000000000⟩) (fun s => s.1 ≤ (r.b - r.a).toNat ∧ Acc full s.2 ((wRun y r).drop s.1 ++ T1)) (fun s => (r.b - r.a).toNat - s.1) (0, A) ?_ ⟨Nat.zero_le _, by simpa using hacc⟩ ?_
              · simp only [Int.natCast_zero, Int.add_zero]
                refine weak_map (A := kl (A)) [(0, some 0), (1, some 1), (2, some 2), (3, some 1000000000003)] (idsN (kl (A)).length) [(0, some ⟨24, 1, [[.d (encRows R)]]⟩), (2, some ⟨65, 2, [[.d (.int .i64 y), .d (encRuns rs)]]⟩), (3, some ⟨85, 2, [[.d (.int .i64 r.a), .d (.int .i64 r.b)]]⟩)] 1 1 rfl rfl rfl (by have := gk.2.1; omega) (idsN_length _) rfl ?_ rfl ?_ ?_ ?_ ?_ (idsN_nodup _) ?_ ?_
                · simp [upT, up, upL, push_cast, find_app, find_dynN]
                · simp [push_cast, find_dyn]
                · simp [upH, upR, upL, up, push_cast, find_app, find_dyn, find_dynN]
                · simp [namesOk, push_cast]
                · simp [olds]
                · intro x hx; have h1 := idsN_mem.1 hx; have := gk.2.1; simp [olds]; omega
                · intro q x p hx hp1; obtain ⟨hq, rfl⟩ := idsN_get' hx; have := gk.2.1
                  have hz := fun (e m : Nat) => SA_find (e := e) (m := m) hp1
                  simp [push_cast, find_dyn0, hz]
                  repeat rw [if_neg (by omega)]
                  try rfl
              · rintro ⟨j, A⟩ ⟨hj, hacc⟩
                simp only at hj hacc
                have gj := hacc.good hbig
                refine Nav.imp ?_
                refine awp_region cx [] fun K hK => ?_
                simp [push_cast]
                repeat (refine And.intro (by clear hK; intros; first | omega | (simp_all; done) | (simp_all <;> omega)) ?_)
                refine hK _ ?_; clear hK K; refine Nav.imp ?_
                refine awp_cond (b := decide (r.a + (j : Int) < r.b)) (by simp [push_cast]) (fun hb => ?_) (fun hb => ?_) <;> (refine Nav.imp ?_)
                · have hjl : j < (r.b - r.a).toNat := by simp at hb; omega
                  rw [wRun_drop y r hjl, List.cons_append] at hacc
                  have hacc2 := hacc.next
                  have gjn := (hacc2.good hbig).2.1
                  have e1 := wrap_i64 (n := r.a + (j : Int) + 1) (by omega) (by omega)
                  have e3 := wrap_i64 (n := y + 1) (by omega) (by omega)
                  refine awp_region_map cx [] [_, _, _, _, _, _, _] _ rfl rfl rfl rfl ⟨106, [(72, .hm 1), (78, .d (.agg (⟨⟨r.a + (j : Int) + 1, y + 1⟩, .w⟩ : Crk).p.row)), (1, .ptr 0 0 0), (3, .hm 1), (18, .d (encRows R)), (19, .d (.int .i64 R.length)), (20, .d (.int .i64 i)), (5, .ptr 2 0 0), (58, .d (encRuns L2)), (59, .d (.int .i64 L2.length)), (60, .d (.int .i64 k)), (12, .ptr 3 0 0), (13, .d (.int .i64 (r.a + j)))], (1, some ⟨118, mapM, mrows (idsN (kl (A)).length) (kl (A))⟩) :: [(0, some ⟨24, 1, [[.d (encRows R)]]⟩), (2, some ⟨65, 2, [[.d (.int .i64 y), .d (encRuns rs)]]⟩), (3, some ⟨85, 2, [[.d (.int .i64 r.a), .d (.int .i64 r.b)]]⟩)] ++ dyn 178 1 0 (SA (kl (A))), 1000000000000⟩ 138 [] rfl [.hm 0, .d (.agg (⟨⟨r.a + (j : Int) + 1, y + 1⟩, .w⟩ : Crk).p.row), .d (.int .i64 2)] (kl (A)) (kl (addA (A) (⟨⟨r.a + (j : Int) + 1, y + 1⟩, .w⟩ : Crk))) 1 rfl (by decide) (objs_dyn rfl) (Nat.le_refl _) (add_px (A) (⟨⟨r.a + (j : Int) + 1, y + 1⟩, .w⟩ : Crk) gj.1 gj.2.2) (by have := gj.2.1; omega) (by have := gjn; omega) (by simp [rnsOk, rn, push_cast]) (Nat.le_of_ble_eq_true rfl) [(0, some 0), (1, some 1), (2, some 2), (3, some 3)] [(1, .ptr 0 0 0), (3, .hm 1), (18, .d (encRows R)), (19, .d (.int .i64 R.length)), (20, .d (.int .i64 i)), (5, .ptr 2 0 0), (58, .d (encRuns L2)), (59, .d (.int .i64 L2.length)), (60, .d (.int .i64 k)), (12, .ptr 3 0 0), (13, .d (.int .i64 (r.a + j)))] [(0, some ⟨24, 1, [[.d (encRows R)]]⟩), (2, some ⟨65, 2, [[.d (.int .i64 y), .d (encRuns rs)]]⟩), (3, some ⟨85, 2, [[.d (.int .i64 r.a), .d (.int .i64 r.b)]]⟩)] rfl rfl rfl rfl (by intro k hk h; simp only [find] at h; (repeat' split at h) <;> simp_all) rfl ?_ ?_ ?_ ?_ ?_ ?_
                  · simp [upT, up, upL, push_cast, find_app, find_dynN]
                  · simp [upH, upR, upL, up, push_cast, find_app, find_dyn, find_dynN]
                  · simp [namesOk, push_cast]
                  · simp [olds]
                  · intro K hK
                    simp [push_cast, e1, e3]
                    refine hK _ ?_
                    refine weak_map (A := kl (A)) [(0, some 0), (1, some 1), (2, some 2), (3, some 3)] (idsN (kl (A)).length) [(0, some ⟨24, 1, [[.d (encRows R)]]⟩), (2, some ⟨65, 2, [[.d (.int .i64 y), .d (encRuns rs)]]⟩), (3, some ⟨85, 2, [[.d (.int .i64 r.a), .d (.int .i64 r.b)]]⟩)] 1 1 rfl rfl rfl (by have := gj.2.1; omega) (idsN_length _) rfl ?_ rfl ?_ ?_ ?_ ?_ (idsN_nodup _) ?_ ?_
                    · simp [upT, up, upL, push_cast, find_app, find_dynN]
                    · simp [push_cast, find_dyn]
                    · simp [upH, upR, upL, up, push_cast, find_app, find_dyn, find_dynN]
                    · simp [namesOk, push_cast]
                    · simp [olds]
                    · intro x hx; have h1 := idsN_mem.1 hx; have := gj.2.1; simp [olds]; omega
                    · intro q x p hx hp1; obtain ⟨hq, rfl⟩ := idsN_get' hx; have := gj.2.1
                      have hz := fun (e m : Nat) => SA_find (e := e) (m := m) hp1
                      simp [push_cast, find_dyn0, hz]
                      repeat rw [if_neg (by omega)]
                      try rfl
                  · refine Nav.imp ?_
                    refine awp_region cx [] fun K hK => ?_
                    simp [push_cast, e1]
                    repeat (refine And.intro (by clear hK; intros; first | omega | (simp_all; done) | (simp_all <;> omega)) ?_)
                    refine hK _ ?_; clear hK K; refine Nav.imp ?_
                    refine ⟨(j + 1, addA A (⟨⟨r.a + (j : Int) + 1, y + 1⟩, .w⟩ : Crk)), ⟨hjl, hacc2⟩, by simp only; omega, ?_⟩
                    have e2 : r.a + ((j + 1 : Nat) : Int) = r.a + (j : Int) + 1 := by omega
                    simp only [e2]
                    refine weak_map (A := kl (addA A (⟨⟨r.a + (j : Int) + 1, y + 1⟩, .w⟩ : Crk))) [(0, some 0), (1, some 1), (2, some 2), (3, some 3)] (idsN (kl (addA A (⟨⟨r.a + (j : Int) + 1, y + 1⟩, .w⟩ : Crk))).length) [(0, some ⟨24, 1, [[.d (encRows R)]]⟩), (2, some ⟨65, 2, [[.d (.int .i64 y), .d (encRuns rs)]]⟩), (3, some ⟨85, 2, [[.d (.int .i64 r.a), .d (.int .i64 r.b)]]⟩)] 1 1 rfl rfl rfl (by have := gjn; omega) (idsN_length _) rfl ?_ rfl ?_ ?_ ?_ ?_ (idsN_nodup _) ?_ ?_
                    · simp [upT, up, upL, push_cast, find_app, find_dynN]
                    · simp [push_cast, find_dyn]
                    · simp [upH, upR, upL, up, push_cast, find_app, find_dyn, find_dynN]
                    · simp [namesOk, push_cast]
                    · simp [olds]
                    · intro x hx; have h1 := idsN_mem.1 hx; have := gjn; simp [olds]; omega
                    · intro q x p hx hp1; obtain ⟨hq, rfl⟩ := idsN_get' hx; have := gjn
                      have hz := fun (e m : Nat) => SA_find (e := e) (m := m) hp1
                      simp [push_cast, find_dyn0, hz]
                      repeat rw [if_neg (by omega)]
                      try rfl
                · have hje : (r.b - r.a).toNat ≤ j := by simp at hb; omega
                  rw [wRun_end y r hje, List.nil_append, ← hT1] at hacc
                  refine awp_region cx [] fun K hK => ?_
                  simp [push_cast, e0]
                  repeat (refine And.intro (by clear hK; intros; first | omega | (simp_all; done) | (simp_all <;> omega)) ?_)
                  refine hK _ ?_; clear hK K; refine Nav.imp ?_
                  refine ⟨(k + 1, A), ⟨hlt, hacc⟩, by simp only; omega, ?_⟩
                  refine weak_map (A := kl (A)) [(0, some 0), (1, some 1), (2, some 2)] (idsN (kl (A)).length) [(0, some ⟨24, 1, [[.d (encRows R)]]⟩), (2, some ⟨65, 2, [[.d (.int .i64 y), .d (encRuns rs)]]⟩)] 1 1 rfl rfl rfl (by have := gj.2.1; omega) (idsN_length _) rfl ?_ rfl ?_ ?_ ?_ ?_ (idsN_nodup _) ?_ ?_
                  · simp [upT, up, upL, push_cast, find_app, find_dynN]
                  · simp [push_cast, find_dyn]
                  · simp [upH, upR, upL, up, push_cast, find_app, find_dyn, find_dynN]
                  · simp [namesOk, push_cast]
                  · simp [olds]
                  · intro x hx; have h1 := idsN_mem.1 hx; have := gj.2.1; simp [olds]; omega
                  · intro q x p hx hp1; obtain ⟨hq, rfl⟩ := idsN_get' hx; have := gj.2.1
                    have hz := fun (e m : Nat) => SA_find (e := e) (m := m) hp1
                    simp [push_cast, find_dyn0, hz]
                    repeat rw [if_neg (by omega)]
                    try rfl
            · have hke : k = L2.length := by simp at hb; omega
              subst hke
              rw [List.drop_length, List.flatMap_nil, List.nil_append] at hacc
              rw [← hT] at hacc
              have ga := hacc.good hbig
              clear hT
              obtain ⟨T, hT⟩ : ∃ T, T = T3 := ⟨_, rfl⟩
              rw [← hT] at hacc
              refine awp_region cx [] fun K hK => ?_
              simp [push_cast]
              repeat (refine And.intro (by clear hK; intros; first | omega | (simp_all; done) | (simp_all <;> omega)) ?_)
              refine hK _ ?_; clear hK K; refine Nav.imp ?_
              refine awp_loop (β := Nat × List (Cell × List Hd)) (fun s => ⟨106, [(1, .ptr 0 0 0), (3, .hm 1), (18, .d (encRows R)), (19, .d (.int .i64 R.length)), (20, .d (.int .i64 i)), (5, .ptr 2 0 0), (82, .d (encRuns rs)), (83, .d (.int .i64 rs.length)), (84, .d (.int .i64 s.1))], (1, some ⟨118, mapM, mrows (idsN (kl (s.2)).length) (kl (s.2))⟩) :: [(0, some ⟨24, 1, [[.d (encRows R)]]⟩), (2, some ⟨65, 2, [[.d (.int .i64 y), .d (encRuns rs)]]⟩)] ++ dyn 178 1 0 (SA (kl (s.2))), 1000000000000⟩) (fun s => s.1 ≤ rs.length ∧ Acc full s.2 ((rs.drop s.1).flatMap (vRun y) ++ T)) (fun s => rs.length - s.1) (0, A) ?_ ⟨Nat.zero_le _, by simpa using hacc⟩ ?_
              · refine weak_map (A := kl (A)) [(0, some 0), (1, some 1), (2, some 2)] (idsN (kl (A)).length) [(0, some ⟨24, 1, [[.d (encRows R)]]⟩), (2, some ⟨65, 2, [[.d (.int .i64 y), .d (encRuns rs)]]⟩)] 1 1 rfl rfl rfl (by have := ga.2.1; omega) (idsN_length _) rfl ?_ rfl ?_ ?_ ?_ ?_ (idsN_nodup _) ?_ ?_
                · simp [upT, up, upL, push_cast, find_app, find_dynN]
                · simp [push_cast, find_dyn]
                · simp [upH, upR, upL, up, push_cast, find_app, find_dyn, find_dynN]
                · simp [namesOk, push_cast]
                · simp [olds]
                · intro x hx; have h1 := idsN_mem.1 hx; have := ga.2.1; simp [olds]; omega
                · intro q x p hx hp1; obtain ⟨hq, rfl⟩ := idsN_get' hx; have := ga.2.1
                  have hz := fun (e m : Nat) => SA_find (e := e) (m := m) hp1
                  simp [push_cast, find_dyn0, hz]
                  repeat rw [if_neg (by omega)]
                  try rfl
              · rintro ⟨k, A⟩ ⟨hk, hacc⟩
                simp only at hk hacc
                have gk := hacc.good hbig
                refine Nav.imp ?_
                refine awp_region cx [] fun K hK => ?_
                simp [push_cast]
                repeat (refine And.intro (by clear hK; intros; first | omega | (simp_all; done) | (simp_all <;> omega)) ?_)
                refine hK _ ?_; clear hK K; refine Nav.imp ?_
                refine awp_cond (b := decide ((k : Int) < rs.length)) (by simp [push_cast]) (fun hb => ?_) (fun hb => ?_) <;> (refine Nav.imp ?_)
                · have hlt : k < rs.length := by simpa using hb
                  obtain ⟨r, hr⟩ := getq hlt
                  have hrb := hrs r (List.mem_of_getElem? hr)
                  have e0 := wrap_i64 (n := (k : Int) + 1) (by omega) (by omega)
                  have e3 := wrap_i64 (n := y + 1) (by omega) (by omega)
                  rw [drop_get hr, List.flatMap_cons, List.append_assoc] at hacc
                  have hacc2 : Acc full (addA A (⟨⟨r.b, y⟩, .n⟩ : Crk)) ((⟨⟨r.a, y + 1⟩, .s⟩ : Crk) :: ((rs.drop (k + 1)).flatMap (vRun y) ++ T)) := hacc.next
                  have g2 := hacc2.good hbig
                  have gkn := g2.2.1
                  have hacc3 := hacc2.next
                  have g2n := (hacc3.good hbig).2.1
                  refine awp_region cx [] fun K hK => ?_
                  simp [push_cast, hr]
                  repeat (refine And.intro (by clear hK; intros; first | omega | (simp_all; done) | (simp_all <;> omega)) ?_)
                  refine hK _ ?_; clear hK K; refine Nav.imp ?_
                  refine awp_weak (s' := ⟨106, [(1, .ptr 0 0 0), (3, .hm 1), (18, .d (encRows R)), (19, .d (.int .i64 R.length)), (20, .d (.int .i64 i)), (5, .ptr 2 0 0), (82, .d (encRuns rs)), (83, .d (.int .i64 rs.length)), (84, .d (.int .i64 k)), (15, .ptr 3 0 0)], (1, some ⟨118, mapM, mrows (idsN (kl (A)).length) (kl (A))⟩) :: [(0, some ⟨24, 1, [[.d (encRows R)]]⟩), (2, some ⟨65, 2, [[.d (.int .i64 y), .d (encRuns rs)]]⟩), (3, some ⟨85, 2, [[.d (.int .i64 r.a), .d (.int .i64 r.b)]]⟩)] ++ dyn 178 1 0 (SA (kl (A))), 1000000000000⟩) ?_ ?_
                  · refine weak_map (A := kl (A)) [(0, some 0), (1, some 1), (2, some 2), (3, some 1000000000003)] (idsN (kl (A)).length) [(0, some ⟨24, 1, [[.d (encRows R)]]⟩), (2, some ⟨65, 2, [[.d (.int .i64 y), .d (encRuns rs)]]⟩), (3, some ⟨85, 2, [[.d (.int .i64 r.a), .d (.int .i64 r.b)]]⟩)] 1 1 rfl rfl rfl (by have := gk.2.1; omega) (idsN_length _) rfl ?_ rfl ?_ ?_ ?_ ?_ (idsN_nodup _) ?_ ?_
                    · simp [upT, up, upL, push_cast, find_app, find_dynN]
                    · simp [push_cast, find_dyn]
                    · simp [upH, upR, upL, up, push_cast, find_app, find_dyn, find_dynN]
                    · simp [namesOk, push_cast]
                    · simp [olds]
                    · intro x hx; have h1 := idsN_mem.1 hx; have := gk.2.1; simp [olds]; omega
                    · intro q x p hx hp1; obtain ⟨hq, rfl⟩ := idsN_get' hx; have := gk.2.1
                      have hz := fun (e m : Nat) => SA_find (e := e) (m := m) hp1
                      simp [push_cast, find_dyn0, hz]
                      repeat rw [if_neg (by omega)]
                      try rfl
                  · refine awp_region_map cx [] [_, _, _, _, _, _] _ rfl rfl rfl rfl ⟨106, [(88, .hm 1), (93, .d (.agg (⟨⟨r.b, y⟩, .n⟩ : Crk).p.row)), (1, .ptr 0 0 0), (3, .hm 1), (18, .d (encRows R)), (19, .d (.int .i64 R.length)), (20, .d (.int .i64 i)), (5, .ptr 2 0 0), (82, .d (encRuns rs)), (83, .d (.int .i64 rs.length)), (84, .d (.int .i64 k)), (15, .ptr 3 0 0)], (1, some ⟨118, mapM, mrows (idsN (kl (A)).length) (kl (A))⟩) :: [(0, some ⟨24, 1, [[.d (encRows R)]]⟩), (2, some ⟨65, 2, [[.d (.int .i64 y), .d (encRuns rs)]]⟩), (3, some ⟨85, 2, [[.d (.int .i64 r.a), .d (.int .i64 r.b)]]⟩)] ++ dyn 178 1 0 (SA (kl (A))), 1000000000000⟩ 138 [] rfl [.hm 0, .d (.agg (⟨⟨r.b, y⟩, .n⟩ : Crk).p.row), .d (.int .i64 1)] (kl (A)) (kl (addA (A) (⟨⟨r.b, y⟩, .n⟩ : Crk))) 1 rfl (by decide) (objs_dyn rfl) (Nat.le_refl _) (add_px (A) (⟨⟨r.b, y⟩, .n⟩ : Crk) gk.1 gk.2.2) (by have := gk.2.1; omega) (by have := gkn; omega) (by simp [rnsOk, rn, push_cast]) (Nat.le_of_ble_eq_true rfl) [(0, some 0), (1, some 1), (2, some 2), (3, some 3)] [(1, .ptr 0 0 0), (3, .hm 1), (18, .d (encRows R)), (19, .d (.int .i64 R.length)), (20, .d (.int .i64 i)), (5, .ptr 2 0 0), (82, .d (encRuns rs)), (83, .d (.int .i64 rs.length)), (84, .d (.int .i64 k)), (15, .ptr 3 0 0)] [(0, some ⟨24, 1, [[.d (encRows R)]]⟩), (2, some ⟨65, 2, [[.d (.int .i64 y), .d (encRuns rs)]]⟩), (3, some ⟨85, 2, [[.d (.int .i64 r.a), .d (.int .i64 r.b)]]⟩)] rfl rfl rfl rfl (by intro k hk h; simp only [find] at h; (repeat' split at h) <;> simp_all) rfl ?_ ?_ ?_ ?_ ?_ ?_
                    · simp [upT, up, upL, push_cast, find_app, find_dynN]
                    · simp [upH, upR, upL, up, push_cast, find_app, find_dyn, find_dynN]
                    · simp [namesOk, push_cast]
                    · simp [olds]
                    · intro K hK
                      simp [push_cast]
                      refine hK _ ?_
                      refine weak_map (A := kl (A)) [(0, some 0), (1, some 1), (2, some 2), (3, some 3)] (idsN (kl (A)).length) [(0, some ⟨24, 1, [[.d (encRows R)]]⟩), (2, some ⟨65, 2, [[.d (.int .i64 y), .d (encRuns rs)]]⟩), (3, some ⟨85, 2, [[.d (.int .i64 r.a), .d (.int .i64 r.b)]]⟩)] 1 1 rfl rfl rfl (by have := gk.2.1; omega) (idsN_length _) rfl ?_ rfl ?_ ?_ ?_ ?_ (idsN_nodup _) ?_ ?_
                      · simp [upT, up, upL, push_cast, find_app, find_dynN]
                      · simp [push_cast, find_dyn]
                      · simp [upH, upR, upL, up, push_cast, find_app, find_dyn, find_dynN]
                      · simp [namesOk, push_cast]
                      · simp [olds]
                      · intro x hx; have h1 := idsN_mem.1 hx; have := gk.2.1; simp [olds]; omega
                      · intro q x p hx hp1; obtain ⟨hq, rfl⟩ := idsN_get' hx; have := gk.2.1
                        have hz := fun (e m : Nat) => SA_find (e := e) (m := m) hp1
                        simp [push_cast, find_dyn0, hz]
                        repeat rw [if_neg (by omega)]
                        try rfl
                    · refine Nav.imp ?_
                      refine awp_region_map cx [] [_, _, _, _, _, _, _] _ rfl rfl rfl rfl ⟨106, [(95, .hm 1), (101, .d (.agg (⟨⟨r.a, y + 1⟩, .s⟩ : Crk).p.row)), (1, .ptr 0 0 0), (3, .hm 1), (18, .d (encRows R)), (19, .d (.int .i64 R.length)), (20, .d (.int .i64 i)), (5, .ptr 2 0 0), (82, .d (encRuns rs)), (83, .d (.int .i64 rs.length)), (84, .d (.int .i64 k)), (15, .ptr 3 0 0)], (1, some ⟨118, mapM, mrows (idsN (kl ((addA A (⟨⟨r.b, y⟩, .n⟩ : Crk)))).length) (kl ((addA A (⟨⟨r.b, y⟩, .n⟩ : Crk))))⟩) :: [(0, some ⟨24, 1, [[.d (encRows R)]]⟩), (2, some ⟨65, 2, [[.d (.int .i64 y), .d (encRuns rs)]]⟩), (3, some ⟨85, 2, [[.d (.int .i64 r.a), .d (.int .i64 r.b)]]⟩)] ++ dyn 178 1 0 (SA (kl ((addA A (⟨⟨r.b, y⟩, .n⟩ : Crk))))), 1000000000000⟩ 138 [] rfl [.hm 0, .d (.agg (⟨⟨r.a, y + 1⟩, .s⟩ : Crk).p.row), .d (.int .i64 3)] (kl ((addA A (⟨⟨r.b, y⟩, .n⟩ : Crk)))) (kl (addA ((addA A (⟨⟨r.b, y⟩, .n⟩ : Crk))) (⟨⟨r.a, y + 1⟩, .s⟩ : Crk))) 1 rfl (by decide) (objs_dyn rfl) (Nat.le_refl _) (add_px ((addA A (⟨⟨r.b, y⟩, .n⟩ : Crk))) (⟨⟨r.a, y + 1⟩, .s⟩ : Crk) g2.1 g2.2.2) (by have := g2.2.1; omega) (by have := g2n; omega) (by simp [rnsOk, rn, push_cast]) (Nat.le_of_ble_eq_true rfl) [(0, some 0), (1, some 1), (2, some 2), (3, some 3)] [(1, .ptr 0 0 0), (3, .hm 1), (18, .d (encRows R)), (19, .d (.int .i64 R.length)), (20, .d (.int .i64 i)), (5, .ptr 2 0 0), (82, .d (encRuns rs)), (83, .d (.int .i64 rs.length)), (84, .d (.int .i64 k)), (15, .ptr 3 0 0)] [(0, some ⟨24, 1, [[.d (encRows R)]]⟩), (2, some ⟨65, 2, [[.d (.int .i64 y), .d (encRuns rs)]]⟩), (3, some ⟨85, 2, [[.d (.int .i64 r.a), .d (.int .i64 r.b)]]⟩)] rfl rfl rfl rfl (by intro k hk h; simp only [find] at h; (repeat' split at h) <;> simp_all) rfl ?_ ?_ ?_ ?_ ?_ ?_
                      · simp [upT, up, upL, push_cast, find_app, find_dynN]
                      · simp [upH, upR, upL, up, push_cast, find_app, find_dyn, find_dynN]
                      · simp [namesOk, push_cast]
                      · simp [olds]
                      · intro K hK
                        simp [push_cast, e3]
                        refine hK _ ?_
                        refine weak_map (A := kl ((addA A (⟨⟨r.b, y⟩, .n⟩ : Crk)))) [(0, some 0), (1, some 1), (2, some 2), (3, some 3)] (idsN (kl ((addA A (⟨⟨r.b, y⟩, .n⟩ : Crk)))).length) [(0, some ⟨24, 1, [[.d (encRows R)]]⟩), (2, some ⟨65, 2, [[.d (.int .i64 y), .d (encRuns rs)]]⟩), (3, some ⟨85, 2, [[.d (.int .i64 r.a), .d (.int .i64 r.b)]]⟩)] 1 1 rfl rfl rfl (by have := g2.2.1; omega) (idsN_length _) rfl ?_ rfl ?_ ?_ ?_ ?_ (idsN_nodup _) ?_ ?_
                        · simp [upT, up, upL, push_cast, find_app, find_dynN]
                        · simp [push_cast, find_dyn]
                        · simp [upH, upR, upL, up, push_cast, find_app, find_dyn, find_dynN]
                        · simp [namesOk, push_cast]
                        · simp [olds]
                        · intro x hx; have h1 := idsN_mem.1 hx; have := g2.2.1; simp [olds]; omega
                        · intro q x p hx hp1; obtain ⟨hq, rfl⟩ := idsN_get' hx; have := g2.2.1
                          have hz := fun (e m : Nat) => SA_find (e := e) (m := m) hp1
                          simp [push_cast, find_dyn0, hz]
                          repeat rw [if_neg (by omega)]
                          try rfl
                      · refine Nav.imp ?_
                        refine awp_region cx [] fun K hK => ?_
                        simp [push_cast, e0]
                        repeat (refine And.intro (by clear hK; intros; first | omega | (simp_all; done) | (simp_all <;> omega)) ?_)
                        refine hK _ ?_; clear hK K; refine Nav.imp ?_
                        refine ⟨(k + 1, addA (addA A (⟨⟨r.b, y⟩, .n⟩ : Crk)) (⟨⟨r.a, y + 1⟩, .s⟩ : Crk)), ⟨hlt, hacc3⟩, by simp only; omega, ?_⟩
                        refine weak_map (A := kl (addA (addA A (⟨⟨r.b, y⟩, .n⟩ : Crk)) (⟨⟨r.a, y + 1⟩, .s⟩ : Crk))) [(0, some 0), (1, some 1), (2, some 2)] (idsN (kl (addA (addA A (⟨⟨r.b, y⟩, .n⟩ : Crk)) (⟨⟨r.a, y + 1⟩, .s⟩ : Crk))).length) [(0, some ⟨24, 1, [[.d (encRows R)]]⟩), (2, some ⟨65, 2, [[.d (.int .i64 y), .d (encRuns rs)]]⟩)] 1 1 rfl rfl rfl (by have := g2n; omega) (idsN_length _) rfl ?_ rfl ?_ ?_ ?_ ?_ (idsN_nodup _) ?_ ?_
                        · simp [upT, up, upL, push_cast, find_app, find_dynN]
                        · simp [push_cast, find_dyn]
                        · simp [upH, upR, upL, up, push_cast, find_app, find_dyn, find_dynN]
                        · simp [namesOk, push_cast]
                        · simp [olds]
                        · intro x hx; have h1 := idsN_mem.1 hx; have := g2n; simp [olds]; omega
                        · intro q x p hx hp1; obtain ⟨hq, rfl⟩ := idsN_get' hx; have := g2n
                          have hz := fun (e m : Nat) => SA_find (e := e) (m := m) hp1
                          simp [push_cast, find_dyn0, hz]
                          repeat rw [if_neg (by omega)]
                          try rfl
                · have hke : k = rs.length := by simp at hb; omega
                  subst hke
                  rw [List.drop_length, List.flatMap_nil, List.nil_append] at hacc
                  refine awp_region cx [] fun K hK => ?_
                  simp [push_cast, e0]
                  repeat (refine And.intro (by clear hK; intros; first | omega | (simp_all; done) | (simp_all <;> omega)) ?_)
                  refine hK _ ?_; clear hK K; refine Nav.imp ?_
                  refine ⟨(i + 1, A), ⟨hlt, by rw [hT, ← hT3] at hacc; exact hacc⟩, by simp only; omega, ?_⟩
                  refine weak_map (A := kl (A)) [(0, some 0), (1, some 1)] (idsN (kl (A)).length) [(0, some ⟨24, 1, [[.d (encRows R)]]⟩)] 1 1 rfl rfl rfl (by have := gk.2.1; omega) (idsN_length _) rfl ?_ rfl ?_ ?_ ?_ ?_ (idsN_nodup _) ?_ ?_
                  · simp [upT, up, upL, push_cast, find_app, find_dynN]
                  · simp [push_cast, find_dyn]
                  · simp [upH, upR, upL, up, push_cast, find_app, find_dyn, find_dynN]
                  · simp [namesOk, push_cast]
                  · simp [olds]
                  · intro x hx; have h1 := idsN_mem.1 hx; have := gk.2.1; simp [olds]; omega
                  · intro q x p hx hp1; obtain ⟨hq, rfl⟩ := idsN_get' hx; have := gk.2.1
                    have hz := fun (e m : Nat) => SA_find (e := e) (m := m) hp1
                    simp [push_cast, find_dyn0, hz]
                    repeat rw [if_neg (by omega)]
                    try rfl
    · have hie : i = R.length := by simp at hb; omega
      subst hie
      rw [List.drop_length, List.flatMap_nil] at hacc
      obtain ⟨pre, hpre, hfe⟩ := hacc
      rw [List.append_nil] at hfe
      subst hfe
      subst hpre
      generalize hAA : addAll [] full = AA at *
      refine awp_weak (s' := ⟨106, [(3, .hm 1)], (1, some ⟨118, mapM, mrows (idsN (kl (AA)).length) (kl (AA))⟩) :: [] ++ dyn 178 1 0 (SA (kl (AA))), 1000000000000⟩) ?_ ?_
      · refine weak_map (A := kl (AA)) [(1, some 1)] (idsN (kl (AA)).length) [] 1 1 rfl rfl rfl (by have := ga.2.1; omega) (idsN_length _) rfl ?_ rfl ?_ ?_ ?_ ?_ (idsN_nodup _) ?_ ?_
        · simp [upT, up, upL, push_cast, find_app, find_dynN]
        · simp [push_cast, find_dyn]
        · simp [upH, upR, upL, up, push_cast, find_app, find_dyn, find_dynN]
        · simp [namesOk, push_cast]
        · simp [olds]
        · intro x hx; have h1 := idsN_mem.1 hx; have := ga.2.1; simp [olds]; omega
        · intro q x p hx hp1; obtain ⟨hq, rfl⟩ := idsN_get' hx; have := ga.2.1
          have hz := fun (e m : Nat) => SA_find (e := e) (m := m) hp1
          simp [push_cast, find_dyn0, hz]
          repeat rw [if_neg (by omega)]
          try rfl
      · refine awp_weak (weak_fzmap (by decide) rfl (kl AA)) ?_
        rw [mdata_kl]
        refine awp_region cx [] fun K hK => ?_
        simp [push_cast]
        repeat (refine And.intro (by clear hK; intros; first | omega | (simp_all; done) | (simp_all <;> omega)) ?_)
        refine hK _ ?_; clear hK K; refine Nav.imp ?_
        first | refine rx_r [(0, 1)] ?_ | refine rx_n [(0, 1)] ?_
        simp [push_cast]
        try decide
end Go.Proofs.YtdddknniooimmaaGreat
