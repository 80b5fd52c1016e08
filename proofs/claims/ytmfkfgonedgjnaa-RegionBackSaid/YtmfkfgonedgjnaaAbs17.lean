/-
  The abstract machine, part 17: a contract with an owned result, seen as one with plain data; small contracts' laws.
-/
import Derived.Test.YtmfkfgonedgjnaaAbs16
set_option linter.unusedVariables false
set_option linter.unusedSimpArgs false
namespace Go.Abs
open Go.RowKit

theorem RepDs.of_cells {ro : Nat → Prop} {w : World} {row : List D} {cur : Array Value} {m i : Nat} (hl : row.length = m) (hc : i * m + m ≤ cur.size)
    (h : ∀ (j : Nat) (d : D), row[j]? = some d → ∃ u : Value, cur[i * m + j]? = some u ∧ u.oneCell' = true ∧ RepD ro w d u) :
    ∃ vs : List Value, vs.length = m ∧ RepDs ro w row vs ∧ ∀ j v, vs[j]? = some v → cur[i * m + j]? = some v ∧ v.oneCell' = true := by
  refine ⟨(cur.toList.drop (i * m)).take m, by simp; omega, RepDs.of_get (by simp; omega) fun j d hj => ?_, fun j v hj => ?_⟩
  · obtain ⟨u, h1, h2, h3⟩ := h j d hj
    refine ⟨u, ?_, h3⟩
    have hjm : j < m := by rw [← hl]; exact (List.getElem?_eq_some_iff.1 hj).1
    rw [List.getElem?_take, if_pos hjm, List.getElem?_drop]
    simpa using h1
  · have hjm : j < m := by
      rw [List.getElem?_take] at hj
      split at hj
      · assumption
      · cases hj
    rw [List.getElem?_take, if_pos hjm, List.getElem?_drop] at hj
    have hj' : cur[i * m + j]? = some v := by simpa using hj
    obtain ⟨d, hd⟩ : ∃ d, row[j]? = some d := ⟨row[j]'(by omega), List.getElem?_eq_getElem (by omega)⟩
    obtain ⟨u, h1, h2, h3⟩ := h j d hd
    rw [hj'] at h1
    cases h1
    exact ⟨hj', h2⟩

/-- An owned result may be taken as data. -/
theorem PC.data {P : Program} {f : FuncId} {ds : List D} {e : TypeId} {m : Nat} {rows : List (List D)} (h : PC P f ds (.o e m rows)) : PC P f ds (.p (.sl rows)) := by
  refine ⟨h.1, fun ro w vs hro hd => (h.2 ro w vs hro hd).mono fun ex w' ⟨v, he, hb, hr⟩ => ⟨v, he, hb, ?_⟩⟩
  simp only [RepRes, RepD, OwnRes] at hr ⊢
  obtain ⟨hm, hr⟩ := hr
  rcases hr with ⟨rfl, rfl⟩ | ⟨B, cap, cur, hB, rfl, hblk, hlen, hcap, hcs, hrows⟩
  · exact ⟨none, 0, rfl, Nat.le_refl _, by simp [maxLen], .inl rfl⟩
  · have hlt : B < w'.heap.size := by
      apply Nat.lt_of_not_le
      intro hle
      rw [Array.getElem?_eq_none hle] at hblk
      cases hblk
    refine ⟨some ⟨B, 0, none⟩, cap, rfl, hlen, hcap, .inr ⟨B, 0, m, rfl, .inr ⟨hB, hlt⟩, RepRows.of_get fun i r hi => ?_⟩⟩
    obtain ⟨h1, h2⟩ := hrows i r hi
    have hi' : i < rows.length := (List.getElem?_eq_some_iff.1 hi).1
    obtain ⟨us, hu1, hu2, hu3⟩ := RepDs.of_cells (ro := fun b => ro b ∨ w.heap.size ≤ b ∧ b < w'.heap.size) (w := w') (cur := cur) (i := i) h1 (by
      rw [hcs, ← Nat.succ_mul]; exact Nat.mul_le_mul_right _ (by omega)) fun j d hj => by
        obtain ⟨u, q1, q2, q3⟩ := h2 j d hj
        exact ⟨u, q1, q2, RepD.mono (fun b hb => ⟨hb.imp id fun h => ⟨h.1, h.2.1⟩, rfl⟩) d u q3⟩
    refine ⟨us, hu1, hu2, fun j v hj => ?_⟩
    obtain ⟨q1, q2⟩ := hu3 j v hj
    refine ⟨?_, q2⟩
    simp only [World.cell?, hblk, Nat.zero_add]
    exact q1

/-- A fresh result is a result. -/
theorem PC.fresh {P : Program} {f : FuncId} {ds : List D} {d : D} (h : PC P f ds (.f d)) : PC P f ds (.p d) :=
  ⟨h.1, fun ro w vs hro hd => (h.2 ro w vs hro hd).mono fun ex w' ⟨v, he, hb, hr⟩ => ⟨v, he, hb, by
    simp only [RepRes] at hr ⊢
    exact RepD.mono (fun b hb => ⟨.inr hb, rfl⟩) d v hr⟩⟩

theorem hasV_int {P : Program} {t : TypeId} {k : IntKind} {x : D} (hu : P.underlying t = some (.int k)) (h : hasV P t x) : ∃ n, x = .int k n ∧ (Lit.int k n).wf = true := by
  simp only [hasV, hu] at h
  obtain ⟨n, he, hw⟩ := hasT_int (f := 29) hu h
  cases he
  exact ⟨n, rfl, hw⟩
theorem wf_u16 {n : Int} (h : (Lit.int .u16 n).wf = true) : 0 ≤ n ∧ n ≤ 65535 := by
  simp [Lit.wf, IntKind.min, IntKind.max, IntKind.bits, IntKind.signed] at h
  omega
theorem wf_u8 {n : Int} (h : (Lit.int .u8 n).wf = true) : 0 ≤ n ∧ n ≤ 255 := by
  simp [Lit.wf, IntKind.min, IntKind.max, IntKind.bits, IntKind.signed] at h
  omega
theorem wf_i64 {n : Int} (h : (Lit.int .i64 n).wf = true) : -9223372036854775808 ≤ n ∧ n ≤ 9223372036854775807 := by
  simp [Lit.wf, IntKind.min, IntKind.max, IntKind.bits, IntKind.signed] at h
  omega
end Go.Abs
